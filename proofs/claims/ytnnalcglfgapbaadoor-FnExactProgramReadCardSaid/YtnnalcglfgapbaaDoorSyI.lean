/- Regions, code, functions. -/
import Derived.Test.YtnnalcglfgapbaaDoorSyO
set_option linter.unusedVariables false
set_option linter.unusedSimpArgs false
namespace Go.Proofs.Sy
open Go Go.RowKit Go.MapKept

def evs (fr : Fr) : List Operand → List AV
  | [] => []
  | x :: l => ev fr x :: evs fr l
def fnOf (fr : Fr) (x : Operand) : Option (Nat × List AV) := match ev fr x with
  | .p (.raw (.func (.func f) fs cs)) => (match fs.toList, cs.toList with
    | [], [] => some (f, [])
    | _, _ => none)
  | .fn f caps => some (f, caps)
  | _ => none
def appL (l : List AV) : List AV → List AV
  | [] => l
  | c => l ++ c
theorem appL_eq (l c : List AV) : appL l c = l ++ c := by cases c <;> simp [appL]
/-- A value is seen before one goes on. -/
def frc (v : AV) (K : AV → Prop) : Prop := match v with
  | .dead => K .dead
  | .p x => (match x with
    | .raw u => K (.p (.raw u))
    | .lst l => K (.p (.lst l))
    | .agg l => K (.p (.agg l))
    | .bx x => K (.p (.bx x)))
  | .tl l => K (.tl l)
  | .ptr b o => K (.ptr b o)
  | .el b s i o => K (.el b s i o)
  | .fp x o => K (.fp x o)
  | .row b s o n => K (.row b s o n)
  | .agg l => K (.agg l)
  | .tup l => K (.tup l)
  | .mp b => K (.mp b)
  | .fn f l => K (.fn f l)
theorem frc_eq (v : AV) (K : AV → Prop) : frc v K = K v := by
  cases v with
  | p x => cases x <;> rfl
  | _ => rfl
def frcL : List AV → (List AV → Prop) → Prop
  | [], K => K []
  | x :: l, K => frc x fun x => frcL l fun l => K (x :: l)
theorem frcL_eq : ∀ (l : List AV) (K : List AV → Prop), frcL l K = K l
  | [], K => rfl
  | x :: l, K => by simp only [frcL, frc_eq, frcL_eq l]
def frcB (k : Bk) (K : Bk → Prop) : Prop := match k with
  | .dead => K .dead
  | .box T c => frcL c fun c => K (.box T c)
  | .row T s l => K (.row T s l)
  | .lend T s l => K (.lend T s l)
  | .fz T s l => K (.fz T s l)
  | .map T l => K (.map T l)
  | .fb l => K (.fb l)
theorem frcB_eq (k : Bk) (K : Bk → Prop) : frcB k K = K k := by cases k <;> simp only [frcB, frcL_eq]
def frcS : Sto → (Sto → Prop) → Prop
  | [], K => K []
  | k :: r, K => frcB k fun k => frcS r fun r => K (k :: r)
theorem frcS_eq : ∀ (σ : Sto) (K : Sto → Prop), frcS σ K = K σ
  | [], K => rfl
  | k :: r, K => by simp only [frcS, frcB_eq, frcS_eq r]
def frcF : Fr → (Fr → Prop) → Prop
  | [], K => K []
  | (t, x) :: r, K => frc x fun x => frcF r fun r => K ((t, x) :: r)
theorem frcF_eq : ∀ (fr : Fr) (K : Fr → Prop), frcF fr K = K fr
  | [], K => rfl
  | (t, x) :: r, K => by simp only [frcF, frc_eq, frcF_eq r]
/-- A function of the runtime that gives back what it is given. -/
def SameFn (P : Program) (f : Nat) : Prop := ∃ fn, P.funcs[f]? = some fn ∧ (fn.name == "runtime.NumGoroutine") = false ∧ fn.body.isNone = true ∧ Extern.findNext fn = none ∧ Extern.find fn = some Extern.AbiNoEscape.same
def one (K : AV → Prop) : List AV → Prop
  | [x] => K x
  | _ => False
/-- What one operation asks; K is told what it yields. -/
def loudOK (wr : Option (List Nat)) (fr : Fr) : Op → Bool
  | .store _ x _ => inT wr (ev fr x)
  | .mapUpdate _ x _ _ => inT wr (ev fr x)
  | .insert _ x _ _ => inT wr (ev fr x)
  | .call c => (match c.callee, c.args.toList with
    | .builtin .append, x :: _ => inT wr (ev fr x)
    | .builtin .unsafeString, x :: _ => inT wr (ev fr x)
    | _, _ => true)
  | _ => true
section
variable {P : Program}
theorem run_equal_if {T T' : TypeId} {v : Value} {k : Array (String × TypeId)} (hu : P.underlying T = some (.interface k)) (w' : World) : (Op.equal T (.iface T' v) .nilIface).run P w' = .ok false w' := by
  have e9 : Op.maxDepth = 9999 + 1 := rfl
  unfold Op.equal
  rw [e9]
  generalize 9999 = n9
  simp only [Op.equalIn, Sem.run_bind, run_underlying hu, Result.andThen_ok, Sem.run_pure]
theorem run_equal_ifn {T : TypeId} {k : Array (String × TypeId)} (hu : P.underlying T = some (.interface k)) (w' : World) : (Op.equal T .nilIface .nilIface).run P w' = .ok true w' := by
  have e9 : Op.maxDepth = 9999 + 1 := rfl
  unfold Op.equal
  rw [e9]
  generalize 9999 = n9
  simp only [Op.equalIn, Sem.run_bind, run_underlying hu, Result.andThen_ok, Sem.run_pure]
end
/-- An interface value and the literal nil. -/
def nilIK (P : Program) (T : TypeId) (neg : Bool) (K : AV → Prop) (x : AV) : Prop := match P.underlying T, x with
  | some (.interface _), .p (.raw (.iface _ _)) => K (.p (B neg))
  | some (.interface _), .p (.raw .nilIface) => K (.p (B (!neg)))
  | _, _ => False
def payOf : Value → Option PV
  | .agg a => match a.toList with
    | [q] => match q.oneCell' with
      | true => some (.agg [.raw q])
      | false => none
    | _ => none
  | .int k n => some (.raw (.int k n))
  | .string s => some (.raw (.string s))
  | _ => none
/-- A type assertion that holds. -/
def tyK (P : Program) (T : TypeId) (K : AV → Prop) (x : AV) : Prop := match P.underlying T, x with
  | some (.interface _), _ => False
  | some _, .p (.raw (.iface t v)) => match Nat.beq t T, payOf v with
    | true, some y => K (.tup [.p y, .p (B true)])
    | _, _ => False
  | _, _ => False
theorem payOf_ok {F : Nat → Prop} {w : World} {v : Value} {y : PV} (h : payOf v = some y) : PR F w y v := by
  unfold payOf at h
  split at h
  · rename_i a
    split at h
    · rename_i q hq
      split at h
      · rename_i h1
        cases h
        have : a = [q].toArray := by rw [← hq]
        rw [this]
        exact .agg _ [q] rfl rfl (fun j z u hz hu => by
          cases j with
          | zero => simp at hz hu; subst hz; subst hu; exact .raw _ h1
          | succ j => simp at hz)
      · cases h
    · cases h
  · cases h; exact .raw _ rfl
  · cases h; exact .raw _ rfl
  · cases h
/-- An operation that leaves memory alone. -/
def quiet (P : Program) (fr : Fr) (σ : Sto) (wr_ : List Nat) (K : AV → Prop) : Op → Prop
  | .build T parts => buildK P T K (evParts fr parts.toList)
  | .lookup T x k ok => lookK P T σ wr_ ok K (ev fr x) (ev fr k)
  | .makeFunc fn first caps => fnK K fn (evs fr first.toList) (evs fr caps.toList)
  | .makeInterface T x => ifaceK P T K (ev fr x)
  | .binOp .neq T x (.const .nilIface) _ => nilIK P T true K (ev fr x)
  | .binOp .eql T x (.const .nilIface) _ => nilIK P T false K (ev fr x)
  | .typeAssert x _ T true => tyK P T K (ev fr x)
  | .call c => match c.callee, c.args.toList, c.argTypes.toList with
    | .builtin .len, [x], [T] => match P.underlying T with
      | some (.map _ _) => mlenK K σ wr_ (ev fr x)
      | _ => still P fr σ wr_ K (.call c)
    | _, _, _ => still P fr σ wr_ K (.call c)
  | o => still P fr σ wr_ K o
def loud0 (P : Program) (wr : Option (List Nat)) (fr : Fr) (σ : Sto) (K : AV → Fr → Sto → Prop) (Kp : Value → Fr → Sto → Prop) (o : Op) : Prop := match o with
  | .alloc T => match zeroAV P T with
    | some c => K (.ptr σ.length 0) fr (σ ++ [.box T c])
    | none => False
  | .box T x => match avCells (ev fr x) with
    | some c => K (.ptr σ.length 0) fr (σ ++ [.box T c])
    | none => False
  | .build T parts => buildK P T (fun v => K v fr σ) (evParts fr parts.toList)
  | .buildSlice T n parts => litK P T n σ (fun v σ' => K v fr σ') (evParts fr parts.toList)
  | .store T x y => storeK P T σ (fun σ' => K .dead fr σ') (ev fr y) (ev fr x)
  | .makeSlice T l c => makeK P T σ (fun v σ' => K v fr σ') (ev fr l) (ev fr c)
  | .call c => match c.callee with
    | .value x => match fnOf fr x with
      | some (f, caps) => (callable P f = true ∧ callK P wr fr σ K f (appL (evs fr c.args.toList) caps)) ∨ (SameFn P f ∧ one (fun v => K v fr σ) (appL (evs fr c.args.toList) caps)) ∨ (callable P f = true ∧ callE P wr fr σ K Kp f (appL (evs fr c.args.toList) caps))
      | none => False
    | .builtin .append => match c.args.toList, c.argTypes.toList with
      | [x, y], [T, T'] => match Nat.beq T T' with
        | true => appK P T fr σ K (ev fr x) (ev fr y)
        | false => appS P T T' fr σ K (ev fr x) (ev fr y)
      | _, _ => False
    | .builtin .unsafeString => match c.args.toList, c.argTypes.toList with
      | [x, y], [T, _] => usK P T fr σ K (ev fr x) (ev fr y)
      | _, _ => False
    | _ => quiet P fr σ [] (fun v => K v fr σ) (.call c)
  | .makeMap T r => match r with
    | none => K (.mp σ.length) fr (σ ++ [.map T []])
    | some _ => False
  | .mapUpdate T m k x => updK P T σ (fun σ' => K .dead fr σ') (ev fr m) (ev fr k) (ev fr x)
  | .insert T m k x => updK P T σ (fun σ' => K .dead fr σ') (ev fr m) (ev fr k) (ev fr x)
  | .panic x => match ev fr x with
    | .p (.raw (.iface T v)) => Kp (.iface T v) fr σ
    | _ => False
  | o => quiet P fr σ [] (fun v => K v fr σ) o

def isLoud : Op → Bool
  | .alloc _ | .box .. | .buildSlice .. | .store .. | .makeSlice .. | .makeMap .. | .mapUpdate .. | .insert .. => true
  | .call c => (match c.callee with
    | .value _ => true
    | .builtin .append => true
    | .builtin .unsafeString => true
    | _ => false)
  | _ => false
def loud (P : Program) (wr : Option (List Nat)) (fr : Fr) (σ : Sto) (K : AV → Fr → Sto → Prop) (Kp : Value → Fr → Sto → Prop) (o : Op) : Prop := match isLoud o with
  | true => loud0 P wr fr σ (fun v fr' σ' => frcF fr' fun fr' => frcS σ' fun σ' => K v fr' σ') (fun v fr' σ' => frcF fr' fun fr' => frcS σ' fun σ' => Kp v fr' σ') o
  | false => loud0 P wr fr σ K Kp o
theorem loud_eq (P : Program) (wr : Option (List Nat)) (fr : Fr) (σ : Sto) (K : AV → Fr → Sto → Prop) (Kp : Value → Fr → Sto → Prop) (o : Op) : loud P wr fr σ K Kp o = loud0 P wr fr σ K Kp o := by
  have h1 : (fun v fr' σ' => frcF fr' fun fr' => frcS σ' fun σ' => K v fr' σ') = K := by
    funext v fr' σ'
    rw [frcF_eq, frcS_eq]
  have h2 : (fun v fr' σ' => frcF fr' fun fr' => frcS σ' fun σ' => Kp v fr' σ') = Kp := by
    funext v fr' σ'
    rw [frcF_eq, frcS_eq]
  unfold loud
  split
  · rw [h1, h2]
  · rfl
def putK (nt : Nat) (d : Option Nat) (v : AV) (fr : Fr) (K : Fr → Prop) : Prop := match d with
  | none => K fr
  | some d => match Nat.blt d nt with
    | true => frc v fun v => K ((d, v) :: fr)
    | false => False
def wantK (all : List Oper) (fr : Fr) (o : Oper) (W : Bool → Fr → Prop) : Prop := match o.guard with
  | none => W true fr
  | some (j, want) => match nth all j with
    | some p => match p.dst with
      | some d => match look d fr with
        | .tup [] => W false fr
        | .p (.raw (.bool b)) => (b = want → W true ((d, .p (B want)) :: fr)) ∧ (b = !want → W false ((d, .p (B (!want))) :: fr))
        | _ => False
      | none => False
    | none => False
def aops (P : Program) (nt : Nat) (all : List Oper) (Kp : Value → Fr → Sto → Prop) : List Oper → (Fr → Sto → Prop) → Fr → Sto → Prop
  | [], K, fr, σ => K fr σ
  | o :: r, K, fr, σ => wantK all fr o fun b fr => match b with
    | true => loud P none fr σ (fun v fr' σ' => putK nt o.dst v fr' fun fr'' => aops P nt all Kp r K fr'' σ') Kp o.op
    | false => putK nt o.dst (.tup []) fr fun fr'' => aops P nt all Kp r K fr'' σ

section
variable {P : Program} {cx : Cx} {fr : Fr} {σ : Sto} {a : Act} {w w' : World}

theorem St.noFr {F : Nat → Prop} {ι : Loc} (h : St cx F ι fr σ a w) : St cx F ι [] σ a w := ⟨fun t => .dead _, h.sr, h.inv, h.nt, h.df⟩
theorem evs_ok {F : Nat → Prop} {ι : Loc} (h : St cx F ι fr σ a w) : ∀ l : List Operand, VRs F ι w (evs fr l) (l.map a.eval) := by
  intro l
  induction l with
  | nil => exact ⟨rfl, fun j x v hx => by simp [evs] at hx⟩
  | cons y l ih =>
    refine ⟨by simpa [evs] using ih.1, fun j x v hx hv => ?_⟩
    cases j with
    | zero => simp [evs] at hx hv; subst hx; subst hv; exact ev_ok h y
    | succ j => exact ih.2 j x v (by simpa [evs] using hx) (by simpa using hv)
theorem VRs.app {F : Nat → Prop} {ι : Loc} {l l' : List AV} {vs vs' : List Value} (h : VRs F ι w l vs) (h' : VRs F ι w l' vs') : VRs F ι w (l ++ l') (vs ++ vs') := by
  refine ⟨by simp [h.1, h'.1], fun j x v hx hv => ?_⟩
  rcases Nat.lt_or_ge j l.length with hj | hj
  · rw [List.getElem?_append_left hj] at hx
    rw [List.getElem?_append_left (by rw [h.1]; exact hj)] at hv
    exact h.2 j x v hx hv
  · rw [List.getElem?_append_right hj] at hx
    rw [List.getElem?_append_right (by rw [h.1]; exact hj), h.1] at hv
    exact h'.2 _ x v hx hv
theorem fnOf_ok {F : Nat → Prop} {ι : Loc} {x : Operand} {f : Nat} {caps : List AV} (h : St cx F ι fr σ a w) (hf : fnOf fr x = some (f, caps)) : ∃ cvs : List Value, a.eval x = .func (.func f) #[] cvs.toArray ∧ VRs F ι w caps cvs := by
  have hx := ev_ok h x
  unfold fnOf at hf
  split at hf
  · rename_i g fs cs hg
    split at hf
    · rename_i e1 e2
      cases hf
      have e1' : fs = #[] := by rw [← Array.toArray_toList (xs := fs), e1]
      have e2' : cs = #[] := by rw [← Array.toArray_toList (xs := cs), e2]
      subst e1'
      subst e2'
      rw [hg] at hx
      exact ⟨[], VR.inv_raw hx, rfl, fun j x v hx => by simp at hx⟩
    · cases hf
  · rename_i g l hg
    cases hf
    rw [hg] at hx
    generalize a.eval x = u at hx
    cases hx with
    | fn _ _ vs hl hp => exact ⟨vs, rfl, hl, hp⟩
  · cases hf
theorem quiet_ok {F : Nat → Prop} {ι : Loc} {wr_ : List Nat} {K : AV → Prop} {o : Oper} (h : St cx F ι fr σ a w) (hk : quiet P fr σ wr_ K o.op) : Z P F ι σ wr_ w K a o := by
  unfold quiet at hk
  split at hk
  · rename_i T parts ho
    obtain ⟨x, v, hk, hx, hr⟩ := buildK_ok (ev_ok h) hk
    refine ⟨x, v, hk, hx, fun w' _ => ?_⟩
    have hr' := hr w'
    rw [Array.toArray_toList] at hr'
    simp only [execOp, ho, Sem.run_bind]; rw [hr']; rfl
  · rename_i T x k ok ho
    obtain ⟨y, t, hk, hy, hr⟩ := lookK_ok h.sr (ev_ok h x) (ev_ok h k) hk
    exact ⟨y, t, hk, hy, fun w' hw' => by simp only [execOp, ho, Sem.run_bind]; rw [hr w' hw']; rfl⟩
  · rename_i fn first caps ho
    unfold fnK at hk
    split at hk
    · rename_i f hfirst
      have hf : first = #[] := by
        cases hl : first.toList with
        | nil => rw [← Array.toArray_toList (xs := first), hl]
        | cons a l => rw [hl] at hfirst; cases hfirst
      subst hf
      refine ⟨_, _, hk, .fn f _ (caps.toList.map a.eval) (evs_ok h caps.toList).1 (evs_ok h caps.toList).2, fun w' _ => ?_⟩
      have e : (caps.toList.map a.eval).toArray = caps.map a.eval := by apply Array.toList_inj.mp; simp
      simp [execOp, ho, Instr.makeFunc, e]
    · exact hk.elim
  · rename_i T x ho
    have hx := ev_ok h x
    unfold ifaceK at hk
    split at hk
    · rename_i v k hv hT
      rw [hv] at hx
      have := VR.inv_raw hx
      exact ⟨_, _, hk, .p _ _ (.raw _ rfl), fun w' _ => by simp [execOp, ho, Instr.makeInterface, run_underlying hT, this, Result.andThen]⟩
    · rename_i v hv hT
      rw [hv] at hx
      have := VR.inv_raw hx
      exact ⟨_, _, hk, .p _ _ (.raw _ rfl), fun w' _ => by simp [execOp, ho, Instr.makeInterface, run_underlying hT, this, Result.andThen]⟩
    · rename_i v fs hv hT
      rw [hv] at hx
      generalize hu : a.eval x = u at hx
      cases hx with
      | p _ _ hp => cases hp with
        | agg _ vs hl h1 hp =>
          match vs, hl with
          | [q], _ =>
            have h3 := hp 0 _ q rfl rfl
            cases h3 with
            | raw _ _ => exact ⟨_, _, hk, .p _ _ (.raw _ rfl), fun w' _ => by simp [execOp, ho, Instr.makeInterface, run_underlying hT, hu, Result.andThen]⟩
    · exact hk.elim
  · rename_i T x u ho
    have hx := ev_ok h x
    unfold nilIK at hk
    split at hk
    · rename_i k t v hT hv
      rw [hv] at hx
      have := VR.inv_raw hx
      exact ⟨_, _, hk, .p _ _ (.raw _ rfl), fun w' _ => by
        have e0 : a.eval (.const .nilIface) = .nilIface := rfl
        simp [execOp, ho, this, e0, eqGuard, Go.binOp, run_equal_if hT, Result.andThen]⟩
    · rename_i k hT hv
      rw [hv] at hx
      have := VR.inv_raw hx
      exact ⟨_, _, hk, .p _ _ (.raw _ rfl), fun w' _ => by
        have e0 : a.eval (.const .nilIface) = .nilIface := rfl
        simp [execOp, ho, this, e0, eqGuard, Go.binOp, run_equal_ifn hT, Result.andThen]⟩
    · exact hk.elim
  · rename_i T x u ho
    have hx := ev_ok h x
    unfold nilIK at hk
    split at hk
    · rename_i k t v hT hv
      rw [hv] at hx
      have := VR.inv_raw hx
      exact ⟨_, _, hk, .p _ _ (.raw _ rfl), fun w' _ => by
        have e0 : a.eval (.const .nilIface) = .nilIface := rfl
        simp [execOp, ho, this, e0, eqGuard, Go.binOp, run_equal_if hT, Result.andThen]⟩
    · rename_i k hT hv
      rw [hv] at hx
      have := VR.inv_raw hx
      exact ⟨_, _, hk, .p _ _ (.raw _ rfl), fun w' _ => by
        have e0 : a.eval (.const .nilIface) = .nilIface := rfl
        simp [execOp, ho, this, e0, eqGuard, Go.binOp, run_equal_ifn hT, Result.andThen]⟩
    · exact hk.elim
  · rename_i x xT T ho
    have hx := ev_ok h x
    unfold tyK at hk
    split at hk
    · exact hk.elim
    · rename_i D t v hne hT hv
      split at hk
      · rename_i y ht hy
        have ht := Nat.eq_of_beq_eq_true ht
        subst ht
        rw [hv] at hx
        have hu := VR.inv_raw hx
        refine ⟨_, .tuple #[v, .bool true], hk, .tup _ [v, .bool true] rfl (fun j z u hz hu => ?_), fun w' _ => ?_⟩
        · match j with
          | 0 => simp at hz hu; subst hz; subst hu; exact .p _ _ (payOf_ok hy)
          | 1 => simp at hz hu; subst hz; subst hu; exact .p _ _ (.raw _ rfl)
          | j + 2 => simp at hz
        · have hr : (Instr.typeAssert (.iface t v) xT t true).run P w' = .ok (.tuple #[v, .bool true]) w' := by
            unfold Instr.typeAssert
            simp only [Sem.run_bind, run_underlying hT, Result.andThen_ok]
            cases D with
            | interface k => exact absurd rfl (hne k)
            | _ => simp
          simp [execOp, ho, hu, hr, Result.andThen]
      · exact hk.elim
    · exact hk.elim
  · rename_i c ho
    split at hk
    · rename_i x T hc hx ht
      split at hk
      · rename_i kt et hT
        have ha' : c.args = #[x] := by rw [← Array.toArray_toList (xs := c.args), hx]
        have ht' : c.argTypes = #[T] := by rw [← Array.toArray_toList (xs := c.argTypes), ht]
        unfold mlenK at hk
        split at hk
        · rename_i l hl
          rcases mapOf_ok h.sr (ev_ok h x) hl with ⟨hu, rfl⟩ | ⟨r, hu, hsame⟩
          · refine ⟨_, _, hk, .p _ _ (.raw _ rfl), fun w' _ => ?_⟩
            simp [execOp, ho, resolve, hc, ha', ht', invoke, builtin, Builtin.len_, run_underlying hT, hu, goInt, Result.andThen]
          · refine ⟨_, _, hk, .p _ _ (.raw _ rfl), fun w' hw' => ?_⟩
            obtain ⟨es, cl, hb, hsz, _⟩ := hsame w' hw'
            simp [execOp, ho, resolve, hc, ha', ht', invoke, builtin, Builtin.len_, run_underlying hT, hu, MapKept.run_getObj_map hb, goInt, Result.andThen, hsz]
        · exact hk.elim
      · exact still_ok h (by rw [ho]; exact hk)
    · exact still_ok h (by rw [ho]; exact hk)
  · exact still_ok h hk

/-- The operation yields a value and leaves a world; or calls. -/
theorem loud_ok {wr : Option (List Nat)} {F : Nat → Prop} {ι : Loc} {K : AV → Fr → Sto → Prop} {Kp : Value → Fr → Sto → Prop} {o : Oper} {next : Act → World → Prop} {Q : Exit → Act → World → Prop} (h : St cx F ι fr σ a w) (hok : loudOK wr fr o.op = true) (hk : loud P wr fr σ K Kp o.op)
    (hn : ∀ x fr' σ' F' ι' v w', K x fr' σ' → St cx F' ι' fr' σ' a w' → VR F' ι' w' x v → Step wr F ι σ w F' ι' σ' w' → next (a.put o.dst v) w')
    (hp : ∀ v fr' σ' F' ι' w', Kp v fr' σ' → St cx F' ι' fr' σ' a w' → Q (.panic [{ v := v, recovered := false }]) a w') : o.wp P a w next Q := by
  have hev : ∀ y, VR F ι w (ev fr y) (a.eval y) := ev_ok h
  have hv : ∀ {x fr' σ' F' ι' v w'}, (execOp a.eval o).run P w = .ok (.value v) w' → K x fr' σ' → St cx F' ι' fr' σ' a w' → VR F' ι' w' x v → Step wr F ι σ w F' ι' σ' w' → o.wp P a w next Q := fun {x fr' σ' F' ι' v w'} hr hk hs hx ht => by
    unfold Oper.wp
    rw [hr, Oper.upon_value]
    exact hn x fr' σ' F' ι' v w' hk hs hx ht
  have hstill : quiet P fr σ [] (fun v => K v fr σ) o.op → o.wp P a w next Q := fun hs => by
    obtain ⟨x, v, hk, hx, hr⟩ := quiet_ok h hs
    exact hv (hr w Same.refl) hk h hx Step.refl
  rw [loud_eq] at hk
  unfold loud0 at hk
  split at hk
  · rename_i T ho
    split at hk
    · rename_i c hc
      obtain ⟨z, hz, hrun⟩ := run_alloc (F := F) (ι := ι) (w := w) hc
      obtain ⟨h1, h2⟩ := h.newBox T hz
      exact hv (by simp only [execOp, ho, Sem.run_bind, hrun w]; rfl) hk h1 h2 (h.stepNew (below_alloc _))
    · exact hk.elim
  · rename_i T x ho
    split at hk
    · rename_i c hc
      obtain ⟨h1, h2⟩ := h.newBox T (avCells_ok (hev x) hc)
      exact hv (by simp only [execOp, ho, Sem.run_bind, run_box]; rfl) hk h1 h2 (h.stepNew (below_alloc _))
    · exact hk.elim
  · rename_i T parts ho
    obtain ⟨x, v, hk, hx, hr⟩ := buildK_ok hev hk
    have hr' := hr w
    rw [Array.toArray_toList] at hr'
    exact hv (by simp only [execOp, ho, Sem.run_bind]; rw [hr']; rfl) hk h hx Step.refl
  · rename_i T n parts ho
    obtain ⟨F', ι', σ', w', x, v, hk, hr, hs, hx, ht⟩ := litK_ok h hk
    rw [Array.toArray_toList] at hr
    exact hv (by simp only [execOp, ho, Sem.run_bind]; rw [hr]; rfl) hk hs hx (ht wr)
  · rename_i T x y ho
    obtain ⟨F', σ', w', hk, hr, hF, hs, ht⟩ := storeK_ok h (hev x) (hev y) hk
    unfold Oper.wp
    have : (execOp a.eval o).run P w = .ok .skip w' := by simp only [execOp, ho, Sem.run_bind, hr]; rfl
    rw [this, Oper.upon_skip]
    exact hn _ _ _ _ _ _ _ hk hs (.dead _) (ht wr (by rw [ho] at hok; exact hok))
  · rename_i T l c ho
    obtain ⟨ι', σ', w', x, v, hk, hr, hs, hx, ht⟩ := makeK_ok h (hev l) (hev c) hk
    exact hv (by simp only [execOp, ho, Sem.run_bind, hr]; rfl) hk hs hx (ht wr)
  · rename_i c ho
    split at hk
    · rename_i x hc
      split at hk
      · rename_i f caps hf
        obtain ⟨cvs, hx', hcaps⟩ := fnOf_ok h hf
        rw [appL_eq] at hk
        have hargs : VRs F ι w (evs fr c.args.toList ++ caps) (c.args.toList.map a.eval ++ cvs) := (evs_ok h c.args.toList).app hcaps
        have hargs' : (c.args.toList.map a.eval ++ cvs).toArray = c.args.map a.eval ++ cvs.toArray := by
          apply Array.toList_inj.mp
          simp
        have hrunE : callable P f = true → (execOp a.eval o).run P w = .ok (.enter f (c.args.toList.map a.eval ++ cvs).toArray) w := fun hcal => by
          unfold callable at hcal
          split at hcal
          · rename_i fn hfn
            simp only [Bool.and_eq_true, Bool.not_eq_true', beq_eq_false_iff_ne, ne_eq] at hcal
            have hb : ¬ fn.body = none := fun hbb => by rw [hbb] at hcal; cases hcal.1
            have hnm : ¬ fn.name = "runtime.NumGoroutine" := hcal.2
            rw [hargs']
            simp [execOp, ho, resolve, hc, hx', Deferred.ofValue, invoke, callFunc, hfn, hnm, hb]
          · cases hcal
        rcases hk with hk | ⟨⟨fn, g1, g2, g3, g4, g5⟩, hk⟩ | ⟨hcal, hk⟩
        rotate_left 2
        · unfold Oper.wp
          rw [hrunE hcal, Oper.upon_enter]
          refine Calls.mono (callE_ok (wr := wr) h hargs hk) ?_
          rintro e w' (⟨v, x, F', ι', fr', σ', rfl, hk', hs, hv', ht⟩ | ⟨v, F', ι', fr', σ', rfl, hk', hs, ht⟩)
          · exact hn x fr' σ' F' ι' v w' hk' hs hv' ht
          · exact hp v fr' σ' F' ι' w' hk' hs
        rotate_left
        · match hal : evs fr c.args.toList ++ caps, hvl : c.args.toList.map a.eval ++ cvs, hargs, hk with
          | [y], [u], hargs, hk =>
            have hk : K y fr σ := hk
            have hrun : (execOp a.eval o).run P w = .ok (.value u) w := by
              have := run_callFunc_extern (P := P) g1 g2 g3 g4 g5 #[u] w
              rw [Lib.run_noEscape] at this
              simp only [Result.andThen] at this
              have hlast : c.args.map a.eval ++ cvs.toArray = #[u] := by rw [← hargs', hvl]
              simp [execOp, ho, resolve, hc, hx', Deferred.ofValue, invoke, hlast, this]
            exact hv hrun hk h (hargs.2 0 y u rfl rfl) Step.refl
          | [y], [], hargs, hk => exact absurd hargs.1 (by simp)
          | [y], _ :: _ :: _, hargs, hk => exact absurd hargs.1 (by simp)
        obtain ⟨hcal, hk⟩ := hk
        have hcc := callK_ok (wr := wr) h hargs hk
        have hrun := hrunE hcal
        unfold Oper.wp
        rw [hrun, Oper.upon_enter]
        refine Calls.mono hcc ?_
        rintro e w' ⟨v, x, F', ι', fr', σ', rfl, hk', hs, hv', ht⟩
        exact hn x fr' σ' F' ι' v w' hk' hs hv' ht
      · exact hk.elim
    · rename_i hc
      split at hk
      · rename_i x y T T' ha ht
        cases hb : Nat.beq T T' with
        | false =>
          rw [hb] at hk
          obtain ⟨ι', fr', σ', w', z, t, hk, hr, hs, hx, hst⟩ := appS_ok o.type h (hev x) (hev y) hk
          have ha' : c.args = #[x, y] := by rw [← Array.toArray_toList (xs := c.args), ha]
          have ht' : c.argTypes = #[T, T'] := by rw [← Array.toArray_toList (xs := c.argTypes), ht]
          exact hv (by simp [execOp, ho, resolve, hc, ha', ht', invoke, builtin, hr]) hk hs hx (hst wr (by rw [ho] at hok; simp only [loudOK, hc, ha] at hok; exact hok))
        | true =>
          rw [hb] at hk
          have := Nat.eq_of_beq_eq_true hb
          subst this
          obtain ⟨ι', fr', σ', w', z, t, hk, hr, hs, hx, hst⟩ := appK_ok o.type h (hev x) (hev y) hk
          have ha' : c.args = #[x, y] := by rw [← Array.toArray_toList (xs := c.args), ha]
          have ht' : c.argTypes = #[T, T] := by rw [← Array.toArray_toList (xs := c.argTypes), ht]
          exact hv (by simp [execOp, ho, resolve, hc, ha', ht', invoke, builtin, hr]) hk hs hx (hst wr (by rw [ho] at hok; simp only [loudOK, hc, ha] at hok; exact hok))
      · exact hk.elim
    · rename_i hc
      split at hk
      · rename_i x y T T' ha ht
        obtain ⟨ι', fr', σ', w', z, t, hk, hr, hs, hx, hst⟩ := usK_ok (T' := T') o.type h (hev x) (hev y) hk
        have ha' : c.args = #[x, y] := by rw [← Array.toArray_toList (xs := c.args), ha]
        have ht' : c.argTypes = #[T, T'] := by rw [← Array.toArray_toList (xs := c.argTypes), ht]
        exact hv (by simp [execOp, ho, resolve, hc, ha', ht', invoke, builtin, hr]) hk hs hx (hst wr (by rw [ho] at hok; simp only [loudOK, hc, ha] at hok; exact hok))
      · exact hk.elim
    · exact hstill (by rw [ho]; exact hk)
  · rename_i T r ho
    split at hk
    · obtain ⟨h1, h2, h3, h4⟩ := newMap_ok (P := P) h T
      exact hv (by simp only [execOp, ho, Sem.run_bind, Option.map_none, h1]; rfl) hk h2 h3 (h4 wr)
    · exact hk.elim
  · rename_i T m k x ho
    obtain ⟨F', σ', w', hk, hr, hF, hs, ht⟩ := updK_ok h (hev m) (hev k) (hev x) hk
    unfold Oper.wp
    have : (execOp a.eval o).run P w = .ok .skip w' := by simp only [execOp, ho, Sem.run_bind, hr]; rfl
    rw [this, Oper.upon_skip]
    exact hn _ _ _ _ _ _ _ hk hs (.dead _) (ht wr (by rw [ho] at hok; exact hok))
  · rename_i T m k x ho
    obtain ⟨F', σ', w', hk, hr, hF, hs, ht⟩ := updK_ok h (hev m) (hev k) (hev x) hk
    unfold Oper.wp
    have : (execOp a.eval o).run P w = .ok .skip w' := by simp only [execOp, ho, Sem.run_bind, hr]; rfl
    rw [this, Oper.upon_skip]
    exact hn _ _ _ _ _ _ _ hk hs (.dead _) (ht wr (by rw [ho] at hok; exact hok))
  · rename_i x ho
    split at hk
    · rename_i T v hv0
      have hx := hev x
      rw [hv0] at hx
      have hx' := VR.inv_raw hx
      unfold Oper.wp
      have : (execOp a.eval o).run P w = .halt (.panic (.iface T v)) w := by simp [execOp, ho, Instr.panic, goPanic, hx', Sem.run, Result.andThen]
      rw [this, Oper.upon_panic]
      exact hp _ fr σ F ι w hk h
    · exact hk.elim
  · exact hstill hk

theorem VR.undef {F : Nat → Prop} {ι : Loc} {w : World} : VR F ι w (.tup []) Go.undef := .tup [] [] rfl (fun j y v hy => by simp at hy)
theorem inT_none (x : AV) : inT none x = true := by cases x <;> rfl
theorem loudOK_none (fr : Fr) (o : Op) : loudOK none fr o = true := by
  unfold loudOK
  split
  · exact inT_none _
  · exact inT_none _
  · exact inT_none _
  · split
    · exact inT_none _
    · exact inT_none _
    · rfl
  · rfl

theorem Good.put {F : Nat → Prop} {ι : Loc} {x : AV} {v : Value} (h : St cx F ι fr σ a w) (hx : VR F ι w x v) {d : Option Nat} {K : Fr → Prop} (hk : putK cx.nt d x fr K) : ∃ fr', K fr' ∧ Good cx fr' σ (a.put d v) w := by
  cases d with
  | none => exact ⟨fr, hk, F, ι, h⟩
  | some d =>
    simp only [putK] at hk
    cases hb : Nat.blt d cx.nt with
    | true => rw [hb] at hk; simp only [frc_eq] at hk; exact ⟨_, hk, F, ι, h.put hb hx⟩
    | false => rw [hb] at hk; exact hk.elim

theorem look_dead (h : Good cx fr σ a w) : True := trivial

theorem wantK_ok {all : List Oper} {o : Oper} {W : Bool → Fr → Prop} {F : Nat → Prop} {ι : Loc} (h : St cx F ι fr σ a w) (hk : wantK all fr o W) : ∃ fr', W (Region.wanted o (yielded all.toArray a.tmps)) fr' ∧ St cx F ι fr' σ a w := by
  unfold wantK at hk
  split at hk
  · rename_i hg; simp only [Region.wanted, hg]; exact ⟨fr, hk, h⟩
  · rename_i j want hg
    split at hk
    · rename_i p hp
      split at hk
      · rename_i d hd
        split at hk
        · rename_i hb
          have hv := h.fr d
          rw [hb] at hv
          have hnb : ∀ b, a.tmps[d]? ≠ some (.bool b) := fun b hh => by
            have : a.tmps.getD d undef = .bool b := by rw [Array.getD_eq_getD_getElem?, hh]; rfl
            rw [this] at hv
            cases hv
          rw [nth_eq] at hp
          have hy : yielded all.toArray a.tmps j = none := by
            unfold yielded
            simp only [List.getElem?_toArray, hp, Option.bind_some, hd]
          refine ⟨fr, ?_, h⟩
          simp only [Region.wanted, hg, hy]
          exact hk
        · rename_i b hb
          have hv := h.fr d
          rw [hb] at hv
          have hv' := VR.inv_raw hv
          have hlt : d < a.tmps.size := by
            refine Nat.lt_of_not_le fun hh => ?_
            have : a.tmps.getD d undef = undef := by unfold Array.getD; rw [dif_neg (by omega)]
            rw [this] at hv'
            cases hv'
          have ht : a.tmps[d]? = some (.bool b) := by
            rw [Array.getElem?_eq_getElem hlt]
            unfold Array.getD at hv'
            rw [dif_pos hlt] at hv'
            exact congrArg some hv'
          rw [nth_eq] at hp
          have hy : yielded all.toArray a.tmps j = some b := by
            unfold yielded
            simp only [List.getElem?_toArray, hp, Option.bind_some, hd, ht]
          have hfr : St cx F ι ((d, .p (B b)) :: fr) σ a w := ⟨fun t => by
            simp only [look]
            by_cases e : d = t
            · subst e; rw [beq_tt]; exact VR.raw rfl |> fun h2 => hv' ▸ h2
            · rw [beq_ff e]; exact h.fr t, h.sr, h.inv, h.nt, h.df⟩
          simp only [Region.wanted, hg, hy]
          by_cases e : b = want
          · subst e; exact ⟨_, by simpa using hk.1 rfl, hfr⟩
          · have e2 : b = !want := by
              revert e; clear hfr hk hy ht hv' hv hb hg; revert b want; decide
            have e3 : (some b == some want) = false := by
              clear hfr hk hy ht hv' hv hb hg; subst e2; revert want; decide
            rw [e3]; subst e2; exact ⟨_, hk.2 rfl, hfr⟩
        · exact hk.elim
      · exact hk.elim
    · exact hk.elim

def isStill : Op → Bool
  | .move _ | .assign _ | .pick .. | .binOp .. | .unOp .. | .load .. | .fieldAddr .. | .indexAddr .. | .index .. | .slice .. | .nilCheck _ | .extract .. | .convert .. | .build .. | .lookup .. | .makeFunc .. | .makeInterface .. => true
  | .call c => (match c.callee with
    | .builtin .len | .builtin .max | .builtin .min => true
    | _ => false)
  | _ => false
/-- An entry of an order: an operation's number; over 1000, it is a barrier: all that came before it binds it. -/
def barX (i : Nat) : Bool := Nat.blt 999 i && Nat.blt i 2000
/-- Over 2000: nothing that changes memory comes before it. -/
def earX (i : Nat) : Bool := Nat.blt 1999 i
def ixX (i : Nat) : Nat := bif earX i then i - 2000 else bif barX i then i - 1000 else i
/-- An order; where more than one may come, one for each. -/
inductive OT where
  | nil
  | op (i : Nat) (r : OT)
  | alt (a b : OT)
def OT.cnt : OT → Nat
  | .nil => 0
  | .op _ r => r.cnt + 1
  | .alt a _ => a.cnt
def OT.hds : OT → List Nat
  | .nil => []
  | .op i _ => [ixX i]
  | .alt a b => a.hds ++ b.hds
/-- 5000: one half of what is behind it, or the other; 6000: nothing. -/
def parseO : Nat → List Nat → OT
  | 0, _ => .nil
  | _ + 1, [] => .nil
  | n + 1, i :: r => match Nat.beq i 5000 with
    | true => .alt (parseO n (r.take (r.length / 2))) (parseO n (r.drop (r.length / 2)))
    | false => match Nat.beq i 6000 with
      | true => parseO n r
      | false => .op i (parseO n r)
def bars : OT → List Nat
  | .nil => []
  | .op i r => match barX i with
    | true => ixX i :: bars r
    | false => bars r
  | .alt a _ => bars a
def dops (P : Program) (nt : Nat) (all : List Oper) (wr_ : List Nat) (Kp : Value → Fr → Sto → Prop) : OT → (Fr → Sto → Prop) → Fr → Sto → Prop
  | .nil, K, fr, σ => K fr σ
  | .alt a b, K, fr, σ => dops P nt all wr_ Kp a K fr σ ∧ dops P nt all wr_ Kp b K fr σ
  | .op i r, K, fr, σ => match nth all (ixX i) with
    | none => False
    | some o => wantK all fr o fun b fr => match b with
      | false => putK nt o.dst (.tup []) fr fun fr'' => dops P nt all wr_ Kp r K fr'' σ
      | true => match isStill o.op with
        | true => quiet P fr σ (bif earX i then [] else wr_) (fun v => putK nt o.dst v fr fun fr'' => dops P nt all wr_ Kp r K fr'' σ) o.op
        | false => match barX i || loudOK (some wr_) fr o.op with
          | true => loud P (bif barX i then none else some wr_) fr σ (fun v fr' σ' => putK nt o.dst v fr' fun fr'' => dops P nt all wr_ Kp r K fr'' σ') (fun v _ σ' => Kp v [] σ') o.op
          | false => False
def behind (ops : Array Oper) (i : Nat) : Nat → Nat → Bool
  | 0, _ => false
  | n + 1, b => match ops[b]? with
    | none => false
    | some o => !Nat.beq b i && ((o.after.any fun e => Region.binds .any e && e.on == i) || (o.after.any fun e => Region.binds .any e && behind ops i n e.on))
/-- The operations to come that change memory. -/
def LO (all : List Oper) (listed : Array Bool) : List Nat := (List.range all.length).filter fun k => !listed.getD k false && (match all[k]? with
  | some o => !isStill o.op
  | none => false)
/-- This order serves for every order: what leaves memory alone comes as soon as it may; of the rest each that may come is told. -/
def schedGo (ops : Array Oper) : Option (List Nat) → Array Bool → OT → Bool
  | e, listed, .nil => (Region.ready .any ops listed).isEmpty && e.isNone
  | e, listed, .op i r => (match ops[ixX i]? with
    | none => false
    | some o => bif isStill o.op then !barX i && ((!earX i || (LO ops.toList listed).all (behind ops (ixX i) 9)) && (e.isNone && (Region.free .any ops listed (ixX i) && ((Region.ready .any ops listed).contains (ixX i) && (bars r).all (behind ops (ixX i) 9)))))
      else (Region.ready .any ops listed).contains (ixX i) && (e.isSome || Region.ready .any ops listed == [ixX i])) && schedGo ops none (listed.setIfInBounds (ixX i) true) r
  | e, listed, .alt a b => Nat.beq a.cnt b.cnt && (bars a == bars b && ((e.isSome || Region.ready .any ops listed == a.hds ++ b.hds) && (schedGo ops (some []) listed a && schedGo ops (some []) listed b)))
def schedB (P : Program) (ops : Array Oper) (ord : OT) : Bool := P.follows .mixedOrders && Region.noSelect ops && Nat.beq ord.cnt ops.size && schedGo ops none (Array.replicate ops.size false) ord
/-- Till a barrier comes up, what may be read lies as here. -/
def SB (bs : List Nat) (F : Nat → Prop) (ι : Loc) (σ : Sto) (wr_ : List Nat) (w : World) (L : Array Bool) (w' : World) : Prop := (∀ b ∈ bs, L.getD b false = false) → Same F ι σ wr_ w w'

def SB2 (all : List Oper) (listed : Array Bool) (bs : List Nat) (F : Nat → Prop) (ι : Loc) (σ : Sto) (wr_ : List Nat) (w : World) (L : Array Bool) (w' : World) : Prop := SB bs F ι σ wr_ w L w' ∧ SB (LO all listed) F ι σ [] w L w'
theorem mem_LO {all : List Oper} {listed : Array Bool} {k : Nat} : k ∈ LO all listed ↔ listed.getD k false = false ∧ ∃ o, all[k]? = some o ∧ isStill o.op = false := by
  unfold LO
  rw [List.mem_filter, List.mem_range, Bool.and_eq_true, Bool.not_eq_true']
  constructor
  · rintro ⟨h1, h2, h3⟩
    refine ⟨h2, _, List.getElem?_eq_getElem h1, ?_⟩
    rw [List.getElem?_eq_getElem h1] at h3
    simpa using h3
  · rintro ⟨h1, o, h2, h3⟩
    exact ⟨(List.getElem?_eq_some_iff.mp h2).1, h1, by rw [h2]; simp [h3]⟩
theorem LO_still {all : List Oper} {listed : Array Bool} {ix : Nat} {o : Oper} (ho : all[ix]? = some o) (hs : isStill o.op = true) : LO all (listed.setIfInBounds ix true) = LO all listed := by
  unfold LO
  refine List.filter_congr fun k hk => ?_
  by_cases e : ix = k
  · subst e; rw [ho]; simp [hs]
  · have : (listed.setIfInBounds ix true).getD k false = listed.getD k false := by
      simp only [Array.getD_eq_getD_getElem?]
      rw [Array.getElem?_setIfInBounds_ne e]
    rw [this]
theorem behind_ok {ops : Array Oper} {i : Nat} : ∀ {n b : Nat}, behind ops i n b = true → b ≠ i ∧ ∀ L, Closed .any ops L → L.getD b false = true → L.getD i false = true
  | 0, b, h => by simp [behind] at h
  | n + 1, b, h => by
    unfold behind at h
    split at h
    · cases h
    · rename_i ob hob
      simp only [Bool.and_eq_true, Bool.not_eq_true', Bool.or_eq_true] at h
      refine ⟨fun hh => by rw [hh, beq_tt] at h; exact absurd h.1 (by simp), fun L hC hLb => ?_⟩
      have hsz : b < L.size := by
        refine Nat.lt_of_not_le fun hh => ?_
        simp [Array.getElem?_eq_none hh] at hLb
      have hcl : ∀ e ∈ ob.after, Region.binds .any e = true → L.getD e.on false = true := fun e he hbi => hC b ob hob (by simp [hsz] at hLb ⊢; exact hLb) hsz e he hbi
      rcases h.2 with h2 | h2
      · obtain ⟨e, he, hb⟩ := Array.any_eq_true'.1 h2
        simp only [Bool.and_eq_true, beq_iff_eq] at hb
        have := hcl e he hb.1
        rwa [hb.2] at this
      · obtain ⟨e, he, hb⟩ := Array.any_eq_true'.1 h2
        simp only [Bool.and_eq_true] at hb
        exact (behind_ok hb.2).2 L hC (hcl e he hb.1)
theorem SB.refl {bs : List Nat} {F : Nat → Prop} {ι : Loc} {wr_ : List Nat} {L : Array Bool} : SB bs F ι σ wr_ w L w := fun _ => Same.refl
theorem SB2.refl {all : List Oper} {listed : Array Bool} {bs : List Nat} {F : Nat → Prop} {ι : Loc} {wr_ : List Nat} {L : Array Bool} : SB2 all listed bs F ι σ wr_ w L w := ⟨SB.refl, SB.refl⟩
theorem heads_loud {all : List Oper} {l : List Nat} {listed : Array Bool} : ∀ (u : OT), schedGo all.toArray (some l) listed u = true → ∀ k ∈ u.hds, ∀ o, all[k]? = some o → isStill o.op = false
  | .nil, h, k, hk, o, ho => by simp [OT.hds] at hk
  | .op i r, h, k, hk, o, ho => by
    have hkx : k = ixX i := by simpa [OT.hds] using hk
    simp only [schedGo, Bool.and_eq_true] at h
    have h1 := h.1
    have ho' : all.toArray[ixX i]? = some o := by rw [← hkx]; simpa using ho
    rw [ho'] at h1
    cases hst : isStill o.op with
    | false => rfl
    | true => simp [hst] at h1
  | .alt x y, h, k, hk, o, ho => by
    simp only [schedGo, Bool.and_eq_true] at h
    have hl : ∀ (u : OT), schedGo all.toArray (some []) listed u = true → ∀ k ∈ u.hds, ∀ o, all[k]? = some o → isStill o.op = false := fun u hu => by
      induction u with
      | nil => intro k hk; simp [OT.hds] at hk
      | op i r =>
        intro k hk o ho
        have hkx : k = ixX i := by simpa [OT.hds] using hk
        simp only [schedGo, Bool.and_eq_true] at hu
        have h1 := hu.1
        have ho' : all.toArray[ixX i]? = some o := by rw [← hkx]; simpa using ho
        rw [ho'] at h1
        cases hst : isStill o.op with
        | false => rfl
        | true => simp [hst] at h1
      | alt p q ihp ihq =>
        intro k hk o ho
        simp only [schedGo, Bool.and_eq_true] at hu
        rcases List.mem_append.mp hk with h1 | h1
        · exact ihp hu.2.2.2.1 k h1 o ho
        · exact ihq hu.2.2.2.2 k h1 o ho
    rcases List.mem_append.mp hk with h1 | h1
    · exact hl x h.2.2.2.1 k h1 o ho
    · exact hl y h.2.2.2.2 k h1 o ho
mutual
theorem dops_ok {all : List Oper} {wr_ : List Nat} {Q : Exit → Act → World → Prop} (hns : Region.noSelect all.toArray = true) (hQ : ∀ c a w d v, Q (.panic c) (Act.put a d v) w → Q (.panic c) a w) {Kp : Value → Fr → Sto → Prop} (hQp : ∀ v σ a w, Kp v [] σ → Good cx [] σ a w → Q (.panic [{ v := v, recovered := false }]) a w) : ∀ (ord : OT) {K : Fr → Sto → Prop} {F : Nat → Prop} {ι : Loc} {fr : Fr} {σ : Sto} {a : Act} {w : World} {listed : Array Bool},
    St cx F ι fr σ a w → schedGo all.toArray none listed ord = true → Closed .any all.toArray listed → dops P cx.nt all wr_ Kp ord K fr σ → (∀ fr σ a w, K fr σ → Good cx fr σ a w → Q .normal a w) → wpAnyI P .any all.toArray Q (SB2 all listed (bars ord) F ι σ wr_ w) ord.cnt listed a w
  | .nil, K, F, ι, fr, σ, a, w, listed, h, hs, hcl, hk, hq => by
    refine ⟨?_, hq fr σ a w hk ⟨F, ι, h⟩⟩
    simp only [schedGo, Bool.and_eq_true] at hs
    exact List.isEmpty_iff.mp hs.1
  | .alt x y, K, F, ι, fr, σ, a, w, listed, h, hs, hcl, hk, hq => by
    have hs0 := hs
    simp only [schedGo, Bool.and_eq_true] at hs
    have hc : x.cnt = y.cnt := Nat.eq_of_beq_eq_true hs.1
    have hrd : Region.ready .any all.toArray listed = x.hds ++ y.hds := by simpa using hs.2.2.1
    have halt := dops_alt hns hQ hQp (.alt x y) h (e := none) hs0 hcl hk hq
    have hcpos : (OT.alt x y).cnt ≠ 0 := fun h0 => by
      have hx : x.cnt = 0 := h0
      have h1 := hs.2.2.2.1
      cases x with
      | nil => simp [schedGo] at h1
      | op i r => simp [OT.cnt] at hx
      | alt p q =>
        have : ∀ (u : OT), u.cnt = 0 → schedGo all.toArray (some []) listed u = false := by
          intro u
          induction u with
          | nil => intro _; simp [schedGo]
          | op i r => intro hu; simp [OT.cnt] at hu
          | alt p q ihp _ => intro hu; simp [schedGo, ihp hu]
        rw [this _ hx] at h1; cases h1
    cases hcc : (OT.alt x y).cnt with
    | zero => exact absurd hcc hcpos
    | succ n =>
      rw [hcc] at halt
      refine ⟨fun h0 => ?_, fun j hj => ?_⟩
      · have hx : x.hds = [] := by rw [h0] at hrd; exact (List.append_eq_nil_iff.mp hrd.symm).1
        have : ∀ (u : OT), u.hds = [] → u.cnt ≠ 0 → schedGo all.toArray (some []) listed u = false := by
          intro u
          induction u with
          | nil => intro _ hu; exact absurd rfl hu
          | op i r => intro hu; simp [OT.hds] at hu
          | alt p q ihp _ =>
            intro hu hn
            have := ihp (List.append_eq_nil_iff.mp hu).1 hn
            simp [schedGo, this]
        have h1 := hs.2.2.2.1
        rw [this x hx hcpos] at h1
        cases h1
      · exact halt j (by show j ∈ x.hds ++ y.hds; rw [← hrd]; exact hj) hj (fun o ho => by
          have hj' : j ∈ x.hds ++ y.hds := by rw [← hrd]; exact hj
          rcases List.mem_append.mp hj' with h1 | h1
          · exact heads_loud x hs.2.2.2.1 j h1 o ho
          · exact heads_loud y hs.2.2.2.2 j h1 o ho)
  | .op i r, K, F, ι, fr, σ, a, w, listed, h, hs, hcl, hk, hq => by
    have hs0 := hs
    have hk0 := hk
    have h00 := h
    simp only [schedGo, Bool.and_eq_true] at hs
    obtain ⟨hs1, hs2⟩ := hs
    simp only [dops, nth_eq] at hk
    generalize hix : ixX i = ix at hs1 hs2 hk
    cases ho : all[ix]? with
    | none => rw [ho] at hk; exact hk.elim
    | some o =>
      have ho' : all.toArray[ix]? = some o := by simpa using ho
      rw [ho] at hk
      rw [ho'] at hs1
      simp only at hk hs1
      obtain ⟨fr, hw, h⟩ := wantK_ok h hk
      cases hst : isStill o.op with
      | true =>
        rw [hst] at hs1
        simp only [cond_true, Bool.and_eq_true, Bool.not_eq_true'] at hs1
        obtain ⟨hnb, hear, _, hfree, hready, hbeh⟩ := hs1
        have hbars : bars (.op i r) = bars r := by simp only [bars, hnb]
        rw [hbars]
        have hmem : ix ∈ Region.ready .any all.toArray listed := by simpa using hready
        have hbe : ∀ b ∈ bars r, b ≠ ix ∧ ∀ L, Closed .any all.toArray L → L.getD b false = true → L.getD ix false = true := fun b hb => behind_ok (List.all_eq_true.mp hbeh b hb)
        have fin : ∀ {v : Value} {x : AV}, VR F ι w x v → YieldsIf P all.toArray (Same F ι σ (bif earX i then [] else wr_) w) o v a → putK cx.nt o.dst x fr (fun fr'' => dops P cx.nt all wr_ Kp r K fr'' σ) → wpAnyI P .any all.toArray Q (SB2 all listed (bars r) F ι σ wr_ w) (r.cnt + 1) listed a w := by
          intro v x hx hy hp
          have hput : ∃ fr'', dops P cx.nt all wr_ Kp r K fr'' σ ∧ St cx F ι fr'' σ (a.put o.dst v) w := by
            cases hd : o.dst with
            | none => rw [hd] at hp; exact ⟨fr, hp, h⟩
            | some d =>
              rw [hd] at hp
              simp only [putK] at hp
              cases hb : Nat.blt d cx.nt with
              | true => rw [hb] at hp; simp only [frc_eq] at hp; exact ⟨_, hp, h.put hb hx⟩
              | false => rw [hb] at hp; exact hp.elim
          obtain ⟨fr'', hk'', hg⟩ := hput
          have gen : ∀ (bs : List Nat) (L : Array Bool), (∀ b ∈ bs, ∀ L, Closed .any all.toArray L → L.getD b false = true → L.getD ix false = true) → L.getD ix true = false → Closed .any all.toArray L → ∀ b ∈ bs, L.getD b false = false := fun bs L hbs hL hC b hb => by
            cases hLb : L.getD b false with
            | false => rfl
            | true =>
              have h2 := hbs b hb L hC hLb
              rcases Nat.lt_or_ge ix L.size with h' | h'
              · simp [h'] at hL h2; rw [hL] at h2; cases h2
              · simp [Array.getElem?_eq_none h'] at hL
          have hS0 : ∀ (L : Array Bool) (w' : World), L.getD ix true = false → Closed .any all.toArray L → SB2 all listed (bars r) F ι σ wr_ w L w' → Same F ι σ (bif earX i then [] else wr_) w w' := fun L w' hL hC hS => by
            cases he : earX i with
            | false => exact hS.1 (gen _ L (fun b hb => (hbe b hb).2) hL hC)
            | true =>
              rw [he] at hear
              exact hS.2 (gen _ L (fun b hb => (behind_ok (List.all_eq_true.mp (by simpa using hear) b hb)).2) hL hC)
          have hLn : ∀ b ∈ LO all listed, b ≠ ix := fun b hb e => by
            obtain ⟨_, o2, h1, h2⟩ := mem_LO.1 hb
            subst e; rw [ho] at h1; cases h1; rw [hst] at h2; cases h2
          have hSg : ∀ (bs wq : List Nat) (L : Array Bool) (w' : World), (∀ b ∈ bs, b ≠ ix) → (SB bs F ι σ wq w (L.setIfInBounds ix true) w' ↔ SB bs F ι σ wq w L w') := fun bs wq L w' hne => by
            have hget : ∀ b ∈ bs, (L.setIfInBounds ix true).getD b false = L.getD b false := fun b hb => by
              simp only [Array.getD_eq_getD_getElem?]
              rw [Array.getElem?_setIfInBounds_ne (hne b hb).symm]
            exact ⟨fun hh hb => hh fun b hm => by rw [hget b hm]; exact hb b hm, fun hh hb => hh fun b hm => by rw [← hget b hm]; exact hb b hm⟩
          have hSi : ∀ (L : Array Bool) (w' : World), SB2 all listed (bars r) F ι σ wr_ w (L.setIfInBounds ix true) w' ↔ SB2 all listed (bars r) F ι σ wr_ w L w' := fun L w' => by
            unfold SB2
            rw [hSg _ _ L w' (fun b hb => (hbe b hb).1), hSg _ _ L w' hLn]
          have hrec := dops_ok hns hQ hQp r hg hs2 (hcl.set hmem) hk'' hq
          have hLOe : SB2 all (listed.setIfInBounds ix true) (bars r) F ι σ wr_ w = SB2 all listed (bars r) F ι σ wr_ w := by
            funext L w'; unfold SB2; rw [LO_still ho hst]
          rw [hLOe] at hrec
          exact wpAnyI_first (S0 := Same F ι σ (bif earX i then [] else wr_) w) ho' (Region.noSelect_spec hns) (fun c a w hh => hQ _ _ _ _ _ hh) hS0 hSi r.cnt listed a w (Region.free_spec ho' hfree) hmem hy SB2.refl hcl hrec
        cases hwt : Region.wanted o (yielded all.toArray a.tmps) with
        | true =>
          rw [hwt] at hw
          simp only [hst] at hw
          obtain ⟨x, v, hk', hx, hr⟩ := quiet_ok h hw
          exact fin hx (.inl ⟨hwt, hr⟩) hk'
        | false =>
          rw [hwt] at hw
          exact fin VR.undef (.inr ⟨hwt, rfl⟩) hw
      | false =>
        rw [hst] at hs1
        simp only [cond_false, Bool.and_eq_true] at hs1
        have hrd : Region.ready .any all.toArray listed = [ix] := by simpa using hs1.2
        have halt := dops_alt hns hQ hQp (.op i r) h00 (e := none) hs0 hcl hk0 hq
        refine ⟨fun h0 => (by rw [hrd] at h0; cases h0), fun j hj => ?_⟩
        exact halt j (by rw [hrd] at hj; simp at hj; subst hj; simp [OT.hds, hix]) hj (fun o2 ho2 => by rw [hrd] at hj; simp at hj; subst hj; rw [ho] at ho2; cases ho2; exact hst)
termination_by ord => (SizeOf.sizeOf ord, 1)
theorem dops_alt {all : List Oper} {wr_ : List Nat} {Q : Exit → Act → World → Prop} (hns : Region.noSelect all.toArray = true) (hQ : ∀ c a w d v, Q (.panic c) (Act.put a d v) w → Q (.panic c) a w) {Kp : Value → Fr → Sto → Prop} (hQp : ∀ v σ a w, Kp v [] σ → Good cx [] σ a w → Q (.panic [{ v := v, recovered := false }]) a w) : ∀ (ord : OT) {K : Fr → Sto → Prop} {F : Nat → Prop} {ι : Loc} {fr : Fr} {σ : Sto} {a : Act} {w : World} {listed : Array Bool} {e : Option (List Nat)},
    St cx F ι fr σ a w → schedGo all.toArray e listed ord = true → Closed .any all.toArray listed → dops P cx.nt all wr_ Kp ord K fr σ → (∀ fr σ a w, K fr σ → Good cx fr σ a w → Q .normal a w) →
    ∀ k ∈ ord.hds, k ∈ Region.ready .any all.toArray listed → (∀ o, all[k]? = some o → isStill o.op = false) → wpOp P all.toArray Q k (fun a' w' => SB2 all listed (bars ord) F ι σ wr_ w (listed.setIfInBounds k true) w' ∧ wpAnyI P .any all.toArray Q (SB2 all listed (bars ord) F ι σ wr_ w) (ord.cnt - 1) (listed.setIfInBounds k true) a' w') a w
  | .nil, K, F, ι, fr, σ, a, w, listed, e, h, hs, hcl, hk, hq => fun k hk0 => by simp [OT.hds] at hk0
  | .alt x y, K, F, ι, fr, σ, a, w, listed, e, h, hs, hcl, hk, hq => fun k hk0 hrdy hls => by
    simp only [schedGo, Bool.and_eq_true] at hs
    have hc : x.cnt = y.cnt := Nat.eq_of_beq_eq_true hs.1
    have hbb : bars x = bars y := by simpa using hs.2.1
    rcases List.mem_append.mp hk0 with hk1 | hk1
    · exact dops_alt hns hQ hQp x h hs.2.2.2.1 hcl hk.1 hq k hk1 hrdy hls
    · have := dops_alt hns hQ hQp y h hs.2.2.2.2 hcl hk.2 hq k hk1 hrdy hls
      rw [← hc, ← hbb] at this
      exact this
  | .op i r, K, F, ι, fr, σ, a, w, listed, e, h, hs, hcl, hk, hq => fun j hj0 hmem hls => by
    have hjx : j = ixX i := by simpa [OT.hds] using hj0
    simp only [schedGo, Bool.and_eq_true] at hs
    obtain ⟨hs1, hs2⟩ := hs
    simp only [dops, nth_eq] at hk
    have hix : ixX i = j := hjx.symm
    rw [hix] at hs1 hs2 hk
    cases ho : all[j]? with
    | none => rw [ho] at hk; exact hk.elim
    | some o =>
      have ho' : all.toArray[j]? = some o := by simpa using ho
      rw [ho] at hk
      simp only at hk
      obtain ⟨fr, hw, h⟩ := wantK_ok h hk
      have hst : isStill o.op = false := hls o ho
      have hcnt : (OT.op i r).cnt - 1 = r.cnt := rfl
      rw [hcnt]
      unfold wpOp
      rw [ho']
      simp only
      cases hwt : Region.wanted o (yielded all.toArray a.tmps) with
      | true =>
        rw [hwt] at hw
        simp only [hst] at hw
        rw [if_pos rfl]
        left
        cases hbx : barX i with
        | true =>
          rw [hbx] at hw
          simp only [Bool.true_or, cond_true] at hw
          have hbars : bars (.op i r) = j :: bars r := by simp only [bars, hbx, hix]
          rw [hbars]
          refine loud_ok h (loudOK_none _ _) hw (fun x fr' σ' F' ι' v w' hk' hs' hx ht => ?_) (fun v fr' σ' F' ι' w' hk' hs' => hQp v σ' a w' hk' ⟨F', ι', hs'.noFr⟩)
          have hput : ∃ fr'', dops P cx.nt all wr_ Kp r K fr'' σ' ∧ St cx F' ι' fr'' σ' (a.put o.dst v) w' := by
            cases hd : o.dst with
            | none => rw [hd] at hk'; exact ⟨fr', hk', hs'⟩
            | some d =>
              rw [hd] at hk'
              simp only [putK] at hk'
              cases hb : Nat.blt d cx.nt with
              | true => rw [hb] at hk'; simp only [frc_eq] at hk'; exact ⟨_, hk', hs'.put hb hx⟩
              | false => rw [hb] at hk'; exact hk'.elim
          obtain ⟨fr'', hk'', hg⟩ := hput
          have hlisted : (listed.setIfInBounds j true).getD j false = true := by
            have hlt : j < listed.size := by
              have h1 := (mem_ready.1 hmem).1
              refine Nat.lt_of_not_le fun hh => ?_
              simp [Array.getElem?_eq_none hh] at h1
            simp [hlt]
          have hun : listed.getD j false = false := by
            have h1 := (mem_ready.1 hmem).1
            rcases Nat.lt_or_ge j listed.size with h' | h'
            · simpa [h'] using h1
            · simp [Array.getElem?_eq_none h'] at h1
          have hjL : j ∈ LO all listed := mem_LO.2 ⟨hun, o, ho, hst⟩
          have hvac : ∀ (S : Array Bool → World → Prop) L w'', L.getD j false = true → S L w'' → SB2 all listed (j :: bars r) F ι σ wr_ w L w'' := fun S L w'' hL _ => ⟨fun hh => absurd ((hh j (by simp)).symm.trans hL) (by decide), fun hh => absurd ((hh j hjL).symm.trans hL) (by decide)⟩
          exact ⟨hvac (fun _ _ => True) _ _ hlisted trivial, wpAnyI_mono (b := j) (hvac _) hlisted (dops_ok hns hQ hQp r hg hs2 (hcl.set hmem) hk'' hq)⟩
        | false =>
        rw [hbx] at hw
        simp only [Bool.false_or, cond_false] at hw
        have hbars : bars (.op i r) = bars r := by simp only [bars, hbx]
        rw [hbars]
        split at hw
        · rename_i hok
          refine loud_ok h hok hw (fun x fr' σ' F' ι' v w' hk' hs' hx ht => ?_) (fun v fr' σ' F' ι' w' hk' hs' => hQp v σ' a w' hk' ⟨F', ι', hs'.noFr⟩)
          have hput : ∃ fr'', dops P cx.nt all wr_ Kp r K fr'' σ' ∧ St cx F' ι' fr'' σ' (a.put o.dst v) w' := by
            cases hd : o.dst with
            | none => rw [hd] at hk'; exact ⟨fr', hk', hs'⟩
            | some d =>
              rw [hd] at hk'
              simp only [putK] at hk'
              cases hb : Nat.blt d cx.nt with
              | true => rw [hb] at hk'; simp only [frc_eq] at hk'; exact ⟨_, hk', hs'.put hb hx⟩
              | false => rw [hb] at hk'; exact hk'.elim
          obtain ⟨fr'', hk'', hg⟩ := hput
          have hre : ∀ w'', Same F' ι' σ' wr_ w' w'' → Same F ι σ wr_ w w'' := fun w'' hw'' => ⟨fun r hr => (hw''.1 r (ht.f r hr)).trans (ht.fw r hr), fun b r β h1 h2 h3 => by
            obtain ⟨e, hh⟩ := ht.b b r β h1 h2 h3
            rcases hh with hh | ⟨h4, h5⟩
            · exact (hw''.1 r hh).trans e
            · exact (hw''.2 b r β h4 h2 h5).trans e⟩
          have hun : listed.getD j false = false := by
            have h1 := (mem_ready.1 hmem).1
            rcases Nat.lt_or_ge j listed.size with h' | h'
            · simpa [h'] using h1
            · simp [Array.getElem?_eq_none h'] at h1
          have hjL : j ∈ LO all listed := mem_LO.2 ⟨hun, o, ho, hst⟩
          have hlisted : (listed.setIfInBounds j true).getD j false = true := by
            have hlt : j < listed.size := by
              have h1 := (mem_ready.1 hmem).1
              refine Nat.lt_of_not_le fun hh => ?_
              simp [Array.getElem?_eq_none hh] at h1
            simp [hlt]
          exact ⟨⟨fun _ => hre w' Same.refl, fun hh => by have := hh j hjL; rw [hlisted] at this; cases this⟩, wpAnyI_mono (S' := SB2 all listed (bars r) F ι σ wr_ w) (b := j) (fun L w'' hL hw'' => ⟨fun hb => hre w'' (hw''.1 hb), fun hh => by have := hh j hjL; rw [hL] at this; cases this⟩) hlisted (dops_ok hns hQ hQp r hg hs2 (hcl.set hmem) hk'' hq)⟩
        · exact hw.elim
      | false =>
        rw [hwt] at hw
        rw [if_neg (by simp)]
        have hput : ∃ fr'', dops P cx.nt all wr_ Kp r K fr'' σ ∧ St cx F ι fr'' σ (a.put o.dst undef) w := by
          cases hd : o.dst with
          | none => rw [hd] at hw; exact ⟨fr, hw, h⟩
          | some d =>
            rw [hd] at hw
            simp only [putK] at hw
            cases hb : Nat.blt d cx.nt with
            | true => rw [hb] at hw; simp only [frc_eq] at hw; exact ⟨_, hw, h.put hb VR.undef⟩
            | false => rw [hb] at hw; exact hw.elim
        obtain ⟨fr'', hk'', hg⟩ := hput
        have hsub : ∀ b ∈ bars r, b ∈ bars (.op i r) := fun b hb => by
          simp only [bars]
          split
          · exact List.mem_cons_of_mem _ hb
          · exact hb
        have hLs : ∀ b ∈ LO all (listed.setIfInBounds j true), b ∈ LO all listed := fun b hb => by
          obtain ⟨h1, h2⟩ := mem_LO.1 hb
          refine mem_LO.2 ⟨?_, h2⟩
          by_cases e : j = b
          · subst e
            rcases Nat.lt_or_ge j listed.size with h' | h'
            · simp [h'] at h1
            · simp [Array.getElem?_eq_none h']
          · simp only [Array.getD_eq_getD_getElem?] at h1 ⊢
            rwa [Array.getElem?_setIfInBounds_ne e] at h1
        exact ⟨SB2.refl, wpAnyI_mono' (S' := SB2 all listed (bars (.op i r)) F ι σ wr_ w) (fun L w'' hw'' => ⟨fun hb => hw''.1 fun b hm => hb b (hsub b hm), fun hb => hw''.2 fun b hm => hb b (hLs b hm)⟩) (dops_ok hns hQ hQp r hg hs2 (hcl.set hmem) hk'' hq)⟩
termination_by ord => (SizeOf.sizeOf ord, 0)
end
theorem Closed.empty {md : Region.Mode} {ops : Array Oper} {n : Nat} : Closed md ops (Array.replicate n false) := fun k ok hk hL hsz => by
  simp at hsz
  simp [hsz] at hL

/-- The operations of a region, in their order. -/
theorem aops_ok {all : List Oper} {Q : Exit → Act → World → Prop} {Kp : Value → Fr → Sto → Prop} (hQp : ∀ v fr σ a w, Kp v fr σ → Good cx fr σ a w → Q (.panic [{ v := v, recovered := false }]) a w) : ∀ {ops : List Oper} {K : Fr → Sto → Prop} {fr : Fr} {σ : Sto} {a : Act} {w : World}, Good cx fr σ a w → aops P cx.nt all Kp ops K fr σ → (∀ fr σ a w, K fr σ → Good cx fr σ a w → Q .normal a w) → wpList P all.toArray Q ops a w
  | [], K, fr, σ, a, w, h, hk, hq => hq fr σ a w hk h
  | o :: r, K, fr, σ, a, w, h, hk, hq => by
    obtain ⟨F, ι, h⟩ := h
    obtain ⟨fr, hw, h⟩ := wantK_ok h hk
    unfold wpList
    cases hb : Region.wanted o (yielded all.toArray a.tmps) with
    | true =>
      rw [hb] at hw
      simp only [if_true]
      left
      refine loud_ok h (loudOK_none _ _) hw (fun x fr' σ' F ι v w' hk' hs hx _ => ?_) (fun v fr' σ' F' ι' w' hk' hs' => hQp v fr' σ' a w' hk' ⟨F', ι', hs'⟩)
      obtain ⟨fr'', hk'', hg⟩ := Good.put hs hx hk'
      exact aops_ok hQp hg hk'' hq
    | false =>
      rw [hb] at hw
      simp only [Bool.false_eq_true, if_false]
      obtain ⟨fr'', hk'', hg⟩ := Good.put h (VR.undef) hw
      exact aops_ok hQp hg hk'' hq
end
end Go.Proofs.Sy
