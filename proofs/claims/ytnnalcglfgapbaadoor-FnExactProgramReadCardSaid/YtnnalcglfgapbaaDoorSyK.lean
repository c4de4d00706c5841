/- Code and functions: what is to be shown of a function's text. -/
import Derived.Test.YtnnalcglfgapbaaDoorSyJ
set_option linter.unusedVariables false
set_option linter.unusedSimpArgs false
namespace Go.Proofs.Sy
open Go Go.RowKit

inductive AX where
  | normal
  | exit (id : Nat)
  | ret
  | pan (v : Value)

/-- A region that draws its order: one order is told. -/
def drawn (P : Program) (nt : Nat) (ops : Array Oper) (Kp : Value → Fr → Sto → Prop) (K : Fr → Sto → Prop) (fr : Fr) (σ : Sto) : Prop := ∃ ord wr_ : List Nat, schedB P ops (parseO 4000 ord) = true ∧ dops P nt ops.toList wr_ Kp (parseO 4000 ord) K fr σ

def seqX (K : AX → Fr → Sto → Prop) (N : Fr → Sto → Prop) : AX → Fr → Sto → Prop
  | .normal, fr, σ => N fr σ
  | e, fr, σ => K e fr σ
def blkX (id : Nat) (K : AX → Fr → Sto → Prop) : AX → Fr → Sto → Prop
  | .exit j, fr, σ => match Nat.beq j id with
    | true => K .normal fr σ
    | false => K (.exit j) fr σ
  | e, fr, σ => K e fr σ
/-- A test's outcome is known behind it. -/
def upd (c : Operand) (b : Bool) (fr : Fr) : Fr := match c with
  | .tmp t => (t, .p (B b)) :: fr
  | _ => fr
def awp (P : Program) (nt nb : Nat) : Code → (AX → Fr → Sto → Prop) → Fr → Sto → Prop
  | .skip, K, fr, σ => K .normal fr σ
  | .region _ ops d, K, fr, σ => match d with
    | false => aops P nt ops.toList (fun v => K (.pan v)) ops.toList (K .normal) fr σ
    | true => drawn P nt ops (fun v => K (.pan v)) (K .normal) fr σ
  | .seq x y, K, fr, σ => awp P nt nb x (seqX K (awp P nt nb y K)) fr σ
  | .cond c t e, K, fr, σ => match ev fr c with
    | .p (.raw (.bool b)) => (b = true → awp P nt nb t K (upd c true fr) σ) ∧ (b = false → awp P nt nb e K (upd c false fr) σ)
    | _ => False
  | .block id c, K, fr, σ => awp P nt nb c (blkX id K) fr σ
  | .loop c, K, fr, σ => ∃ (X : Type) (S : X → Fr × Sto) (J : X → Nat → Prop), (∃ x n, J x n ∧ Weak nb fr σ (S x)) ∧
      ∀ x n, J x n → awp P nt nb c (seqX K fun fr' σ' => ∃ x' m, J x' m ∧ m < n ∧ Weak nb fr' σ' (S x')) (S x).1 (S x).2
  | .exit id, K, fr, σ => K (.exit id) fr σ
  | .ret, K, fr, σ => K .ret fr σ
  | _, _, _, _ => False

/-- One result: a pointer stays, or its variable is not written any more. -/
def ptrsR (x : AV) (K : List AV → Sto → Prop) (σ : Sto) : Prop := match x with
  | .ptr b o => toPK (fun y σ' => K [.p y] σ') σ (.ptr b o) ∨ ptrsK [.ptr b o] K σ
  | x => ptrsK [x] K σ
/-- What is returned: pointers stay, all else gets pure. -/
def resK (P : Program) : List ResultVar → Fr → (List AV → Sto → Prop) → Sto → Prop
  | [], fr, K, σ => K [] σ
  | .tmp t :: r, fr, K, σ => ptrsR (look t fr) (fun x σ' => resK P r fr (fun l => K (x ++ l)) σ') σ
  | .cell t T :: r, fr, K, σ => loadK P T σ [] (fun x => ptrsR x (fun x σ' => resK P r fr (fun l => K (x ++ l)) σ') σ) (look t fr)
def enterF : Nat → List AV → Fr
  | _, [] => []
  | n, x :: l => (n, x) :: enterF (n + 1) l
def postK (P : Program) (rs : List ResultVar) (nb : Nat) (Post : List AV → Sto → Prop) (fr : Fr) (σ : Sto) : Prop :=
  resK P rs fr (fun l σ' => ∃ τ', (okS τ' σ' ∧ (belowF τ'.length (enterF 0 l) && belowS τ'.length τ' && Nat.ble nb τ'.length && keepB σ' τ' nb) = true) ∧ Post l τ') σ
def retX (P : Program) (rs : List ResultVar) (nb : Nat) (Post : List AV → Sto → Prop) : AX → Fr → Sto → Prop
  | .exit _, _, _ => False
  | .pan _, _, _ => False
  | _, fr, σ => postK P rs nb Post fr σ

section
variable {P : Program} {cx : Cx} {F : Nat → Prop} {ι : Loc} {fr : Fr} {σ : Sto} {a : Act} {w w' : World}

def Lift (cx : Cx) (K : AX → Fr → Sto → Prop) : Exit → Act → World → Prop
  | .normal, a, w => ∃ fr σ, K .normal fr σ ∧ Good cx fr σ a w
  | .exit id, a, w => ∃ fr σ, K (.exit id) fr σ ∧ Good cx fr σ a w
  | .ret, a, w => ∃ fr σ, K .ret fr σ ∧ Good cx fr σ a w
  | .panic chain, a, w => ∃ v fr σ, chain = [{ v := v, recovered := false }] ∧ K (.pan v) fr σ ∧ Good cx fr σ a w
  | _, _, _ => False

/-- The same, the frame of a panic forgotten. -/
def LiftD (cx : Cx) (K : AX → Fr → Sto → Prop) : Exit → Act → World → Prop
  | .panic chain, a, w => ∃ v σ, chain = [{ v := v, recovered := false }] ∧ K (.pan v) [] σ ∧ Good cx [] σ a w
  | e, a, w => Lift cx K e a w
theorem LiftD_lift {K : AX → Fr → Sto → Prop} {e : Exit} (h : LiftD cx K e a w) : Lift cx K e a w := by
  cases e with
  | panic ch => obtain ⟨v, σ, e, hk, hg⟩ := h; exact ⟨v, [], σ, e, hk, hg⟩
  | _ => exact h
theorem LiftD_put {K : AX → Fr → Sto → Prop} {c : List PanicEntry} {d : Option Tmp} {u : Value} (h : LiftD cx K (.panic c) (a.put d u) w) : LiftD cx K (.panic c) a w := by
  obtain ⟨v, σ, e, hk, F, ι, hg⟩ := h
  refine ⟨v, σ, e, hk, F, ι, fun t => .dead _, hg.sr, hg.inv, ?_, ?_⟩
  · have := hg.nt
    cases d with
    | none => exact this
    | some d => simpa [Act.put] using this
  · have := hg.df
    cases d with
    | none => exact this
    | some d => simpa [Act.put] using this

/-- A loop with a bound on its rounds. -/
theorem wp_loopN {c : Code} {Q : Exit → Act → World → Prop} (I : Nat → Act → World → Prop) (n : Nat) (h₀ : I n a w)
    (round : ∀ n a w, I n a w → c.wp P (Exit.then (fun a' w' => ∃ m, m < n ∧ I m a' w') Q) a w) : (Code.loop c).wp P Q a w := by
  intro b k cs
  have key : ∀ n a w, I n a w → ∃ e a' w', Q e a' w' ∧ Arrives P (lone (b.at a (.code c :: .inLoop c :: k)) cs w) b k cs e a' w' := by
    intro n
    induction n using Nat.strongRecOn with
    | _ n ih =>
      intro a w hI
      obtain ⟨e, a₁, w₁, hq, harr⟩ := round n a w hI b (.inLoop c :: k) cs
      cases e with
      | normal =>
        obtain ⟨m, hlt, hI₁⟩ := hq
        obtain ⟨e₂, a₂, w₂, hq₂, harr₂⟩ := ih m hlt a₁ w₁ hI₁
        exact ⟨e₂, a₂, w₂, hq₂, .of_steps (Steps.trans harr (.one step_inLoop)) harr₂⟩
      | exit id => exact ⟨_, a₁, w₁, hq, .pass (x := .inLoop c) rfl (fun _ _ => .inl (by simp)) harr⟩
      | goto l => exact ⟨_, a₁, w₁, hq, .pass (x := .inLoop c) rfl (fun _ _ => .inl (by simp)) harr⟩
      | ret => exact ⟨_, a₁, w₁, hq, .pass (x := .inLoop c) rfl (fun _ _ => .inl (by simp)) harr⟩
      | panic ch => exact ⟨_, a₁, w₁, hq, .pass (x := .inLoop c) rfl (fun _ _ => .inl (by simp)) harr⟩
      | outgrown => exact ⟨_, a₁, w₁, hq, .pass (x := .inLoop c) rfl (fun _ _ => .inl (by simp)) harr⟩
  obtain ⟨e, a', w', hq, harr⟩ := key n a w h₀
  exact ⟨e, a', w', hq, .of_steps (.one step_loop) harr⟩

theorem awp_ok {nb : Nat} (hB : ∀ b, cx.B0 b → b < nb) : ∀ (c : Code) {K : AX → Fr → Sto → Prop} {fr : Fr} {σ : Sto} {a : Act} {w : World}, Good cx fr σ a w → awp P cx.nt nb c K fr σ → c.wp P (Lift cx K) a w := by
  intro c
  induction c with
  | skip => intro K fr σ a w h hk; exact wp_skip ⟨fr, σ, hk, h⟩
  | region id ops d =>
    intro K fr σ a w h hk
    cases d with
    | false =>
      refine wp_region_list ?_
      have := aops_ok (Q := Lift cx K) (Kp := fun v => K (.pan v)) (fun v fr σ a w hk hg => ⟨v, fr, σ, rfl, hk, hg⟩) h hk (fun fr σ a w hk hg => ⟨fr, σ, hk, hg⟩)
      rwa [Array.toArray_toList] at this
    | true =>
      obtain ⟨ord, wr_, hs, hk⟩ := hk
      simp only [schedB, Bool.and_eq_true] at hs
      obtain ⟨⟨⟨hm, hns⟩, hl⟩, hs⟩ := hs
      have hl := Nat.eq_of_beq_eq_true hl
      obtain ⟨F, ι, h'⟩ := h
      have hup : St cx F ι fr σ a { w with drawn := w.drawn + 1 } := h'.up ⟨rfl, rfl, rfl, Nat.le_refl _, fun _ _ => rfl⟩
      refine Code.wp_mono (fun e a w hq => LiftD_lift hq) (wp_region_any (Q := LiftD cx K) hm (wpAny_of_I (S := SB2 ops.toList (Array.replicate ops.size false) (bars (parseO 4000 ord)) F ι σ wr_ { w with drawn := w.drawn + 1 }) _ _ _ _ ?_))
      have := dops_ok (P := P) (all := ops.toList) (wr_ := wr_) (Q := LiftD cx K) (listed := Array.replicate ops.size false) (by rw [Array.toArray_toList]; exact hns) (fun c a w d u hh => LiftD_put hh) (Kp := fun v => K (.pan v)) (fun v σ a w hk hg => ⟨v, σ, rfl, hk, hg⟩) (parseO 4000 ord) hup (by rw [Array.toArray_toList]; exact hs) Closed.empty hk (fun fr σ a w hk hg => ⟨fr, σ, hk, hg⟩)
      rw [Array.toArray_toList, hl] at this
      exact this
  | seq x y ihx ihy =>
    intro K fr σ a w h hk
    refine wp_seq (Code.wp_mono ?_ (ihx h hk))
    intro e a w hq
    cases e with
    | normal => obtain ⟨fr, σ, hk, hg⟩ := hq; exact ihy hg hk
    | exit id => exact hq
    | ret => exact hq
    | goto l => exact hq.elim
    | panic ch => obtain ⟨v, fr, σ, e, hk, hg⟩ := hq; exact ⟨v, fr, σ, e, hk, hg⟩
    | outgrown => exact hq.elim
  | cond c t e iht ihe =>
    intro K fr σ a w h hk
    simp only [awp] at hk
    split at hk
    · rename_i b hb
      obtain ⟨F, ι, h'⟩ := h
      have hv := ev_ok h' c
      rw [hb] at hv
      have hc := VR.inv_raw hv
      have hu : ∀ b', b = b' → St cx F ι (upd c b' fr) σ a w := fun b' e => by
        subst e
        cases c with
        | tmp d =>
          refine ⟨fun t => ?_, h'.sr, h'.inv, h'.nt, h'.df⟩
          simp only [upd, look]
          by_cases e : d = t
          · subst e; rw [beq_tt]
            have hc2 : a.tmps.getD d undef = .bool b := hc
            show VR F ι w (.p (B b)) (a.tmps.getD d undef)
            rw [hc2]; exact VR.raw rfl
          · rw [beq_ff e]; exact h'.fr t
        | _ => exact h'
      exact wp_cond_split hc (fun e => iht ⟨F, ι, hu true e⟩ (hk.1 e)) (fun e => ihe ⟨F, ι, hu false e⟩ (hk.2 e))
    · exact hk.elim
  | block id c ih =>
    intro K fr σ a w h hk
    refine wp_block (Code.wp_mono ?_ (ih h hk))
    intro e a w hq
    cases e with
    | normal => exact hq
    | exit j =>
      obtain ⟨fr, σ, hk, hg⟩ := hq
      simp only [blkX] at hk
      simp only [Exit.inBlock]
      by_cases hj : j = id
      · subst hj; rw [if_pos rfl]; rw [beq_tt] at hk; exact ⟨fr, σ, hk, hg⟩
      · rw [if_neg hj]; rw [beq_ff hj] at hk; exact ⟨fr, σ, hk, hg⟩
    | ret => exact hq
    | goto l => exact hq.elim
    | panic ch => obtain ⟨v, fr, σ, e, hk, hg⟩ := hq; exact ⟨v, fr, σ, e, hk, hg⟩
    | outgrown => exact hq.elim
  | loop c ih =>
    intro K fr σ a w h hk
    obtain ⟨X, S, J, ⟨x, n, hJ, hW⟩, hround⟩ := hk
    refine wp_loopN (fun n a w => ∃ x, J x n ∧ Good cx (S x).1 (S x).2 a w) n ⟨x, hJ, weak_ok h hB hW⟩ ?_
    rintro n a w ⟨x, hJ, hg⟩
    refine Code.wp_mono ?_ (ih hg (hround x n hJ))
    intro e a w hq
    cases e with
    | normal =>
      obtain ⟨fr, σ, ⟨x', m, hJ', hlt, hW'⟩, hg'⟩ := hq
      exact ⟨m, hlt, x', hJ', weak_ok hg' hB hW'⟩
    | exit id => exact hq
    | ret => exact hq
    | goto l => exact hq.elim
    | panic ch => obtain ⟨v, fr, σ, e, hk, hg⟩ := hq; exact ⟨v, fr, σ, e, hk, hg⟩
    | outgrown => exact hq.elim
  | exit id => intro K fr σ a w h hk; exact wp_exit ⟨fr, σ, hk, h⟩
  | ret => intro K fr σ a w h hk; exact wp_ret ⟨fr, σ, hk, h⟩
  | _ => intro K fr σ a w h hk; exact hk.elim

theorem enterF_look : ∀ (l : List AV) (s t : Nat), look t (enterF s l) = if t < s then .dead else (l[t - s]?).getD .dead
  | [], s, t => by simp [enterF, look]
  | x :: l, s, t => by
    simp only [enterF, look]
    by_cases e : s = t
    · subst e; rw [beq_tt]; simp
    · rw [beq_ff e]
      simp only [cond_false]
      rw [enterF_look l (s + 1) t]
      by_cases h1 : t < s
      · rw [if_pos (by omega), if_pos h1]
      · rw [if_neg (by omega), if_neg h1]
        have : t - s = (t - (s + 1)) + 1 := by omega
        rw [this, List.getElem?_cons_succ]

def resOne (tmps : Array Value) : ResultVar → Sem Value
  | .tmp t => pure (tmps.getD t undef)
  | .cell a t => do loadVar t (← asAddr (tmps.getD a undef))

theorem loadAt_addr {T : TypeId} {u v : Value} (h : (Instr.loadAt T u).run P w = .ok v w) : (do loadVar T (← asAddr u) : Sem Value).run P w = .ok v w := by
  cases u with
  | pointer a =>
    cases a with
    | none => simp [Instr.loadAt, Instr.sureAddr, stuck, Sem.run, Result.andThen] at h
    | some a => simpa [Instr.loadAt, Instr.sureAddr, asAddr] using h
  | _ => simp [Instr.loadAt, Instr.sureAddr, stuck, Sem.run, Result.andThen] at h

theorem ptrsR_ok {x : AV} {v : Value} {K : List AV → Sto → Prop} (h : St cx F ι fr σ a w) (hx : VR F ι w x v) (hk : ptrsR x K σ) :
    ∃ F' σ' ys, K ys σ' ∧ (∀ r, F r → F' r) ∧ St cx F' ι fr σ' a w ∧ VRs F' ι w ys [v] ∧ ∀ wr, Step wr F ι σ w F' ι σ' w := by
  have go : ptrsK [x] K σ → ∃ F' σ' ys, K ys σ' ∧ (∀ r, F r → F' r) ∧ St cx F' ι fr σ' a w ∧ VRs F' ι w ys [v] ∧ ∀ wr, Step wr F ι σ w F' ι σ' w := fun hk =>
    ptrsK_ok (l := [x]) (vs := [v]) h ⟨rfl, fun j y u hy hu => by
        cases j with
        | zero => simp at hy hu; subst hy; subst hu; exact hx
        | succ j => simp at hy⟩ hk
  unfold ptrsR at hk
  split at hk
  · rcases hk with hk | hk
    · obtain ⟨F1, σ1, y, hk1, hF1, h1, hy, _, t1⟩ := toPK_ok h hx hk
      exact ⟨F1, σ1, _, hk1, hF1, h1, ⟨rfl, fun j z u hz hu => by
        cases j with
        | zero => simp at hz hu; subst hz; subst hu; exact .p _ _ hy
        | succ j => simp at hz⟩, t1⟩
    · exact go hk
  · exact go hk
theorem resK_ok : ∀ {rs : List ResultVar} {K : List AV → Sto → Prop} {F : Nat → Prop} {σ : Sto}, St cx F ι fr σ a w → resK P rs fr K σ →
    ∃ F' σ' l us, K l σ' ∧ (∀ r, F r → F' r) ∧ St cx F' ι fr σ' a w ∧ VRs F' ι w l us ∧ (rs.mapM (resOne a.tmps)).run P w = .ok us w
  | [], K, F, σ, h, hk => ⟨F, σ, [], [], hk, fun _ h => h, h, ⟨rfl, fun j x v hx => by simp at hx⟩, by simp⟩
  | r :: rs, K, F, σ, h, hk => by
    have key : ∀ {x : AV} {v : Value}, VR F ι w x v → (resOne a.tmps r).run P w = .ok v w → ptrsR x (fun x σ' => resK P rs fr (fun l => K (x ++ l)) σ') σ →
        ∃ F' σ' l us, K l σ' ∧ (∀ r, F r → F' r) ∧ St cx F' ι fr σ' a w ∧ VRs F' ι w l us ∧ ((r :: rs).mapM (resOne a.tmps)).run P w = .ok us w := by
      intro x v hx hr hk
      obtain ⟨F1, σ1, ys, hk1, hF1, h1, hys, _⟩ := ptrsR_ok h hx hk
      obtain ⟨F2, σ2, l, us, hk2, hF2, h2, hl, hr2⟩ := resK_ok h1 hk1
      have hyl : ys.length = 1 := hys.1.symm
      obtain ⟨y, rfl⟩ := List.length_eq_one_iff.mp hyl
      refine ⟨F2, σ2, [y] ++ l, v :: us, hk2, fun r hr => hF2 r (hF1 r hr), h2, ⟨by simp [hl.1], fun j z u hz hu => ?_⟩, by simp [List.mapM_cons, hr, hr2]⟩
      cases j with
      | zero =>
        simp at hz hu; subst hz; subst hu
        exact (hys.2 0 y v rfl rfl).mono hF2 (fun _ _ => rfl) (fun _ _ h => h) (fun _ _ _ _ _ h => h)
      | succ j => exact hl.2 j z u (by simpa using hz) (by simpa using hu)
    cases r with
    | tmp t => exact key (h.fr t) rfl hk
    | cell t T =>
      obtain ⟨x, v, hk', hx, hr⟩ := loadK_ok (P := P) h.sr (h.fr t) hk
      exact key hx (loadAt_addr (hr w Same.refl)) hk'

theorem run_results {fn : Func} {us : List Value} {tmps : Array Value} (h : (fn.results.toList.mapM (resOne tmps)).run P w = .ok us w) : (results fn tmps).run P w = .ok (resV us) w := by
  have e : results fn tmps = (do let vs ← fn.results.mapM (resOne tmps); pure (if h : vs.size = 1 then vs[0] else .tuple vs)) := by
    unfold results
    congr 1
  have e2 : (fn.results.mapM (resOne tmps)).run P w = .ok us.toArray w := by
    rw [Array.mapM_eq_mapM_toList]
    show ((fn.results.toList.mapM (resOne tmps)).bind (fun l => Sem.pure l.toArray)).run P w = _
    rw [Sem.run_bind', h]
    rfl
  rw [e, Sem.run_bind, e2]
  simp only [Result.andThen_ok, Sem.run_pure]
  congr 1
  match us with
  | [v] => simp [resV]
  | [] => simp [resV]
  | u :: v :: r => simp [resV]

/-- A function, by its text. -/
theorem fn_intro {f : Nat} {fn : Func} {c : Code} {args : List AV} {τ : Sto} {Post : List AV → Sto → Prop} (hf : P.funcs[f]? = some fn) (hb : fn.body = some c) (hn : (fn.name == "runtime.NumGoroutine") = false) (ha : Nat.ble args.length fn.ntmps = true)
    (h : awp P fn.ntmps τ.length c (retX P fn.results.toList τ.length Post) (enterF 0 args) τ) : Fn P f args τ Post := by
  refine ⟨by unfold callable; rw [hf]; simp [hb, hn], fun F ι w vs hargs hs hlt => ?_⟩
  have ha' : args.length ≤ fn.ntmps := Nat.le_of_ble_eq_true ha
  refine calls_of_wp hf hb ?_
  have hcx : ∀ b, (cxOf F ι τ w fn.ntmps).B0 b → b < τ.length := fun b hb => at_lt (fun e => by rw [show (cxOf F ι τ w fn.ntmps).B0 b = ((at_ τ b).isBox = true) from rfl, e] at hb; cases hb)
  have hgood : Good (cxOf F ι τ w fn.ntmps) (enterF 0 args) τ { tmps := vs.toArray ++ Array.replicate (fn.ntmps - vs.toArray.size) undef, defers := [] } w := by
    refine ⟨F, ι, ⟨fun t => ?_, hs, ⟨rfl, rfl, rfl, Nat.le_refl _, fun r h => h, fun _ _ _ => rfl, fun r h _ => .inl h, fun b r β h1 h2 _ => ⟨b, β, h1, h2⟩, fun _ _ => rfl, hlt, fun _ h => h, fun _ _ h => h⟩, ?_, rfl⟩⟩
    · rw [enterF_look]
      simp only [Nat.not_lt_zero, if_false, Nat.sub_zero]
      cases hx : args[t]? with
      | none => exact .dead _
      | some x =>
        have htl := (List.getElem?_eq_some_iff.mp hx).1
        obtain ⟨v, hv⟩ : ∃ v, vs[t]? = some v := ⟨_, List.getElem?_eq_getElem (by rw [hargs.1]; exact htl)⟩
        have : (vs.toArray ++ Array.replicate (fn.ntmps - vs.toArray.size) undef).getD t undef = v := by
          have hlt2 : t < vs.length := by rw [hargs.1]; exact htl
          have e : (vs.toArray ++ Array.replicate (fn.ntmps - vs.toArray.size) undef)[t]? = some v := by
            rw [Array.getElem?_append_left (by simpa using hlt2)]; simpa using hv
          rw [Array.getD_eq_getD_getElem?, e]; rfl
        show VR F ι w ((some x).getD .dead) (Array.getD _ t undef)
        rw [this]
        exact hargs.2 t x v hx hv
    · simp [hargs.1]
      show args.length + (fn.ntmps - args.length) = fn.ntmps
      omega
  refine Code.wp_mono ?_ (awp_ok hcx c hgood h)
  have hret : ∀ fr σ a' w', postK P fn.results.toList τ.length Post fr σ → Good (cxOf F ι τ w fn.ntmps) fr σ a' w' →
      a'.defers = [] ∧ ∃ v, (results fn a'.tmps).run P w' = .ok v w' ∧ ∃ F' ι' rs τ' us, Ending.returned v = .returned (resV us) ∧ Post rs τ' ∧ VRs F' ι' w' rs us ∧ SR F' ι' w' τ' ∧ Inv (cxOf F ι τ w 0) F' ι' τ' w' ∧ τ.length ≤ τ'.length := by
    rintro fr σ a' w' hk ⟨F1, ι1, hst⟩
    obtain ⟨F2, σ2, l, us, ⟨τ', ⟨hok, hbel⟩, hpost⟩, hF2, h2, hl, hr⟩ := resK_ok hst hk
    simp only [Bool.and_eq_true] at hbel
    obtain ⟨⟨⟨hb1, hb2⟩, hb3⟩, hb4⟩ := hbel
    refine ⟨h2.df, _, run_results hr, ?_⟩
    -- the results as a frame of their own
    have hfr : St (cxOf F ι τ w us.length) F2 ι1 (enterF 0 l) σ2 { tmps := us.toArray, defers := [] } w' := by
      refine ⟨fun t => ?_, h2.sr, ⟨h2.inv.os, h2.inv.tape, h2.inv.output, h2.inv.size, h2.inv.f0, h2.inv.keep, h2.inv.newF, h2.inv.own, h2.inv.fix, h2.inv.lt, h2.inv.bx, h2.inv.len⟩, by simp [cxOf], rfl⟩
      rw [enterF_look]
      simp only [Nat.not_lt_zero, if_false, Nat.sub_zero]
      cases hx : l[t]? with
      | none => exact .dead _
      | some x =>
        have htl := (List.getElem?_eq_some_iff.mp hx).1
        obtain ⟨v, hv⟩ : ∃ v, us[t]? = some v := ⟨_, List.getElem?_eq_getElem (by rw [hl.1]; exact htl)⟩
        have : us.toArray.getD t undef = v := by rw [Array.getD_eq_getD_getElem?]; simp [hv]
        show VR F2 ι1 w' ((some x).getD .dead) (Array.getD _ t undef)
        rw [this]
        exact hl.2 t x v hx hv
    have hokF : okFr (enterF 0 l) (enterF 0 l) := by
      have : ∀ (l : List AV) (s : Nat) (fr : Fr), (∀ j x, l[j]? = some x → look (s + j) fr = x) → okFr fr (enterF s l) := by
        intro l
        induction l with
        | nil => intro s fr _; trivial
        | cons x l ih =>
          intro s fr hh
          refine ⟨?_, ih (s + 1) fr (fun j y hy => by have := hh (j + 1) y (by simpa using hy); rwa [show s + (j + 1) = s + 1 + j by omega] at this)⟩
          have := hh 0 x rfl
          rw [Nat.add_zero] at this
          rw [this]
          cases x <;> first | trivial | rfl
      refine this l 0 _ fun j x hx => ?_
      rw [Nat.zero_add, enterF_look]; simp [hx]
    obtain ⟨F3, ι3, h3⟩ := weak_ok (s := (enterF 0 l, τ')) ⟨F2, ι1, hfr⟩ hcx (.of0 ⟨[], hokF, by simpa [nilRows] using hok, by simp only [Bool.and_eq_true]; exact ⟨⟨⟨hb1, hb2⟩, hb3⟩, hb4⟩⟩)
    refine ⟨F3, ι3, l, τ', us, rfl, hpost, ⟨hl.1, fun j x v hx hv => ?_⟩, h3.sr, ⟨h3.inv.os, h3.inv.tape, h3.inv.output, h3.inv.size, h3.inv.f0, h3.inv.keep, h3.inv.newF, h3.inv.own, h3.inv.fix, h3.inv.lt, h3.inv.bx, h3.inv.len⟩, Nat.le_of_ble_eq_true hb3⟩
    have := h3.fr j
    rw [enterF_look] at this
    simp only [Nat.not_lt_zero, if_false, Nat.sub_zero, hx, Option.getD_some] at this
    have e : us.toArray.getD j undef = v := by rw [Array.getD_eq_getD_getElem?]; simp [hv]
    have this' : VR F3 ι3 w' x (us.toArray.getD j undef) := this
    rwa [e] at this'
  intro e a' w' hq
  cases e with
  | normal => obtain ⟨fr, σ, hk, hg⟩ := hq; exact hret fr σ a' w' hk hg
  | ret => obtain ⟨fr, σ, hk, hg⟩ := hq; exact hret fr σ a' w' hk hg
  | exit id => obtain ⟨fr, σ, hk, hg⟩ := hq; exact hk.elim
  | goto l => exact hq.elim
  | panic ch => obtain ⟨v, fr, σ, e, hk, hg⟩ := hq; exact hk.elim
  | outgrown => exact hq.elim

theorem okFr_enter {l' l : List AV} (h : okL l' l) : ∀ (s : Nat) (fr : Fr), (∀ j x, l[j]? = some x → look (s + j) fr = x) → okFr fr (enterF s l') := by
  induction l' generalizing l with
  | nil => intro s fr _; trivial
  | cons x' l' ih =>
    intro s fr hh
    match l, h with
    | x :: l, h =>
      refine ⟨?_, ih h.2 (s + 1) fr (fun j y hy => by have := hh (j + 1) y (by simpa using hy); rwa [show s + (j + 1) = s + 1 + j by omega] at this)⟩
      have := hh 0 x rfl
      rw [Nat.add_zero] at this
      rw [this]
      exact h.1
theorem belowF_enter {n : Nat} : ∀ {l : List AV} (s : Nat), AV.low.lowL n l = true → belowF n (enterF s l) = true
  | [], _, _ => rfl
  | x :: l, s, h => by
    simp only [AV.low.lowL, Bool.and_eq_true] at h
    simp only [enterF, belowF, Bool.and_eq_true]
    exact ⟨h.1, belowF_enter (s + 1) h.2⟩
/-- A contract serves where less is asked: rows that are nil yet, values that are forgotten. -/
theorem Fn.weak {f : Nat} {args args' : List AV} {τ τ' : Sto} {Post : List AV → Sto → Prop} (h : Fn P f args' τ' Post) (nils : List (TypeId × Nat)) (ha : okL args' args) (hs : okS τ' (τ ++ nilRows nils))
    (hb : (AV.low.lowL τ'.length args' && belowS τ'.length τ' && Nat.ble τ.length τ'.length && keepB τ τ' τ.length) = true) : Fn P f args τ Post := by
  refine ⟨h.1, fun F ι w vs hargs hsr hlt => ?_⟩
  simp only [Bool.and_eq_true] at hb
  obtain ⟨⟨⟨hb1, hb2⟩, hb3⟩, hb4⟩ := hb
  have hcx : ∀ b, (cxOf F ι τ w vs.length).B0 b → b < τ.length := fun b hb => at_lt (fun e => by rw [show (cxOf F ι τ w vs.length).B0 b = ((at_ τ b).isBox = true) from rfl, e] at hb; cases hb)
  have hst : St (cxOf F ι τ w vs.length) F ι (enterF 0 args) τ { tmps := vs.toArray, defers := [] } w := by
    refine ⟨fun t => ?_, hsr, ⟨rfl, rfl, rfl, Nat.le_refl _, fun r h => h, fun _ _ _ => rfl, fun r h _ => .inl h, fun b r β h1 h2 _ => ⟨b, β, h1, h2⟩, fun _ _ => rfl, hlt, fun _ h => h, fun _ _ h => h⟩, by simp [cxOf], rfl⟩
    rw [enterF_look]
    simp only [Nat.not_lt_zero, if_false, Nat.sub_zero]
    cases hx : args[t]? with
    | none => exact .dead _
    | some x =>
      have htl := (List.getElem?_eq_some_iff.mp hx).1
      obtain ⟨v, hv⟩ : ∃ v, vs[t]? = some v := ⟨_, List.getElem?_eq_getElem (by rw [hargs.1]; exact htl)⟩
      have : vs.toArray.getD t undef = v := by rw [Array.getD_eq_getD_getElem?]; simp [hv]
      show VR F ι w x (vs.toArray.getD t undef)
      rw [this]
      exact hargs.2 t x v hx hv
  have hlen : args'.length = args.length := (okL_get ha).1
  obtain ⟨F1, ι1, h1⟩ := weak_ok (s := (enterF 0 args', τ')) (nb := τ.length) ⟨F, ι, hst⟩ hcx (.of0 ⟨nils, okFr_enter ha 0 _ (fun j x hx => by rw [Nat.zero_add, enterF_look]; simp [hx]), hs, by
    simp only [Bool.and_eq_true]; exact ⟨⟨⟨belowF_enter 0 hb1, hb2⟩, hb3⟩, hb4⟩⟩)
  have hi1 := h1.inv
  have hargs1 : VRs F1 ι1 w args' vs := by
    refine ⟨by rw [hlen]; exact hargs.1, fun j x v hx hv => ?_⟩
    have := h1.fr j
    simp only [enterF_look, Nat.not_lt_zero, if_false, Nat.sub_zero, hx, Option.getD_some] at this
    have e : vs.toArray.getD j undef = v := by rw [Array.getD_eq_getD_getElem?]; simp [hv]
    have this' : VR F1 ι1 w x (vs.toArray.getD j undef) := this
    rwa [e] at this'
  refine (h.2 F1 ι1 w vs hargs1 h1.sr hi1.lt).mono ?_
  rintro e w' ⟨F', ι', rs, τ2, us, he, hp, hr, hs2, hi, hl⟩
  have hO : ∀ r, r < w.heap.size → (cxOf F1 ι1 τ' w 0).O r → (cxOf F ι τ w 0).O r := fun r hr ⟨b, β, h2, h3⟩ => hi1.own b r β h2 h3 hr
  refine ⟨F', ι', rs, τ2, us, he, hp, hr, hs2, ⟨hi.os, hi.tape, hi.output, hi.size, fun r hr => hi.f0 r (hi1.f0 r hr), fun r hr hn => hi.keep r hr (fun ho => hn (hO r hr ho)), fun r hr hl => ?_, fun b r β h2 h3 hl => hO r hl (hi.own b r β h2 h3 hl), fun b hb => ?_, hi.lt, fun b hb => hi.bx b (hi1.bx b hb), hi.len⟩, Nat.le_trans (Nat.le_of_ble_eq_true hb3) hl⟩
  · rcases hi.newF r hr hl with h2 | h2
    · exact hi1.newF r h2 hl
    · exact .inr (hO r hl h2)
  · exact (hi.fix b (hi1.bx b hb)).trans (hi1.fix b hb)
end
end Go.Proofs.Sy
