/- Deferred functions that recover. -/
import Derived.Test.YtnnalcglfgapbaaDoorSyT
import Derived.Recover
set_option linter.unusedVariables false
set_option linter.unusedSimpArgs false
namespace Go.Proofs.Sy
open Go Go.RowKit
def modeR : Option Value → Bool → FrameMode
  | none, _ => .returning
  | some v, b => .panicking [{ v := v, recovered := b }]
/-- A deferred closure: it finds a panic with v, or none, and ends it. -/
def FnR (P : Program) (f : Nat) (args : List AV) (τ : Sto) (rv : Option Value) (Post : Sto → Prop) : Prop :=
  callable P f = true ∧ ∀ F ι w vs, VRs F ι w args vs → SR F ι w τ → (∀ r, F r → r < w.heap.size) →
    CallsD P f vs.toArray (modeR rv false) w fun e u' w' => u' = modeR rv true ∧ ∃ F' ι' rs τ' us, (e = .returned (resV us) ∧ Post τ') ∧ VRs F' ι' w' rs us ∧ SR F' ι' w' τ' ∧ Inv (cxOf F ι τ w 0) F' ι' τ' w' ∧ τ.length ≤ τ'.length
section
variable {P : Program} {cx : Cx} {F : Nat → Prop} {ι : Loc} {fr : Fr} {σ : Sto} {a : Act} {w w' : World}
theorem res_ok {nb : Nat} {fn : Func} {Post : List AV → Sto → Prop} (hB : ∀ b, cx.B0 b → b < nb) (hst : Good cx fr σ a w) (hk : postJ P fn.results.toList nb Post fr σ) :
    ∃ us, (results fn a.tmps).run P w = .ok (resV us) w ∧ ∃ F' ι' rs τ', Post rs τ' ∧ VRs F' ι' w rs us ∧ SR F' ι' w τ' ∧ Inv cx F' ι' τ' w ∧ nb ≤ τ'.length := by
  obtain ⟨F1, ι1, hst⟩ := hst
  obtain ⟨F2, σ2, l, us, ⟨l', τ', hw, hll, hpost⟩, hF2, h2, hl, hr⟩ := resK_ok hst hk
  refine ⟨us, run_results hr, ?_⟩
  have hfr : St { cx with nt := us.length, df := [] } F2 ι1 (enterF 0 l) σ2 { tmps := us.toArray, defers := [] } w := by
    refine ⟨fun t => ?_, h2.sr, ⟨h2.inv.os, h2.inv.tape, h2.inv.output, h2.inv.size, h2.inv.f0, h2.inv.keep, h2.inv.newF, h2.inv.own, h2.inv.fix, h2.inv.lt, h2.inv.bx, h2.inv.len⟩, by simp, rfl⟩
    rw [enterF_look]
    simp only [Nat.not_lt_zero, if_false, Nat.sub_zero]
    cases hx : l[t]? with
    | none => exact .dead _
    | some x =>
      have htl := (List.getElem?_eq_some_iff.mp hx).1
      obtain ⟨v, hv⟩ : ∃ v, us[t]? = some v := ⟨_, List.getElem?_eq_getElem (by rw [hl.1]; exact htl)⟩
      have : us.toArray.getD t undef = v := by rw [Array.getD_eq_getD_getElem?]; simp [hv]
      show VR F2 ι1 w x (us.toArray.getD t undef)
      rw [this]
      exact hl.2 t x v hx hv
  have hbl : nb ≤ τ'.length := by
    obtain ⟨_, _, _, hb⟩ := hw
    simp only [Bool.and_eq_true] at hb
    exact Nat.le_of_ble_eq_true hb.1.1.2
  obtain ⟨F3, ι3, h3⟩ := weak_ok (s := (enterF 0 l', τ')) ⟨F2, ι1, hfr⟩ hB hw
  refine ⟨F3, ι3, l', τ', hpost, ⟨hl.1.trans hll.symm, fun j x v hx hv => ?_⟩, h3.sr, ⟨h3.inv.os, h3.inv.tape, h3.inv.output, h3.inv.size, h3.inv.f0, h3.inv.keep, h3.inv.newF, h3.inv.own, h3.inv.fix, h3.inv.lt, h3.inv.bx, h3.inv.len⟩, hbl⟩
  have := h3.fr j
  rw [enterF_look] at this
  simp only [Nat.not_lt_zero, if_false, Nat.sub_zero, hx, Option.getD_some] at this
  have e : us.toArray.getD j undef = v := by rw [Array.getD_eq_getD_getElem?]; simp [hv]
  have this' : VR F3 ι3 w x (us.toArray.getD j undef) := this
  rwa [e] at this'
/-- What a function's arguments come to at its begin. -/
theorem enter_ok {fn : Func} {args : List AV} {vs : List Value} {τ : Sto} (ha : args.length ≤ fn.ntmps) (hargs : VRs F ι w args vs) (hs : SR F ι w τ) (hlt : ∀ r, F r → r < w.heap.size) :
    St (cxOf F ι τ w fn.ntmps) F ι (enterF 0 args) τ { tmps := vs.toArray ++ Array.replicate (fn.ntmps - vs.toArray.size) undef, defers := [] } w := by
  refine ⟨fun t => ?_, hs, ⟨rfl, rfl, rfl, Nat.le_refl _, fun r h => h, fun _ _ _ => rfl, fun r h _ => .inl h, fun b r β h1 h2 _ => ⟨b, β, h1, h2⟩, fun _ _ => rfl, hlt, fun _ h => h, fun _ _ h => h⟩, ?_, rfl⟩
  · rw [enterF_look]
    simp only [Nat.not_lt_zero, if_false, Nat.sub_zero]
    cases hx : args[t]? with
    | none => exact .dead _
    | some x =>
      have htl := (List.getElem?_eq_some_iff.mp hx).1
      obtain ⟨v, hv⟩ : ∃ v, vs[t]? = some v := ⟨_, List.getElem?_eq_getElem (by rw [hargs.1]; exact htl)⟩
      have : (vs.toArray ++ Array.replicate (fn.ntmps - vs.toArray.size) undef).getD t undef = v := by
        have hlt2 : t < vs.length := by rw [hargs.1]; exact htl
        have e : (vs.toArray ++ Array.replicate (fn.ntmps - vs.toArray.size) undef)[t]? = some v := by
          rw [Array.getElem?_append_left (by simpa using hlt2)]; simpa using hv
        rw [Array.getD_eq_getD_getElem?, e]; rfl
      show VR F ι w ((some x).getD .dead) (Array.getD _ t undef)
      rw [this]
      exact hargs.2 t x v hx hv
  · simp [hargs.1]
    show args.length + (fn.ntmps - args.length) = fn.ntmps
    omega
theorem cxB (τ : Sto) (F : Nat → Prop) (ι : Loc) (w : World) (nt : Nat) : ∀ b, (cxOf F ι τ w nt).B0 b → b < τ.length := fun b hb => at_lt (fun e => by rw [show (cxOf F ι τ w nt).B0 b = ((at_ τ b).isBox = true) from rfl, e] at hb; cases hb)
/-- The closure, by its text. -/
theorem fn_introR {f id d0 d1 : Nat} {fn : Func} {ops : Array Oper} {o0 o1 : Oper} {rest : Code} {args : List AV} {τ : Sto} {rv : Option Value} {Post : Sto → Prop} (hf : P.funcs[f]? = some fn) (hb : fn.body = some (.seq (.region id ops false) rest)) (hn : (fn.name == "runtime.NumGoroutine") = false) (ha : Nat.ble args.length fn.ntmps = true)
    (ho : ops = #[o0, o1]) (h0 : o0.op = .call { callee := .builtin .recover, args := #[], argTypes := #[] }) (g0 : o0.guard = none) (e0 : o0.dst = some d0) (h1 : o1.op = .assign (.tmp d0)) (g1 : o1.guard = none) (e1 : o1.dst = some d1)
    (hd : (Nat.blt d0 fn.ntmps && Nat.blt d1 fn.ntmps && (rv.getD .nilIface).oneCell') = true)
    (h : awj P fn.ntmps τ.length rest (retJ P fn.results.toList τ.length (fun _ τ' => Post τ') fun _ _ => False) ((d1, .p (.raw (rv.getD .nilIface))) :: (d0, .p (.raw (rv.getD .nilIface))) :: enterF 0 args) τ) : FnR P f args τ rv Post := by
  refine ⟨by unfold callable; rw [hf]; simp [hb, hn], fun F ι w vs hargs hs hlt => callsD_of_wpS hf hb fun c₀ cs hu => ?_⟩
  simp only [Bool.and_eq_true] at hd
  have hst := enter_ok (Nat.le_of_ble_eq_true ha) hargs hs hlt
  generalize ({ tmps := vs.toArray ++ Array.replicate (fn.ntmps - vs.toArray.size) undef, defers := [] } : Act) = a0 at hst ⊢
  have hst2 := (hst.put hd.1.1 (x := .p (.raw (rv.getD .nilIface))) (.p _ _ (.raw _ hd.2))).put hd.1.2 (x := .p (.raw (rv.getD .nilIface))) (.p _ _ (.raw _ hd.2))
  have hw := awj_ok (cxB τ F ι w fn.ntmps) rest ⟨F, ι, hst2⟩ h
  refine wpS_seq (wpS_region ?_)
  have hev : ∀ v : Value, (a0.put (some d0) v).eval (.tmp d0) = v := fun v => by
    have hlt : d0 < a0.tmps.size := by rw [hst.nt]; exact blt_lt hd.1.1
    simp [Act.eval, Act.put, hlt]
  have hfin : ∀ u' : FrameMode, u' = modeR rv true → rest.wpS P (bodyPostS P fn c₀ cs fun e u' w' => u' = modeR rv true ∧ ∃ F' ι' rs τ' us, (e = .returned (resV us) ∧ Post τ') ∧ VRs F' ι' w' rs us ∧ SR F' ι' w' τ' ∧ Inv (cxOf F ι τ w 0) F' ι' τ' w' ∧ τ.length ≤ τ'.length) ((a0.put (some d0) (rv.getD .nilIface)).put (some d1) (rv.getD .nilIface)) ({ c₀ with mode := u' } :: cs) w := by
    intro u' hu'
    refine wpS_of_wp (Code.wp_mono ?_ hw)
    have hret : ∀ fr σ a' w', postJ P fn.results.toList τ.length (fun _ τ' => Post τ') fr σ → Good (cxOf F ι τ w fn.ntmps) fr σ a' w' →
        a'.defers = [] ∧ ∃ u'', ({ c₀ with mode := u' } :: cs : List Frame) = { c₀ with mode := u'' } :: cs ∧ ∃ v, (results fn a'.tmps).run P w' = .ok v w' ∧ u'' = modeR rv true ∧ ∃ F' ι' rs τ' us, (Ending.returned v = .returned (resV us) ∧ Post τ') ∧ VRs F' ι' w' rs us ∧ SR F' ι' w' τ' ∧ Inv (cxOf F ι τ w 0) F' ι' τ' w' ∧ τ.length ≤ τ'.length := by
      intro fr σ a' w' hk hg
      obtain ⟨us, hr, F', ι', rs, τ', hp, h1, h2, h3, h4⟩ := res_ok (cxB τ F ι w fn.ntmps) hg hk
      obtain ⟨_, _, hg⟩ := hg
      exact ⟨hg.df, u', rfl, _, hr, hu', F', ι', rs, τ', us, ⟨rfl, hp⟩, h1, h2, ⟨h3.os, h3.tape, h3.output, h3.size, h3.f0, h3.keep, h3.newF, h3.own, h3.fix, h3.lt, h3.bx, h3.len⟩, h4⟩
    intro e a' w' hq
    cases e with
    | normal => obtain ⟨fr, σ, hk, hg⟩ := hq; exact hret fr σ a' w' hk hg
    | ret => obtain ⟨fr, σ, hk, hg⟩ := hq; exact hret fr σ a' w' hk hg
    | exit id => obtain ⟨fr, σ, hk, hg⟩ := hq; exact hk.elim
    | goto l => exact hq.elim
    | panic ch => obtain ⟨v, fr, σ, rfl, ⟨τ', _, hp⟩, _⟩ := hq; exact hp.elim
    | outgrown => exact hq.elim
  subst ho
  have hr0 : ∀ w', (execOp a0.eval o0).run P w' = .ok .recover w' := fun w' => by
    simp only [execOp, h0, resolve, Sem.run_bind, Sem.run_pure, Result.andThen_ok, invoke, builtin]
  have hr1 : ∀ (v : Value) w', (execOp (a0.put (some d0) v).eval o1).run P w' = .ok (.value v) w' := fun v w' => by
    simp only [execOp, h1, hev, Sem.run_pure]
  have hw0 : ∀ y, Region.wanted o0 y = true := fun y => by simp [Region.wanted, g0]
  have hw1 : ∀ y, Region.wanted o1 y = true := fun y => by simp [Region.wanted, g1]
  show wpOpsS P #[o0, o1] _ [0, 1] a0 (c₀ :: cs) w
  cases rv with
  | none =>
    have hm : c₀.mode = .returning := hu
    have hc : ({ c₀ with mode := .returning } : Frame) = c₀ := by rw [← hm]
    have := hfin .returning rfl
    rw [hc] at this
    simp only [wpOpsS, List.getElem?_toArray, List.getElem?_cons_zero, List.getElem?_cons_succ, hw0, hw1, if_true, hr0, recoverD, hm, e0, hr1, Oper.upon_value, e1]
    exact this
  | some v =>
    have hm : c₀.mode = .panicking [{ v := v, recovered := false }] := hu
    have := hfin (.panicking [{ v := v, recovered := true }]) rfl
    simp only [wpOpsS, List.getElem?_toArray, List.getElem?_cons_zero, List.getElem?_cons_succ, hw0, hw1, if_true, hr0, recoverD, hm, e0, hr1, Oper.upon_value, e1]
    exact this
/-- A contract serves where less is asked: rows that are nil yet, values that are forgotten. -/
theorem FnR.weak {f : Nat} {args args' : List AV} {τ τ' : Sto} {rv : Option Value} {Post : Sto → Prop} (h : FnR P f args' τ' rv Post) (nils : List (TypeId × Nat)) (ha : okL args' args) (hs : okS τ' (τ ++ nilRows nils))
    (hb : (AV.low.lowL τ'.length args' && belowS τ'.length τ' && Nat.ble τ.length τ'.length && keepB τ τ' τ.length) = true) : FnR P f args τ rv Post := by
  refine ⟨h.1, fun F ι w vs hargs hsr hlt => ?_⟩
  simp only [Bool.and_eq_true] at hb
  obtain ⟨⟨⟨hb1, hb2⟩, hb3⟩, hb4⟩ := hb
  have hcx : ∀ b, (cxOf F ι τ w vs.length).B0 b → b < τ.length := fun b hb => at_lt (fun e => by rw [show (cxOf F ι τ w vs.length).B0 b = ((at_ τ b).isBox = true) from rfl, e] at hb; cases hb)
  have hst : St (cxOf F ι τ w vs.length) F ι (enterF 0 args) τ { tmps := vs.toArray, defers := [] } w := by
    refine ⟨fun t => ?_, hsr, ⟨rfl, rfl, rfl, Nat.le_refl _, fun r h => h, fun _ _ _ => rfl, fun r h _ => .inl h, fun b r β h1 h2 _ => ⟨b, β, h1, h2⟩, fun _ _ => rfl, hlt, fun _ h => h, fun _ _ h => h⟩, by simp [cxOf], rfl⟩
    rw [enterF_look]
    simp only [Nat.not_lt_zero, if_false, Nat.sub_zero]
    cases hx : args[t]? with
    | none => exact .dead _
    | some x =>
      have htl := (List.getElem?_eq_some_iff.mp hx).1
      obtain ⟨v, hv⟩ : ∃ v, vs[t]? = some v := ⟨_, List.getElem?_eq_getElem (by rw [hargs.1]; exact htl)⟩
      have : vs.toArray.getD t undef = v := by rw [Array.getD_eq_getD_getElem?]; simp [hv]
      show VR F ι w x (vs.toArray.getD t undef)
      rw [this]
      exact hargs.2 t x v hx hv
  have hlen : args'.length = args.length := (okL_get ha).1
  obtain ⟨F1, ι1, h1⟩ := weak_ok (s := (enterF 0 args', τ')) (nb := τ.length) ⟨F, ι, hst⟩ hcx (.of0 ⟨nils, okFr_enter ha 0 _ (fun j x hx => by rw [Nat.zero_add, enterF_look]; simp [hx]), hs, by
    simp only [Bool.and_eq_true]; exact ⟨⟨⟨belowF_enter 0 hb1, hb2⟩, hb3⟩, hb4⟩⟩)
  have hi1 := h1.inv
  have hargs1 : VRs F1 ι1 w args' vs := by
    refine ⟨by rw [hlen]; exact hargs.1, fun j x v hx hv => ?_⟩
    have := h1.fr j
    simp only [enterF_look, Nat.not_lt_zero, if_false, Nat.sub_zero, hx, Option.getD_some] at this
    have e : vs.toArray.getD j undef = v := by rw [Array.getD_eq_getD_getElem?]; simp [hv]
    have this' : VR F1 ι1 w x (vs.toArray.getD j undef) := this
    rwa [e] at this'
  refine (h.2 F1 ι1 w vs hargs1 h1.sr hi1.lt).mono ?_
  rintro e u' w' ⟨hu, F', ι', rs, τ2, us, he, hr, hs2, hi, hl⟩
  have hO : ∀ r, r < w.heap.size → (cxOf F1 ι1 τ' w 0).O r → (cxOf F ι τ w 0).O r := fun r hr ⟨b, β, h2, h3⟩ => hi1.own b r β h2 h3 hr
  refine ⟨hu, F', ι', rs, τ2, us, he, hr, hs2, ⟨hi.os, hi.tape, hi.output, hi.size, fun r hr => hi.f0 r (hi1.f0 r hr), fun r hr hn => hi.keep r hr (fun ho => hn (hO r hr ho)), fun r hr hl => ?_, fun b r β h2 h3 hl => hO r hl (hi.own b r β h2 h3 hl), fun b hb => ?_, hi.lt, fun b hb => hi.bx b (hi1.bx b hb), hi.len⟩, Nat.le_trans (Nat.le_of_ble_eq_true hb3) hl⟩
  · rcases hi.newF r hr hl with h2 | h2
    · exact hi1.newF r h2 hl
    · exact .inr (hO r hl h2)
  · exact (hi.fix b (hi1.bx b hb)).trans (hi1.fix b hb)
/-- Captured pointers: to boxes. -/
def capB (σ : Sto) : List AV → Bool
  | [] => true
  | .ptr b _ :: l => (at_ σ b).isBox && capB σ l
  | _ => false
def endD (P : Program) (rs : List ResultVar) (nb : Nat) (Post : List AV → Sto → Prop) (f : Nat) (caps : List AV) (rv : Option Value) (fr : Fr) (σ : Sto) : Prop :=
  ∃ m, (nodupN m && liveM σ m) = true ∧ ∃ PostR : Sto → Prop, FnR P f (AV.ren.renL (gIn m) caps) (selS m σ m) rv PostR ∧ ∀ τ', m.length ≤ τ'.length → PostR τ' → postJ P rs nb Post (renF (gKill m σ) fr) (merge m σ τ')
def retD (P : Program) (rs : List ResultVar) (nb : Nat) (Post : List AV → Sto → Prop) (f : Nat) (caps : List AV) : AX → Fr → Sto → Prop
  | .exit _, _, _ => False
  | .pan v, fr, σ => endD P rs nb Post f caps (some v) fr σ
  | _, fr, σ => endD P rs nb Post f caps none fr σ
/-- defer func() {..}() -/
def dfrOf (ops : List Oper) : Option (Nat × List Operand × Nat) := match ops with
  | [o0, o1] => match o0.op, o0.dst, o0.guard, o1.op, o1.dst, o1.guard with
    | .makeFunc (.func f) first caps, some t, none, .defer c, none, none => match first.toList, c.callee, c.args.toList with
      | [], .value (.tmp t'), [] => match Nat.beq t t' with
        | true => some (f, caps.toList, t)
        | false => none
      | _, _, _ => none
    | _, _, _, _, _, _ => none
  | _ => none
def awd (P : Program) (nt nb : Nat) (rs : List ResultVar) (Post : List AV → Sto → Prop) : Code → Fr → Sto → Prop
  | .seq x y, fr, σ => match x with
    | .region _ ops false => match dfrOf ops.toList with
      | some (f, caps, t) => (capB σ (evs fr caps) && Nat.blt t nt && callable P f) = true ∧ awj P nt σ.length y (retD P rs nb Post f (evs fr caps)) ((t, .dead) :: fr) σ
      | none => awj P nt nb x (seqX (retJ P rs nb Post fun _ _ => False) (awd P nt nb rs Post y)) fr σ
    | _ => awj P nt nb x (seqX (retJ P rs nb Post fun _ _ => False) (awd P nt nb rs Post y)) fr σ
  | c, fr, σ => awj P nt nb c (retJ P rs nb Post fun _ _ => False) fr σ
theorem Inv.trans {cx : Cx} {F' : Nat → Prop} {ι' : Loc} {σ' : Sto} {nt : Nat} {ds : List Deferred} (h : Inv cx F ι σ w) (h' : Inv ⟨ownOf ι σ, F, w, ι, fun b => (at_ σ b).isBox = true, nt, ds⟩ F' ι' σ' w') : Inv cx F' ι' σ' w' := by
  refine ⟨h'.os.trans h.os, h'.tape.trans h.tape, h'.output.trans h.output, Nat.le_trans h.size h'.size, fun r hr => h'.f0 r (h.f0 r hr), fun r hr hn => ?_, fun r hr hl => ?_, fun b r β h1 h2 hl => ?_, fun b hb => ?_, h'.lt, fun b hb => h'.bx b (h.bx b hb), fun r N hr => h'.len r N (h.len r N hr)⟩
  · exact (h'.keep r (Nat.lt_of_lt_of_le hr h.size) (fun ⟨b, β, h1, h2⟩ => hn (h.own b r β h1 h2 hr))).trans (h.keep r hr hn)
  · rcases h'.newF r hr (Nat.lt_of_lt_of_le hl h.size) with h1 | ⟨b, β, h1, h2⟩
    · exact h.newF r h1 hl
    · exact .inr (h.own b r β h1 h2 hl)
  · obtain ⟨b', β', h3, h4⟩ := h'.own b r β h1 h2 (Nat.lt_of_lt_of_le hl h.size)
    exact h.own b' r β' h3 h4 hl
  · exact (h'.fix b (h.bx b hb)).trans (h.fix b hb)
theorem capB_ok {caps : List AV} {vs : List Value} {F' : Nat → Prop} {ι' : Loc} (hc : capB σ caps = true) (hv : VRs F ι w caps vs) (hι : ∀ b, (at_ σ b).isBox = true → ι' b = ι b) : VRs F' ι' w' caps vs := by
  induction caps generalizing vs with
  | nil => exact ⟨hv.1, fun j x v hx => by simp at hx⟩
  | cons c caps ih =>
    match vs, hv.1 with
    | v :: vs, _ =>
      cases c with
      | ptr b off =>
        simp only [capB, Bool.and_eq_true] at hc
        have h0 := hv.2 0 _ v rfl rfl
        have h1 := ih (vs := vs) hc.2 ⟨by simpa using hv.1, fun j x v hx hv' => hv.2 (j + 1) x v (by simpa using hx) (by simpa using hv')⟩
        refine ⟨hv.1, fun j x u hx hu => ?_⟩
        cases j with
        | zero =>
          simp at hx hu; subst hx; subst hu
          cases h0 with
          | ptr _ _ r hr => exact .ptr b off r ((hι b hc.1).trans hr)
        | succ j => exact h1.2 j x u (by simpa using hx) (by simpa using hu)
      | _ => simp [capB] at hc
/-- The end of a call whose closure is still to run. -/
theorem endD_ok {cx0 : Cx} {f nb : Nat} {fn : Func} {caps : List AV} {cvs : List Value} {rv : Option Value} {Post : List AV → Sto → Prop} {R : Ending → World → Prop} (hB : ∀ b, cx0.B0 b → b < nb) (hst : St cx F ι fr σ a w) (hx : VRs F ι w caps cvs)
    (hconv : ∀ F' ι' σ' w', Inv cx F' ι' σ' w' → Inv cx0 F' ι' σ' w') (hnt : cx0.nt = cx.nt) (hdf : cx0.df = cx.df)
    (hk : endD P fn.results.toList nb Post f caps rv fr σ)
    (hR : ∀ us F' ι' rs τ' w', Post rs τ' → VRs F' ι' w' rs us → SR F' ι' w' τ' → Inv cx0 F' ι' τ' w' → nb ≤ τ'.length → R (.returned (resV us)) w') :
    Leaves P fn a.tmps R [{ target := .fn (.func f) cvs.toArray, args := #[] }] (modeR rv false) w := by
  obtain ⟨m, hm, PostR, hf, hk⟩ := hk
  simp only [Bool.and_eq_true] at hm
  have hcall : ∃ fn', P.funcs[f]? = some fn' ∧ (fn'.name == "runtime.NumGoroutine") = false ∧ fn'.body.isSome = true := by
    have := hf.1
    unfold callable at this
    split at this
    · rename_i fn' hfn
      simp only [Bool.and_eq_true, Bool.not_eq_true'] at this
      exact ⟨fn', hfn, this.2, this.1⟩
    · cases this
  obtain ⟨fn', hfn, hnm, hbd⟩ := hcall
  refine leaves_cons (by cases rv <;> simp [modeR]) (f := f) (args := cvs.toArray) ?_ ?_
  · have hb : ¬ fn'.body = none := by cases h : fn'.body <;> simp_all
    have hnm' : ¬ fn'.name = "runtime.NumGoroutine" := by simpa using hnm
    simp [invoke, callFunc, hfn, hnm', hb]
  · have := callRun_ok (wr := none) (R := fun e us rs τ' => e = .returned (resV us) ∧ PostR τ') (Res := fun e w' => match e with
      | .returned _ => ∀ u', u' = modeR rv true → Leaves P fn a.tmps R [] (settle u') w'
      | _ => False) (Run := fun R => CallsD P f cvs.toArray (modeR rv false) w fun e u' w' => u' = modeR rv true ∧ R e w') (fun R R' hh hr => hr.mono fun e u' w' ⟨h1, h2⟩ => ⟨h1, hh e w' h2⟩) hst hx hm.1 hm.2 (by
        have : ∀ l, subM σ none l = true := fun l => by induction l with | nil => rfl | cons b l ih => simp [subM, ih]
        exact this m) (fun ιc h1 h2 h3 => hf.2 _ ιc w cvs h1 h2 h3) ?_
    · refine this.mono ?_
      rintro e u' w' ⟨hu, hr⟩
      cases e with
      | returned v => exact hr u' hu
      | panicked ch => exact hr.elim
      | outgrown => exact hr.elim
    · rintro e w' us rs τ' F' ιn hl ⟨rfl, hp⟩ hs ht hrr u' rfl
      have hset : settle (modeR rv true) = .returning := by cases rv <;> simp [modeR, settle]
      rw [hset]
      obtain ⟨us', hr, F2, ι2, rs2, τ2, hp2, h1, h2, h3, h4⟩ := res_ok (cx := cx0) hB ⟨F', ιn, hs.fr, hs.sr, hconv _ _ _ _ hs.inv, hs.nt.trans hnt.symm, hs.df.trans hdf.symm⟩ (hk τ' hl hp)
      exact ⟨_, hr, hR us' F2 ι2 rs2 τ2 w' hp2 h1 h2 h3 h4⟩
theorem dfrOf_some {l : List Oper} {f t : Nat} {caps : List Operand} (h : dfrOf l = some (f, caps, t)) : ∃ o0 o1 ca c, l = [o0, o1] ∧ o0.op = .makeFunc (.func f) #[] ca ∧ ca.toList = caps ∧ o0.dst = some t ∧ o0.guard = none ∧ o1.op = .defer c ∧ c.callee = .value (.tmp t) ∧ c.args = #[] ∧ o1.dst = none ∧ o1.guard = none := by
  unfold dfrOf at h
  split at h
  · rename_i o0 o1
    split at h
    · rename_i g first ca t0 c h1 h2 h3 h4 h5 h6
      split at h
      · rename_i t' e1 e2 e3
        split at h
        · rename_i ht
          have ht := Nat.eq_of_beq_eq_true ht
          cases h
          subst ht
          have e1' : first = #[] := by rw [← Array.toArray_toList (xs := first), e1]
          have e3' : c.args = #[] := by rw [← Array.toArray_toList (xs := c.args), e3]
          subst e1'
          exact ⟨o0, o1, ca, c, rfl, h1, rfl, h2, h3, h4, e2, e3', h5, h6⟩
        · cases h
      · cases h
    · cases h
  · cases h
theorem awd_ok {nb : Nat} {fn : Func} {Post : List AV → Sto → Prop} {R : Ending → World → Prop} (hB : ∀ b, cx.B0 b → b < nb) (hdf : cx.df = [])
    (hR : ∀ us F' ι' rs τ' w', Post rs τ' → VRs F' ι' w' rs us → SR F' ι' w' τ' → Inv cx F' ι' τ' w' → nb ≤ τ'.length → R (.returned (resV us)) w') :
    ∀ (c : Code) {fr : Fr} {σ : Sto} {a : Act} {w : World}, Good cx fr σ a w → awd P cx.nt nb fn.results.toList Post c fr σ → c.wp P (bodyPostD P fn R) a w := by
  have hend : ∀ fr σ a w, postJ P fn.results.toList nb Post fr σ → Good cx fr σ a w → Leaves P fn a.tmps R a.defers .returning w := by
    intro fr σ a w hk hg
    obtain ⟨us, hr, F', ι', rs, τ', hp, h1, h2, h3, h4⟩ := res_ok hB hg hk
    obtain ⟨_, _, hg⟩ := hg
    rw [hg.df, hdf]
    exact ⟨_, hr, hR us F' ι' rs τ' w hp h1 h2 h3 h4⟩
  have hplain : ∀ (c : Code) {Q : Act → World → Prop} {K : Fr → Sto → Prop} {fr σ a w}, Good cx fr σ a w → awj P cx.nt nb c (seqX (retJ P fn.results.toList nb Post fun _ _ => False) K) fr σ → (∀ fr σ a w, K fr σ → Good cx fr σ a w → Q a w) → c.wp P (Exit.then Q (bodyPostD P fn R)) a w := by
    intro c Q K fr σ a w hg hk hQ
    refine Code.wp_mono ?_ (awj_ok hB c hg hk)
    intro e a' w' hq
    cases e with
    | normal => obtain ⟨fr, σ, hk, hg⟩ := hq; exact hQ fr σ a' w' hk hg
    | ret => obtain ⟨fr, σ, hk, hg⟩ := hq; exact hend fr σ a' w' hk hg
    | exit id => obtain ⟨fr, σ, hk, hg⟩ := hq; exact hk.elim
    | goto l => exact hq.elim
    | panic ch => obtain ⟨v, fr, σ, rfl, ⟨τ', _, hp⟩, _⟩ := hq; exact hp.elim
    | outgrown => exact hq.elim
  have hlast : ∀ (c : Code) {fr σ a w}, Good cx fr σ a w → awj P cx.nt nb c (retJ P fn.results.toList nb Post fun _ _ => False) fr σ → c.wp P (bodyPostD P fn R) a w := by
    intro c fr σ a w hg hk
    refine Code.wp_mono ?_ (awj_ok hB c hg hk)
    intro e a' w' hq
    cases e with
    | normal => obtain ⟨fr, σ, hk, hg⟩ := hq; exact hend fr σ a' w' hk hg
    | ret => obtain ⟨fr, σ, hk, hg⟩ := hq; exact hend fr σ a' w' hk hg
    | exit id => obtain ⟨fr, σ, hk, hg⟩ := hq; exact hk.elim
    | goto l => exact hq.elim
    | panic ch => obtain ⟨v, fr, σ, rfl, ⟨τ', _, hp⟩, _⟩ := hq; exact hp.elim
    | outgrown => exact hq.elim
  intro c
  induction c with
  | seq x y _ ihy =>
    intro fr σ a w hg hk
    have hgo : awj P cx.nt nb x (seqX (retJ P fn.results.toList nb Post fun _ _ => False) (awd P cx.nt nb fn.results.toList Post y)) fr σ → (Code.seq x y).wp P (bodyPostD P fn R) a w := fun hk => wp_seq (hplain x hg hk fun fr σ a w hk hg => ihy hg hk)
    unfold awd at hk
    split at hk
    · rename_i id ops
      split at hk
      · rename_i f caps t hd
        obtain ⟨o0, o1, ca, c, hl, h1, hca, h2, h3, h4, h5, h6, h7, h8⟩ := dfrOf_some hd
        obtain ⟨hc, hk⟩ := hk
        simp only [Bool.and_eq_true] at hc
        obtain ⟨F, ι, hst⟩ := hg
        have hvs := evs_ok hst caps
        have hlt : t < a.tmps.size := by rw [hst.nt]; exact blt_lt hc.1.2
        refine wp_seq (wp_region_list ?_)
        rw [hl]
        refine wpList_step fun K hK => ?_
        rw [if_pos (by simp [Region.wanted, h3])]
        have hr0 : (execOp a.eval o0).run P w = .ok (.value (.func (.func f) #[] (caps.map a.eval).toArray)) w := by
          have e : (caps.map a.eval).toArray = ca.map a.eval := by apply Array.toList_inj.mp; simp [hca]
          simp [execOp, h1, Instr.makeFunc, e]
        unfold Oper.wp
        rw [hr0, Oper.upon_value, h2]
        refine hK _ _ (wpList_step fun K2 hK2 => ?_)
        rw [if_pos (by simp [Region.wanted, h8])]
        have hev : (a.put (some t) (.func (.func f) #[] (caps.map a.eval).toArray)).eval (.tmp t) = .func (.func f) #[] (caps.map a.eval).toArray := by simp [Act.eval, Act.put, hlt]
        have hr1 : (execOp (a.put (some t) (.func (.func f) #[] (caps.map a.eval).toArray)).eval o1).run P w = .ok (.defer { target := .fn (.func f) (caps.map a.eval).toArray, args := #[] }) w := by
          simp [execOp, h4, resolve, h5, h6, hev, Deferred.ofValue]
        unfold Oper.wp
        rw [hr1, Oper.upon_defer, h7]
        refine hK2 _ _ (wpList_nil ?_)
        let cxS : Cx := ⟨ownOf ι σ, F, w, ι, fun b => (at_ σ b).isBox = true, cx.nt, [{ target := .fn (.func f) (caps.map a.eval).toArray, args := #[] }]⟩
        have hi : Inv cxS F ι σ w := ⟨rfl, rfl, rfl, Nat.le_refl _, fun r h => h, fun _ _ _ => rfl, fun r h _ => .inl h, fun b r β h1 h2 _ => ⟨b, β, h1, h2⟩, fun _ _ => rfl, hst.inv.lt, fun _ h => h, fun _ _ h => h⟩
        have hdead := hst.dead hc.1.2 (.func (.func f) #[] (caps.map a.eval).toArray)
        have hS : St cxS F ι ((t, .dead) :: fr) σ ({ a.put (some t) (.func (.func f) #[] (caps.map a.eval).toArray) with defers := { target := .fn (.func f) (caps.map a.eval).toArray, args := #[] } :: (a.put (some t) (.func (.func f) #[] (caps.map a.eval).toArray)).defers }.put none undef) w := by
          refine ⟨hdead.fr, hdead.sr, hi, hdead.nt, ?_⟩
          show _ :: (a.put (some t) _).defers = [_]
          rw [hdead.df, hdf]
        have hBS : ∀ b, cxS.B0 b → b < σ.length := fun b hb => at_lt (fun e => by rw [show cxS.B0 b = ((at_ σ b).isBox = true) from rfl, e] at hb; cases hb)
        refine Code.wp_mono ?_ (awj_ok (cx := cxS) hBS y ⟨F, ι, hS⟩ hk)
        have hinv := hst.inv
        have hfin : ∀ rv fr' σ' a' w', endD P fn.results.toList nb Post f (evs fr caps) rv fr' σ' → Good cxS fr' σ' a' w' → Leaves P fn a'.tmps R a'.defers (modeR rv false) w' := by
          rintro rv fr' σ' a' w' hk ⟨F', ι', hg⟩
          rw [hg.df]
          exact endD_ok (cx0 := { cx with df := cxS.df }) hB hg (capB_ok hc.1.1 hvs fun b hb => hg.inv.fix b hb)
            (fun F' ι' σ' w' h' => by
              have := hinv.trans h'
              exact ⟨this.os, this.tape, this.output, this.size, this.f0, this.keep, this.newF, this.own, this.fix, this.lt, this.bx, this.len⟩) rfl rfl hk
            (fun us F' ι' rs τ' w' h1 h2 h3 h4 h5 => hR us F' ι' rs τ' w' h1 h2 h3 ⟨h4.os, h4.tape, h4.output, h4.size, h4.f0, h4.keep, h4.newF, h4.own, h4.fix, h4.lt, h4.bx, h4.len⟩ h5)
        intro e a' w' hq
        cases e with
        | normal => obtain ⟨fr, σ, hk, hg⟩ := hq; exact hfin none fr σ a' w' hk hg
        | ret => obtain ⟨fr, σ, hk, hg⟩ := hq; exact hfin none fr σ a' w' hk hg
        | exit id => obtain ⟨fr, σ, hk, hg⟩ := hq; exact hk.elim
        | goto l => exact hq.elim
        | panic ch => obtain ⟨v, fr, σ, rfl, hk, hg⟩ := hq; exact hfin (some v) fr σ a' w' hk hg
        | outgrown => exact hq.elim
      · exact hgo hk
    · exact hgo hk
  | _ => intro fr σ a w hg hk; exact hlast _ hg hk
/-- A function with a deferred closure, by its text. -/
theorem fn_introD {f : Nat} {fn : Func} {c : Code} {args : List AV} {τ : Sto} {Post : List AV → Sto → Prop} (hf : P.funcs[f]? = some fn) (hb : fn.body = some c) (hn : (fn.name == "runtime.NumGoroutine") = false) (ha : Nat.ble args.length fn.ntmps = true)
    (h : awd P fn.ntmps τ.length fn.results.toList Post c (enterF 0 args) τ) : Fn P f args τ Post := by
  refine ⟨by unfold callable; rw [hf]; simp [hb, hn], fun F ι w vs hargs hs hlt => ?_⟩
  refine calls_of_wp_defers hf hb ?_
  have hst := enter_ok (Nat.le_of_ble_eq_true ha) hargs hs hlt
  refine awd_ok (cx := cxOf F ι τ w fn.ntmps) (cxB τ F ι w fn.ntmps) rfl (fun us F' ι' rs τ' w' h1 h2 h3 h4 h5 => ⟨F', ι', rs, τ', us, rfl, h1, h2, h3, ⟨h4.os, h4.tape, h4.output, h4.size, h4.f0, h4.keep, h4.newF, h4.own, h4.fix, h4.lt, h4.bx, h4.len⟩, h5⟩) c ⟨F, ι, hst⟩ h
end
/-! ### Outcomes of printed models -/
inductive Ou (α : Type) where
  | ok (x : α)
  | pan (e : Int)
def Ou.el {α β : Type} (o : Ou α) (k : α → β) (p : Int → β) : β := match o with
  | .ok x => k x
  | .pan e => p e
theorem ouk {α β : Type} {x : α} {k : α → β} {p : Int → β} {r : β} (h : Ou.el (.ok x) k p = r) : k x = r := h
theorem oup {α β : Type} {e : Int} {k : α → β} {p : Int → β} {r : β} (h : Ou.el (.pan e) k p = r) : p e = r := h
end Go.Proofs.Sy
