/- Functions that may panic. -/
import Derived.Test.YtnnalcglfgapbaaDoorSyL
set_option linter.unusedVariables false
set_option linter.unusedSimpArgs false
namespace Go.Proofs.Sy
open Go Go.RowKit
def retE (P : Program) (rs : List ResultVar) (nb : Nat) (Post : List AV → Sto → Prop) (Pan : Value → Sto → Prop) : AX → Fr → Sto → Prop
  | .exit _, _, _ => False
  | .pan v, fr, σ => ∃ τ', (okS τ' σ ∧ (belowS τ'.length τ' && Nat.ble nb τ'.length && keepB σ τ' nb) = true) ∧ Pan v τ'
  | _, fr, σ => postK P rs nb Post fr σ
section
variable {P : Program} {cx : Cx} {F : Nat → Prop} {ι : Loc} {fr : Fr} {σ : Sto} {a : Act} {w w' : World}
/-- A function that may panic, by its text. -/
theorem fn_introE {f : Nat} {fn : Func} {c : Code} {args : List AV} {τ : Sto} {Post : List AV → Sto → Prop} {Pan : Value → Sto → Prop} (hf : P.funcs[f]? = some fn) (hb : fn.body = some c) (hn : (fn.name == "runtime.NumGoroutine") = false) (ha : Nat.ble args.length fn.ntmps = true)
    (h : awp P fn.ntmps τ.length c (retE P fn.results.toList τ.length Post Pan) (enterF 0 args) τ) : FnE P f args τ Post Pan := by
  refine ⟨by unfold callable; rw [hf]; simp [hb, hn], fun F ι w vs hargs hs hlt => ?_⟩
  have ha' : args.length ≤ fn.ntmps := Nat.le_of_ble_eq_true ha
  refine calls_of_wp hf hb ?_
  have hcx : ∀ b, (cxOf F ι τ w fn.ntmps).B0 b → b < τ.length := fun b hb => at_lt (fun e => by rw [show (cxOf F ι τ w fn.ntmps).B0 b = ((at_ τ b).isBox = true) from rfl, e] at hb; cases hb)
  have hgood : Good (cxOf F ι τ w fn.ntmps) (enterF 0 args) τ { tmps := vs.toArray ++ Array.replicate (fn.ntmps - vs.toArray.size) undef, defers := [] } w := by
    refine ⟨F, ι, ⟨fun t => ?_, hs, ⟨rfl, rfl, rfl, Nat.le_refl _, fun r h => h, fun _ _ _ => rfl, fun r h _ => .inl h, fun b r β h1 h2 _ => ⟨b, β, h1, h2⟩, fun _ _ => rfl, hlt, fun _ h => h, fun _ _ h => h⟩, ?_, rfl⟩⟩
    · rw [enterF_look]
      simp only [Nat.not_lt_zero, if_false, Nat.sub_zero]
      cases hx : args[t]? with
      | none => exact .dead _
      | some x =>
        have htl := (List.getElem?_eq_some_iff.mp hx).1
        obtain ⟨v, hv⟩ : ∃ v, vs[t]? = some v := ⟨_, List.getElem?_eq_getElem (by rw [hargs.1]; exact htl)⟩
        have : (vs.toArray ++ Array.replicate (fn.ntmps - vs.toArray.size) undef).getD t undef = v := by
          have hlt2 : t < vs.length := by rw [hargs.1]; exact htl
          have e : (vs.toArray ++ Array.replicate (fn.ntmps - vs.toArray.size) undef)[t]? = some v := by
            rw [Array.getElem?_append_left (by simpa using hlt2)]; simpa using hv
          rw [Array.getD_eq_getD_getElem?, e]; rfl
        show VR F ι w ((some x).getD .dead) (Array.getD _ t undef)
        rw [this]
        exact hargs.2 t x v hx hv
    · simp [hargs.1]
      show args.length + (fn.ntmps - args.length) = fn.ntmps
      omega
  refine Code.wp_mono ?_ (awp_ok hcx c hgood h)
  have hret : ∀ fr σ a' w', postK P fn.results.toList τ.length Post fr σ → Good (cxOf F ι τ w fn.ntmps) fr σ a' w' →
      a'.defers = [] ∧ ∃ v, (results fn a'.tmps).run P w' = .ok v w' ∧ ∃ F' ι' rs τ' us, ((Ending.returned v = .returned (resV us) ∧ Post rs τ') ∨ (us = [] ∧ rs = [] ∧ ∃ v', Ending.returned v = .panicked [{ v := v', recovered := false }] ∧ Pan v' τ')) ∧ VRs F' ι' w' rs us ∧ SR F' ι' w' τ' ∧ Inv (cxOf F ι τ w 0) F' ι' τ' w' ∧ τ.length ≤ τ'.length := by
    rintro fr σ a' w' hk ⟨F1, ι1, hst⟩
    obtain ⟨F2, σ2, l, us, ⟨τ', ⟨hok, hbel⟩, hpost⟩, hF2, h2, hl, hr⟩ := resK_ok hst hk
    simp only [Bool.and_eq_true] at hbel
    obtain ⟨⟨⟨hb1, hb2⟩, hb3⟩, hb4⟩ := hbel
    refine ⟨h2.df, _, run_results hr, ?_⟩
    -- the results as a frame of their own
    have hfr : St (cxOf F ι τ w us.length) F2 ι1 (enterF 0 l) σ2 { tmps := us.toArray, defers := [] } w' := by
      refine ⟨fun t => ?_, h2.sr, ⟨h2.inv.os, h2.inv.tape, h2.inv.output, h2.inv.size, h2.inv.f0, h2.inv.keep, h2.inv.newF, h2.inv.own, h2.inv.fix, h2.inv.lt, h2.inv.bx, h2.inv.len⟩, by simp [cxOf], rfl⟩
      rw [enterF_look]
      simp only [Nat.not_lt_zero, if_false, Nat.sub_zero]
      cases hx : l[t]? with
      | none => exact .dead _
      | some x =>
        have htl := (List.getElem?_eq_some_iff.mp hx).1
        obtain ⟨v, hv⟩ : ∃ v, us[t]? = some v := ⟨_, List.getElem?_eq_getElem (by rw [hl.1]; exact htl)⟩
        have : us.toArray.getD t undef = v := by rw [Array.getD_eq_getD_getElem?]; simp [hv]
        show VR F2 ι1 w' ((some x).getD .dead) (Array.getD _ t undef)
        rw [this]
        exact hl.2 t x v hx hv
    have hokF : okFr (enterF 0 l) (enterF 0 l) := by
      have : ∀ (l : List AV) (s : Nat) (fr : Fr), (∀ j x, l[j]? = some x → look (s + j) fr = x) → okFr fr (enterF s l) := by
        intro l
        induction l with
        | nil => intro s fr _; trivial
        | cons x l ih =>
          intro s fr hh
          refine ⟨?_, ih (s + 1) fr (fun j y hy => by have := hh (j + 1) y (by simpa using hy); rwa [show s + (j + 1) = s + 1 + j by omega] at this)⟩
          have := hh 0 x rfl
          rw [Nat.add_zero] at this
          rw [this]
          cases x <;> first | trivial | rfl
      refine this l 0 _ fun j x hx => ?_
      rw [Nat.zero_add, enterF_look]; simp [hx]
    obtain ⟨F3, ι3, h3⟩ := weak_ok (s := (enterF 0 l, τ')) ⟨F2, ι1, hfr⟩ hcx (.of0 ⟨[], hokF, by simpa [nilRows] using hok, by simp only [Bool.and_eq_true]; exact ⟨⟨⟨hb1, hb2⟩, hb3⟩, hb4⟩⟩)
    refine ⟨F3, ι3, l, τ', us, .inl ⟨rfl, hpost⟩, ⟨hl.1, fun j x v hx hv => ?_⟩, h3.sr, ⟨h3.inv.os, h3.inv.tape, h3.inv.output, h3.inv.size, h3.inv.f0, h3.inv.keep, h3.inv.newF, h3.inv.own, h3.inv.fix, h3.inv.lt, h3.inv.bx, h3.inv.len⟩, Nat.le_of_ble_eq_true hb3⟩
    have := h3.fr j
    rw [enterF_look] at this
    simp only [Nat.not_lt_zero, if_false, Nat.sub_zero, hx, Option.getD_some] at this
    have e : us.toArray.getD j undef = v := by rw [Array.getD_eq_getD_getElem?]; simp [hv]
    have this' : VR F3 ι3 w' x (us.toArray.getD j undef) := this
    rwa [e] at this'
  intro e a' w' hq
  cases e with
  | normal => obtain ⟨fr, σ, hk, hg⟩ := hq; exact hret fr σ a' w' hk hg
  | ret => obtain ⟨fr, σ, hk, hg⟩ := hq; exact hret fr σ a' w' hk hg
  | exit id => obtain ⟨fr, σ, hk, hg⟩ := hq; exact hk.elim
  | goto l => exact hq.elim
  | panic ch =>
    obtain ⟨v, fr, σ, rfl, ⟨τ', ⟨hok, hbel⟩, hpan⟩, F1, ι1, hst⟩ := hq
    simp only [Bool.and_eq_true] at hbel
    obtain ⟨⟨hb2, hb3⟩, hb4⟩ := hbel
    have hfr : St (cxOf F ι τ w fn.ntmps) F1 ι1 [] σ a' w' := hst.noFr
    obtain ⟨F3, ι3, h3⟩ := weak_ok (s := ([], τ')) ⟨F1, ι1, hfr⟩ hcx (.of0 ⟨[], trivial, by simpa [nilRows] using hok, by simp only [Bool.and_eq_true]; exact ⟨⟨⟨rfl, hb2⟩, hb3⟩, hb4⟩⟩)
    exact ⟨hst.df, F3, ι3, [], τ', [], .inr ⟨rfl, rfl, v, rfl, hpan⟩, ⟨rfl, fun j x v hx => by simp at hx⟩, h3.sr, ⟨h3.inv.os, h3.inv.tape, h3.inv.output, h3.inv.size, h3.inv.f0, h3.inv.keep, h3.inv.newF, h3.inv.own, h3.inv.fix, h3.inv.lt, h3.inv.bx, h3.inv.len⟩, Nat.le_of_ble_eq_true hb3⟩
  | outgrown => exact hq.elim

/-- One that doesn't panic. -/
theorem Fn.toE {f : Nat} {args : List AV} {τ : Sto} {Post : List AV → Sto → Prop} {Pan : Value → Sto → Prop} (h : Fn P f args τ Post) : FnE P f args τ Post Pan :=
  ⟨h.1, fun F ι w vs a b c => (h.2 F ι w vs a b c).mono fun e w' ⟨F', ι', rs, τ', us, he, hp, r⟩ => ⟨F', ι', rs, τ', us, .inl ⟨he, hp⟩, r⟩⟩
theorem FnE.mono {f : Nat} {args : List AV} {τ : Sto} {Post Post' : List AV → Sto → Prop} {Pan Pan' : Value → Sto → Prop} (h : FnE P f args τ Post Pan) (hp : ∀ rs τ', Post rs τ' → Post' rs τ') (hq : ∀ v τ', Pan v τ' → Pan' v τ') : FnE P f args τ Post' Pan' :=
  ⟨h.1, fun F ι w vs a b c => (h.2 F ι w vs a b c).mono fun e w' ⟨F', ι', rs, τ', us, hh, r⟩ => ⟨F', ι', rs, τ', us, hh.elim (fun ⟨x, y⟩ => .inl ⟨x, hp _ _ y⟩) (fun ⟨x, y, v, z, u⟩ => .inr ⟨x, y, v, z, hq _ _ u⟩), r⟩⟩
end
end Go.Proofs.Sy
