/- Code with joins, and words for printed walks. -/
import Derived.Test.YtnnalcglfgapbaaDoorSyQ
set_option linter.unusedVariables false
set_option linter.unusedSimpArgs false
namespace Go.Proofs.Sy
open Go Go.RowKit
def awj (P : Program) (nt nb : Nat) : Code → (AX → Fr → Sto → Prop) → Fr → Sto → Prop
  | .skip, K, fr, σ => K .normal fr σ
  | .region _ ops d, K, fr, σ => match d with
    | false => aops P nt ops.toList (fun v => K (.pan v)) ops.toList (K .normal) fr σ
    | true => drawn P nt ops (fun v => K (.pan v)) (K .normal) fr σ
  | .seq x y, K, fr, σ => awj P nt nb x (seqX K (awj P nt nb y K)) fr σ ∨
      ∃ (X : Type) (S : X → Fr × Sto) (J : X → Prop), awj P nt nb x (seqX K fun fr' σ' => ∃ x', J x' ∧ Weak nb fr' σ' (S x')) fr σ ∧ ∀ x', J x' → awj P nt nb y K (S x').1 (S x').2
  | .cond c t e, K, fr, σ => match ev fr c with
    | .p (.raw (.bool b)) => (b = true → awj P nt nb t K (upd c true fr) σ) ∧ (b = false → awj P nt nb e K (upd c false fr) σ)
    | _ => False
  | .block id c, K, fr, σ => awj P nt nb c (blkX id K) fr σ
  | .loop c, K, fr, σ => ∃ (X : Type) (S : X → Fr × Sto) (J : X → Nat → Prop), (∃ x n, J x n ∧ Weak nb fr σ (S x)) ∧
      ∀ x n, J x n → awj P nt nb c (seqX K fun fr' σ' => ∃ x' m, J x' m ∧ m < n ∧ Weak nb fr' σ' (S x')) (S x).1 (S x).2
  | .exit id, K, fr, σ => K (.exit id) fr σ
  | .ret, K, fr, σ => K .ret fr σ
  | _, _, _, _ => False
def postJ (P : Program) (rs : List ResultVar) (nb : Nat) (Post : List AV → Sto → Prop) (fr : Fr) (σ : Sto) : Prop :=
  resK P rs fr (fun l σ' => ∃ l' τ', Weak nb (enterF 0 l) σ' (enterF 0 l', τ') ∧ l'.length = l.length ∧ Post l' τ') σ
def retJ (P : Program) (rs : List ResultVar) (nb : Nat) (Post : List AV → Sto → Prop) (Pan : Value → Sto → Prop) : AX → Fr → Sto → Prop
  | .exit _, _, _ => False
  | .pan v, fr, σ => ∃ τ', (okS τ' σ ∧ (belowS τ'.length τ' && Nat.ble nb τ'.length && keepB σ τ' nb) = true) ∧ Pan v τ'
  | _, fr, σ => postJ P rs nb Post fr σ
section
variable {P : Program} {cx : Cx} {F : Nat → Prop} {ι : Loc} {fr : Fr} {σ : Sto} {a : Act} {w w' : World}
theorem awj_ok {nb : Nat} (hB : ∀ b, cx.B0 b → b < nb) : ∀ (c : Code) {K : AX → Fr → Sto → Prop} {fr : Fr} {σ : Sto} {a : Act} {w : World}, Good cx fr σ a w → awj P cx.nt nb c K fr σ → c.wp P (Lift cx K) a w := by
  intro c
  induction c with
  | skip => intro K fr σ a w h hk; exact wp_skip ⟨fr, σ, hk, h⟩
  | region id ops d =>
    intro K fr σ a w h hk
    cases d with
    | false =>
      refine wp_region_list ?_
      have := aops_ok (Q := Lift cx K) (Kp := fun v => K (.pan v)) (fun v fr σ a w hk hg => ⟨v, fr, σ, rfl, hk, hg⟩) h hk (fun fr σ a w hk hg => ⟨fr, σ, hk, hg⟩)
      rwa [Array.toArray_toList] at this
    | true =>
      obtain ⟨ord, wr_, hs, hk⟩ := hk
      simp only [schedB, Bool.and_eq_true] at hs
      obtain ⟨⟨⟨hm, hns⟩, hl⟩, hs⟩ := hs
      have hl := Nat.eq_of_beq_eq_true hl
      obtain ⟨F, ι, h'⟩ := h
      have hup : St cx F ι fr σ a { w with drawn := w.drawn + 1 } := h'.up ⟨rfl, rfl, rfl, Nat.le_refl _, fun _ _ => rfl⟩
      refine Code.wp_mono (fun e a w hq => LiftD_lift hq) (wp_region_any (Q := LiftD cx K) hm (wpAny_of_I (S := SB2 ops.toList (Array.replicate ops.size false) (bars (parseO 4000 ord)) F ι σ wr_ { w with drawn := w.drawn + 1 }) _ _ _ _ ?_))
      have := dops_ok (P := P) (all := ops.toList) (wr_ := wr_) (Q := LiftD cx K) (listed := Array.replicate ops.size false) (by rw [Array.toArray_toList]; exact hns) (fun c a w d u hh => LiftD_put hh) (Kp := fun v => K (.pan v)) (fun v σ a w hk hg => ⟨v, σ, rfl, hk, hg⟩) (parseO 4000 ord) hup (by rw [Array.toArray_toList]; exact hs) Closed.empty hk (fun fr σ a w hk hg => ⟨fr, σ, hk, hg⟩)
      rw [Array.toArray_toList, hl] at this
      exact this
  | seq x y ihx ihy =>
    intro K fr σ a w h hk
    rcases hk with hk | ⟨X, S, J, hk, hr⟩
    · refine wp_seq (Code.wp_mono ?_ (ihx h hk))
      intro e a w hq
      cases e with
      | normal => obtain ⟨fr, σ, hk, hg⟩ := hq; exact ihy hg hk
      | exit id => exact hq
      | ret => exact hq
      | goto l => exact hq.elim
      | panic ch => obtain ⟨v, fr, σ, e, hk, hg⟩ := hq; exact ⟨v, fr, σ, e, hk, hg⟩
      | outgrown => exact hq.elim
    · refine wp_seq (Code.wp_mono ?_ (ihx h hk))
      intro e a w hq
      cases e with
      | normal => obtain ⟨fr, σ, ⟨x', hJ, hW⟩, hg⟩ := hq; exact ihy (weak_ok hg hB hW) (hr x' hJ)
      | exit id => exact hq
      | ret => exact hq
      | goto l => exact hq.elim
      | panic ch => obtain ⟨v, fr, σ, e, hk, hg⟩ := hq; exact ⟨v, fr, σ, e, hk, hg⟩
      | outgrown => exact hq.elim
  | cond c t e iht ihe =>
    intro K fr σ a w h hk
    simp only [awj] at hk
    split at hk
    · rename_i b hb
      obtain ⟨F, ι, h'⟩ := h
      have hv := ev_ok h' c
      rw [hb] at hv
      have hc := VR.inv_raw hv
      have hu : ∀ b', b = b' → St cx F ι (upd c b' fr) σ a w := fun b' e => by
        subst e
        cases c with
        | tmp d =>
          refine ⟨fun t => ?_, h'.sr, h'.inv, h'.nt, h'.df⟩
          simp only [upd, look]
          by_cases e : d = t
          · subst e; rw [beq_tt]
            have hc2 : a.tmps.getD d undef = .bool b := hc
            show VR F ι w (.p (B b)) (a.tmps.getD d undef)
            rw [hc2]; exact VR.raw rfl
          · rw [beq_ff e]; exact h'.fr t
        | _ => exact h'
      exact wp_cond_split hc (fun e => iht ⟨F, ι, hu true e⟩ (hk.1 e)) (fun e => ihe ⟨F, ι, hu false e⟩ (hk.2 e))
    · exact hk.elim
  | block id c ih =>
    intro K fr σ a w h hk
    refine wp_block (Code.wp_mono ?_ (ih h hk))
    intro e a w hq
    cases e with
    | normal => exact hq
    | exit j =>
      obtain ⟨fr, σ, hk, hg⟩ := hq
      simp only [blkX] at hk
      simp only [Exit.inBlock]
      by_cases hj : j = id
      · subst hj; rw [if_pos rfl]; rw [beq_tt] at hk; exact ⟨fr, σ, hk, hg⟩
      · rw [if_neg hj]; rw [beq_ff hj] at hk; exact ⟨fr, σ, hk, hg⟩
    | ret => exact hq
    | goto l => exact hq.elim
    | panic ch => obtain ⟨v, fr, σ, e, hk, hg⟩ := hq; exact ⟨v, fr, σ, e, hk, hg⟩
    | outgrown => exact hq.elim
  | loop c ih =>
    intro K fr σ a w h hk
    obtain ⟨X, S, J, ⟨x, n, hJ, hW⟩, hround⟩ := hk
    refine wp_loopN (fun n a w => ∃ x, J x n ∧ Good cx (S x).1 (S x).2 a w) n ⟨x, hJ, weak_ok h hB hW⟩ ?_
    rintro n a w ⟨x, hJ, hg⟩
    refine Code.wp_mono ?_ (ih hg (hround x n hJ))
    intro e a w hq
    cases e with
    | normal =>
      obtain ⟨fr, σ, ⟨x', m, hJ', hlt, hW'⟩, hg'⟩ := hq
      exact ⟨m, hlt, x', hJ', weak_ok hg' hB hW'⟩
    | exit id => exact hq
    | ret => exact hq
    | goto l => exact hq.elim
    | panic ch => obtain ⟨v, fr, σ, e, hk, hg⟩ := hq; exact ⟨v, fr, σ, e, hk, hg⟩
    | outgrown => exact hq.elim
  | exit id => intro K fr σ a w h hk; exact wp_exit ⟨fr, σ, hk, h⟩
  | ret => intro K fr σ a w h hk; exact wp_ret ⟨fr, σ, hk, h⟩
  | _ => intro K fr σ a w h hk; exact hk.elim

/-- A function that may panic, by its text. -/
theorem fn_introJE {f : Nat} {fn : Func} {c : Code} {args : List AV} {τ : Sto} {Post : List AV → Sto → Prop} {Pan : Value → Sto → Prop} (hf : P.funcs[f]? = some fn) (hb : fn.body = some c) (hn : (fn.name == "runtime.NumGoroutine") = false) (ha : Nat.ble args.length fn.ntmps = true)
    (h : awj P fn.ntmps τ.length c (retJ P fn.results.toList τ.length Post Pan) (enterF 0 args) τ) : FnE P f args τ Post Pan := by
  refine ⟨by unfold callable; rw [hf]; simp [hb, hn], fun F ι w vs hargs hs hlt => ?_⟩
  have ha' : args.length ≤ fn.ntmps := Nat.le_of_ble_eq_true ha
  refine calls_of_wp hf hb ?_
  have hcx : ∀ b, (cxOf F ι τ w fn.ntmps).B0 b → b < τ.length := fun b hb => at_lt (fun e => by rw [show (cxOf F ι τ w fn.ntmps).B0 b = ((at_ τ b).isBox = true) from rfl, e] at hb; cases hb)
  have hgood : Good (cxOf F ι τ w fn.ntmps) (enterF 0 args) τ { tmps := vs.toArray ++ Array.replicate (fn.ntmps - vs.toArray.size) undef, defers := [] } w := by
    refine ⟨F, ι, ⟨fun t => ?_, hs, ⟨rfl, rfl, rfl, Nat.le_refl _, fun r h => h, fun _ _ _ => rfl, fun r h _ => .inl h, fun b r β h1 h2 _ => ⟨b, β, h1, h2⟩, fun _ _ => rfl, hlt, fun _ h => h, fun _ _ h => h⟩, ?_, rfl⟩⟩
    · rw [enterF_look]
      simp only [Nat.not_lt_zero, if_false, Nat.sub_zero]
      cases hx : args[t]? with
      | none => exact .dead _
      | some x =>
        have htl := (List.getElem?_eq_some_iff.mp hx).1
        obtain ⟨v, hv⟩ : ∃ v, vs[t]? = some v := ⟨_, List.getElem?_eq_getElem (by rw [hargs.1]; exact htl)⟩
        have : (vs.toArray ++ Array.replicate (fn.ntmps - vs.toArray.size) undef).getD t undef = v := by
          have hlt2 : t < vs.length := by rw [hargs.1]; exact htl
          have e : (vs.toArray ++ Array.replicate (fn.ntmps - vs.toArray.size) undef)[t]? = some v := by
            rw [Array.getElem?_append_left (by simpa using hlt2)]; simpa using hv
          rw [Array.getD_eq_getD_getElem?, e]; rfl
        show VR F ι w ((some x).getD .dead) (Array.getD _ t undef)
        rw [this]
        exact hargs.2 t x v hx hv
    · simp [hargs.1]
      show args.length + (fn.ntmps - args.length) = fn.ntmps
      omega
  refine Code.wp_mono ?_ (awj_ok hcx c hgood h)
  have hret : ∀ fr σ a' w', postJ P fn.results.toList τ.length Post fr σ → Good (cxOf F ι τ w fn.ntmps) fr σ a' w' →
      a'.defers = [] ∧ ∃ v, (results fn a'.tmps).run P w' = .ok v w' ∧ ∃ F' ι' rs τ' us, ((Ending.returned v = .returned (resV us) ∧ Post rs τ') ∨ (us = [] ∧ rs = [] ∧ ∃ v', Ending.returned v = .panicked [{ v := v', recovered := false }] ∧ Pan v' τ')) ∧ VRs F' ι' w' rs us ∧ SR F' ι' w' τ' ∧ Inv (cxOf F ι τ w 0) F' ι' τ' w' ∧ τ.length ≤ τ'.length := by
    rintro fr σ a' w' hk ⟨F1, ι1, hst⟩
    obtain ⟨F2, σ2, l, us, ⟨l', τ', hw, hll, hpost⟩, hF2, h2, hl, hr⟩ := resK_ok hst hk
    refine ⟨h2.df, _, run_results hr, ?_⟩
    -- the results as a frame of their own
    have hfr : St (cxOf F ι τ w us.length) F2 ι1 (enterF 0 l) σ2 { tmps := us.toArray, defers := [] } w' := by
      refine ⟨fun t => ?_, h2.sr, ⟨h2.inv.os, h2.inv.tape, h2.inv.output, h2.inv.size, h2.inv.f0, h2.inv.keep, h2.inv.newF, h2.inv.own, h2.inv.fix, h2.inv.lt, h2.inv.bx, h2.inv.len⟩, by simp [cxOf], rfl⟩
      rw [enterF_look]
      simp only [Nat.not_lt_zero, if_false, Nat.sub_zero]
      cases hx : l[t]? with
      | none => exact .dead _
      | some x =>
        have htl := (List.getElem?_eq_some_iff.mp hx).1
        obtain ⟨v, hv⟩ : ∃ v, us[t]? = some v := ⟨_, List.getElem?_eq_getElem (by rw [hl.1]; exact htl)⟩
        have : us.toArray.getD t undef = v := by rw [Array.getD_eq_getD_getElem?]; simp [hv]
        show VR F2 ι1 w' ((some x).getD .dead) (Array.getD _ t undef)
        rw [this]
        exact hl.2 t x v hx hv
    have hbl : τ.length ≤ τ'.length := by
      obtain ⟨_, _, _, hb⟩ := hw
      simp only [Bool.and_eq_true] at hb
      exact Nat.le_of_ble_eq_true hb.1.1.2
    obtain ⟨F3, ι3, h3⟩ := weak_ok (s := (enterF 0 l', τ')) ⟨F2, ι1, hfr⟩ hcx hw
    refine ⟨F3, ι3, l', τ', us, .inl ⟨rfl, hpost⟩, ⟨hl.1.trans hll.symm, fun j x v hx hv => ?_⟩, h3.sr, ⟨h3.inv.os, h3.inv.tape, h3.inv.output, h3.inv.size, h3.inv.f0, h3.inv.keep, h3.inv.newF, h3.inv.own, h3.inv.fix, h3.inv.lt, h3.inv.bx, h3.inv.len⟩, hbl⟩
    have := h3.fr j
    rw [enterF_look] at this
    simp only [Nat.not_lt_zero, if_false, Nat.sub_zero, hx, Option.getD_some] at this
    have e : us.toArray.getD j undef = v := by rw [Array.getD_eq_getD_getElem?]; simp [hv]
    have this' : VR F3 ι3 w' x (us.toArray.getD j undef) := this
    rwa [e] at this'
  intro e a' w' hq
  cases e with
  | normal => obtain ⟨fr, σ, hk, hg⟩ := hq; exact hret fr σ a' w' hk hg
  | ret => obtain ⟨fr, σ, hk, hg⟩ := hq; exact hret fr σ a' w' hk hg
  | exit id => obtain ⟨fr, σ, hk, hg⟩ := hq; exact hk.elim
  | goto l => exact hq.elim
  | panic ch =>
    obtain ⟨v, fr, σ, rfl, ⟨τ', ⟨hok, hbel⟩, hpan⟩, F1, ι1, hst⟩ := hq
    simp only [Bool.and_eq_true] at hbel
    obtain ⟨⟨hb2, hb3⟩, hb4⟩ := hbel
    have hfr : St (cxOf F ι τ w fn.ntmps) F1 ι1 [] σ a' w' := hst.noFr
    obtain ⟨F3, ι3, h3⟩ := weak_ok (s := ([], τ')) ⟨F1, ι1, hfr⟩ hcx (.of0 ⟨[], trivial, by simpa [nilRows] using hok, by simp only [Bool.and_eq_true]; exact ⟨⟨⟨rfl, hb2⟩, hb3⟩, hb4⟩⟩)
    exact ⟨hst.df, F3, ι3, [], τ', [], .inr ⟨rfl, rfl, v, rfl, hpan⟩, ⟨rfl, fun j x v hx => by simp at hx⟩, h3.sr, ⟨h3.inv.os, h3.inv.tape, h3.inv.output, h3.inv.size, h3.inv.f0, h3.inv.keep, h3.inv.newF, h3.inv.own, h3.inv.fix, h3.inv.lt, h3.inv.bx, h3.inv.len⟩, Nat.le_of_ble_eq_true hb3⟩
  | outgrown => exact hq.elim


theorem FnE.toFn {f : Nat} {args : List AV} {τ : Sto} {Post : List AV → Sto → Prop} (h : FnE P f args τ Post fun _ _ => False) : Fn P f args τ Post :=
  ⟨h.1, fun F ι w vs a b c => (h.2 F ι w vs a b c).mono fun e w' ⟨F', ι', rs, τ', us, hh, r⟩ => ⟨F', ι', rs, τ', us, hh.elim (fun ⟨x, y⟩ => x) (fun ⟨x, y, v, z, u⟩ => u.elim), hh.elim (fun ⟨x, y⟩ => y) (fun ⟨x, y, v, z, u⟩ => u.elim), r⟩⟩
/-- A function, by its text. -/
theorem fn_introJ {f : Nat} {fn : Func} {c : Code} {args : List AV} {τ : Sto} {Post : List AV → Sto → Prop} (hf : P.funcs[f]? = some fn) (hb : fn.body = some c) (hn : (fn.name == "runtime.NumGoroutine") = false) (ha : Nat.ble args.length fn.ntmps = true)
    (h : awj P fn.ntmps τ.length c (retJ P fn.results.toList τ.length Post fun _ _ => False) (enterF 0 args) τ) : Fn P f args τ Post := (fn_introJE hf hb hn ha h).toFn
end
/-! ### Words of printed models -/
def gp {α : Type} (p : Prop) [Decidable p] (k : Option α) : Option α := if p then k else none
theorem gpT {α : Type} {p : Prop} [Decidable p] {k : Option α} {r : α} (h : gp p k = some r) : p ∧ k = some r := by
  unfold gp at h
  split at h
  · rename_i hp; exact ⟨hp, h⟩
  · cases h
theorem gp_pos {α : Type} {p : Prop} [Decidable p] {k : Option α} (h : p) : gp p k = k := if_pos h
theorem gp_neg {α : Type} {p : Prop} [Decidable p] {k : Option α} (h : ¬ p) : gp p k = none := if_neg h
def ix {α : Type} (l : List α) (i : Int) : Option α := if 0 ≤ i then l[i.toNat]? else none
theorem bsm {α β : Type} {o : Option α} {k : α → Option β} {r : β} (h : o.bind k = some r) : ∃ x, o = some x ∧ k x = some r := Option.bind_eq_some_iff.mp h
theorem cT {α : Type} {b : Bool} {x y : α} {r : α} (h : (bif b then x else y) = r) (c : b = true) : x = r := by subst c; exact h
theorem cF {α : Type} {b : Bool} {x y : α} {r : α} (h : (bif b then x else y) = r) (c : b = false) : y = r := by subst c; exact h
theorem opt2 {α : Type} (o : Option α) : o = none ∨ ∃ x, o = some x := by cases o with
  | none => exact .inl rfl
  | some x => exact .inr ⟨x, rfl⟩
theorem ns {α : Type} {r : α} {p : Prop} (h : (none : Option α) = some r) : p := by cases h
section
variable {α : Type} {l : List α} {i : Int} {x : α}
theorem ix0 (h : ix l i = some x) : 0 ≤ i := by unfold ix at h; split at h <;> first | assumption | cases h
theorem ixg (h : ix l i = some x) : l[i.toNat]? = some x := by unfold ix at h; split at h <;> first | assumption | cases h
theorem ixl (h : ix l i = some x) : i.toNat < l.length := (List.getElem?_eq_some_iff.mp (ixg h)).1
theorem ixr (h : ix l i = some x) : 0 ≤ i ∧ i < (l.length : Int) := ⟨ix0 h, by have := ixl h; have := ix0 h; omega⟩
theorem ix_of (h0 : 0 ≤ i) (h : l[i.toNat]? = some x) : ix l i = some x := by unfold ix; rw [if_pos h0]; exact h
theorem gm {e : α → PV} {k : Nat} (h : l[k]? = some x) : (l.map e)[k]? = some (e x) := by rw [List.getElem?_map, h]; rfl
theorem gz {β : Type} {l : List β} {k : Nat} {y : β} (h : l[k]? = some y) : l[0 + k]? = some y := by rw [Nat.zero_add]; exact h
theorem gc {β : Type} {l l' : List β} {k : Nat} {y : β} (h1 : l' = l) (h : l[k]? = some y) : l'[k]? = some y := h1 ▸ h
theorem fits_map {e : α → PV} {sz : Nat} (h : ∀ a, PV.fit sz (e a)) : ∀ l : List α, fits sz (l.map e)
  | [] => trivial
  | a :: l => ⟨h a, fits_map h l⟩
theorem hd_map {e : α → PV} {n : Nat} (h : ∀ a, (e a).cs.length = n) (l : List α) : ∀ y, (l.map e)[0]? = some y → y.cs.length = n := by
  intro y hy
  cases l with
  | nil => simp at hy
  | cons a l => simp at hy; subst hy; exact h a
theorem rowA {β : Type} (l : List β) : 0 + l.length ≤ l.length ∧ (l.drop 0).take l.length = l := ⟨by omega, by simp⟩
theorem rowN {β : Type} {l l' : List β} {n : Nat} (h : l = l') (hn : n = l'.length) : 0 + n ≤ l.length ∧ (l.drop 0).take n = l' := by subst h; subst hn; simp
def eL (e : α → PV) (x : List α) : PV := .lst (x.map e)
theorem eL_eq (e : α → PV) (x : List α) : eL e x = .lst (x.map e) := rfl
end
theorem FnP.cast {P : Program} {f : Nat} {xs xs' ys : List PV} (h : xs = xs') (hf : FnP P f xs ys) : FnP P f xs' ys := h ▸ hf
theorem lcons {α : Type} {a b : α} {l m : List α} (h : a = b) (h' : l = m) : a :: l = b :: m := by rw [h, h']
end Go.Proofs.Sy
