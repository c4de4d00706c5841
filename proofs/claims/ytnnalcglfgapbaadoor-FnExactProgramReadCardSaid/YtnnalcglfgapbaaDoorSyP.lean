/- Blocks get new numbers. -/
import Derived.Test.YtnnalcglfgapbaaDoorSyI
set_option linter.unusedVariables false
set_option linter.unusedSimpArgs false
namespace Go.Proofs.Sy
open Go Go.RowKit
section
variable {P : Program} {cx : Cx} {fr : Fr} {σ : Sto} {a : Act} {w : World}
theorem gc_ok {nb : Nat} {m : List Nat} (h : Good cx fr σ a w) (hB : ∀ b, cx.B0 b → b < nb) (hn : nodupN m = true) (hi : ∀ b, b < nb → nth m b = some b) : Good cx (renF (gIn m) fr) (selS m σ m) a w := by
  obtain ⟨F, ι, h⟩ := h
  let ιc : Loc := fun k => match nth m k with | some b => ι b | none => none
  have hιc : ∀ {k b}, nth m k = some b → ιc k = ι b := fun {k b} e => by show (match nth m k with | some b => ι b | none => none) = _; rw [e]
  have hιn : ∀ {k}, nth m k = none → ιc k = none := fun {k} e => by show (match nth m k with | some b => ι b | none => none) = _; rw [e]
  have hgin : ∀ b k q, gIn m b = some k → ι b = some q → ιc k = some q := fun b k q hg hq => by rw [hιc (idxN_some hg)]; exact hq
  have hτ : ∀ {k b}, nth m k = some b → at_ (selS m σ m) k = renB (gIn m) (at_ σ b) := fun {k b} e => by rw [at_selS, e]
  have hτn : ∀ {k}, nth m k = none → at_ (selS m σ m) k = .dead := fun {k} e => by rw [at_selS, e]
  have hτw : ∀ {k}, (at_ (selS m σ m) k).w = true → ∃ b, nth m k = some b ∧ (at_ σ b).w = true := fun {k} hw => by
    cases e : nth m k with
    | none => rw [hτn e] at hw; cases hw
    | some b => rw [hτ e, renB_w] at hw; exact ⟨b, rfl, hw⟩
  have hinj : ∀ {k k' b}, nth m k = some b → nth m k' = some b → k = k' := fun {k k' b} e e' => by
    have h1 := idxN_of hn e
    have h2 := idxN_of hn e'
    rw [h1] at h2; cases h2; rfl
  have hsrc : SR F ιc w (selS m σ m) := by
    refine ⟨fun k => ?_, fun k k' r r' β β' h1 h2 h3 h4 hne => ?_, fun k r β h1 h2 => ?_, fun k hk => ?_, h.sr.tab⟩
    · cases e : nth m k with
      | none => rw [hτn e]; trivial
      | some b => rw [hτ e, hιc e]; exact (h.sr.bk b).ren (fun _ h => h) (fun _ _ => rfl) hgin (fun _ _ h => h) (fun _ _ _ _ => rfl)
    · obtain ⟨b, e, hb⟩ := hτw h1
      obtain ⟨b', e', hb'⟩ := hτw h2
      rw [hιc e] at h3; rw [hιc e'] at h4
      exact h.sr.apart b b' r r' β β' hb hb' h3 h4 (fun hbb => hne (hinj e (hbb ▸ e')))
    · obtain ⟨b, e, hb⟩ := hτw h1
      rw [hιc e] at h2
      exact h.sr.own b r β hb h2
    · rw [selS_len] at hk
      cases e : nth m k with
      | none => exact hιn e
      | some b => have := nth_lt e; omega
  refine ⟨F, ιc, fun t => ?_, hsrc, ?_, h.nt, h.df⟩
  · rw [look_ren]
    exact (h.fr t).ren (fun _ h => h) (fun _ _ => rfl) hgin (fun _ _ h => h)
  · have i := h.inv
    exact ⟨i.os, i.tape, i.output, i.size, i.f0, i.keep, i.newF, fun k r β h1 h2 hr => by
      obtain ⟨b, e, hb⟩ := hτw h1
      rw [hιc e] at h2
      exact i.own b r β hb h2 hr, fun b hb => by rw [hιc (hi b (hB b hb))]; exact i.fix b hb, i.lt, fun b hb => by
        rw [hτ (hi b (hB b hb)), renB_box]; exact i.bx b hb, i.len⟩
end
end Go.Proofs.Sy
