/- ProgramOK of both sides, plain. -/
import Derived.Test.YtnnalcglfgapbaaDoorPr0
import Derived.Test.YtnnalcglfgapbaaDoorPlW
set_option linter.unusedVariables false
set_option linter.unusedSectionVars false
set_option linter.unusedSimpArgs false
namespace Go.Proofs.YtnnalcglfgapbaaDoor.Z
open Go Go.RowKit Go.Proofs.Sy Go.Proofs
set_option maxRecDepth 100000
def okI (len : Int) (x : gIns) : Bool := decide (1 ≤ x.op_ ∧ x.op_ ≤ 10) && (decide (if 5 ≤ x.op_ ∧ x.op_ ≤ 8 then 0 ≤ x.to_ ∧ x.to_ < len else x.to_ = 0) && decide (if x.op_ = 10 then x.n_ = 2 ∨ x.n_ = 4 else if x.op_ ≤ 3 ∨ x.op_ = 6 ∨ x.op_ = 8 then 0 ≤ x.n_ ∧ x.n_ ≤ 1000 else x.n_ = 0))
theorem ten {z : Int} (h : 1 ≤ z ∧ z ≤ 10) : z = 1 ∨ z = 2 ∨ z = 3 ∨ z = 4 ∨ z = 5 ∨ z = 6 ∨ z = 7 ∨ z = 8 ∨ z = 9 ∨ z = 10 := by omega
theorem btwS (n : Nat) (a b c : Int) : m_spec_l01Between n a b c = some (decide (b ≤ a) && decide (a ≤ c)) := by
  unfold m_spec_l01Between
  by_cases h : a ≥ b
  · rw [decide_eq_true h]; rfl
  · rw [decide_eq_false h]; rfl
theorem cN {α : Type} (a b : Int) (x y : α) : (bif a != b then x else y) = if a = b then y else x := by
  by_cases h : a = b
  · subst h; simp
  · rw [bne, beq_eq_false_iff_ne.mpr h, if_neg h]; rfl
theorem cE {α : Type} (a b : Int) (x y : α) : (bif a == b then x else y) = if a = b then x else y := by
  by_cases h : a = b
  · subst h; simp
  · rw [beq_eq_false_iff_ne.mpr h, if_neg h]; rfl
theorem cD {α : Type} (p : Prop) [Decidable p] (x y : α) : (bif decide p then x else y) = if p then x else y := by
  by_cases h : p
  · rw [decide_eq_true h, if_pos h]; rfl
  · rw [decide_eq_false h, if_neg h]; rfl
theorem insI (n : Nat) (x : gIns) (len : Int) : m_impl_insOK n x len = some (okI len x) := by
  obtain ⟨op, k, tt⟩ := x
  unfold m_impl_insOK okI
  simp only []
  by_cases h : 1 ≤ op ∧ op ≤ 10
  · rw [decide_eq_false (show ¬ op < 1 by omega), decide_eq_false (show ¬ op > 10 by omega), decide_eq_true h]
    simp only [cond_false, Bool.true_and]
    rcases ten h with rfl | rfl | rfl | rfl | rfl | rfl | rfl | rfl | rfl | rfl <;>
      simp [m_impl_jumps, m_impl_ifs, m_impl_insOK_j1, m_impl_insOK_j3, cN, cE, cD] <;> grind
  · rw [decide_eq_false h]
    by_cases h1 : op < 1
    · rw [decide_eq_true h1]; rfl
    · rw [decide_eq_false h1, decide_eq_true (show op > 10 by omega)]; rfl
end Go.Proofs.YtnnalcglfgapbaaDoor.Z
