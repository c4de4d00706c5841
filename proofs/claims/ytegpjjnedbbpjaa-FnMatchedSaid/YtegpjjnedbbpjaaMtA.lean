/- Patterns: variables, sameness, matches: what the printed models come to. -/
import Derived.Test.YtegpjjnedbbpjaaAx5
set_option linter.unusedVariables false
set_option linter.unusedSimpArgs false
namespace Go.Proofs.Ytegpjjnedbbpjaa.Z
open Go Go.RowKit Go.Proofs.Sy Go.Proofs
set_option maxRecDepth 100000
theorem ixp {α : Type} (pre : List α) (k : α) (r : List α) : ix (pre ++ k :: r) (pre.length : Int) = some k := by
  unfold ix
  rw [if_pos (by omega)]
  simp
theorem wln {α : Type} (pre : List α) (k : α) (h : pre.length ≤ 1000000000000) : wr .i64 ((pre.length : Int) + 1) = ((pre ++ [k]).length : Int) := by
  rw [List.length_append]
  exact (w64 (by omega)).trans (by simp)
theorem wtL_app2 (a b : List Tree) : wtL (a ++ b) = wtL a + wtL b := by
  induction a with
  | nil => simp [wtL]
  | cons x a ih => simp only [List.cons_append, wtL, ih]; omega
theorem pre_len {pre r : List Tree} {k : Tree} {t : Tree} (h : t.ks = pre ++ k :: r) (hw : wt t ≤ 100000000000) : pre.length ≤ 1000000000000 ∧ (pre.length : Int) < ((encM t.ks).length : Int) ∧ k ∈ t.ks := by
  have h1 := wt_len t
  have h2 : t.ks.length = pre.length + (r.length + 1) := by rw [h]; simp
  refine ⟨by omega, by rw [encM_len]; omega, by rw [h]; simp⟩
theorem mLetterS (n : Nat) (c : Int) : m_spec_l01Letter n c = some (isLetter c) := by
  unfold m_spec_l01Letter isLetter
  by_cases h1 : 97 ≤ c <;> by_cases h2 : c ≤ 122 <;> by_cases h3 : 65 ≤ c <;> simp [h1, h2, h3, GE.ge]
theorem mDigitS (n : Nat) (c : Int) : m_spec_l01Digit n c = some (isDigit c) := by
  unfold m_spec_l01Digit isDigit
  by_cases h1 : 48 ≤ c <;> simp [h1, GE.ge]
theorem mNameByte (n : Nat) (c : Int) : m_spec_l01NameByte n c = some (inName c) := by
  unfold m_spec_l01NameByte inName
  rw [mLetterS, mDigitS]
  cases isLetter c <;> cases isDigit c <;> simp
theorem mLetterI (n : Nat) (c : Int) : m_impl_isLetter n c = some (isLetter c) := by
  unfold m_impl_isLetter isLetter
  by_cases h1 : 97 ≤ c <;> by_cases h2 : c ≤ 122 <;> by_cases h3 : 65 ≤ c <;> simp [h1, h2, h3, GE.ge]
theorem mDigitI (n : Nat) (c : Int) : m_impl_isDigit n c = some (isDigit c) := by
  unfold m_impl_isDigit isDigit
  by_cases h1 : 48 ≤ c <;> simp [h1, GE.ge]
theorem mInNameI (n : Nat) (c : Int) : m_impl_inName n c = some (inName c) := by
  unfold m_impl_inName inName
  rw [mLetterI, mDigitI]
  cases isLetter c <;> cases isDigit c <;> simp
end Go.Proofs.Ytegpjjnedbbpjaa.Z
