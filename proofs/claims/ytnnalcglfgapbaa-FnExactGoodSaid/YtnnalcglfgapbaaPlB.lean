/- Plain: names, both sides. -/
import Derived.Test.YtnnalcglfgapbaaPlA
import Derived.Test.YtnnalcglfgapbaaGood0b
set_option linter.unusedVariables false
set_option linter.unusedSectionVars false
set_option linter.unusedSimpArgs false
namespace Go.Proofs.Ytnnalcglfgapbaa.Z
open Go Go.RowKit Go.Proofs.Sy Go.Proofs
set_option maxRecDepth 100000
theorem mLetterS (n : Nat) (c : Int) : m_spec_l01Letter n c = some (isLetter c) := by
  unfold m_spec_l01Letter isLetter
  by_cases h1 : 97 ≤ c <;> by_cases h2 : c ≤ 122 <;> by_cases h3 : 65 ≤ c <;> simp [h1, h2, h3, GE.ge]
theorem mDigitS (n : Nat) (c : Int) : m_spec_l01Digit n c = some (isDigit c) := by
  unfold m_spec_l01Digit isDigit
  by_cases h1 : 48 ≤ c <;> simp [h1, GE.ge]
theorem mNameByte (n : Nat) (c : Int) : m_spec_l01NameByte n c = some (inName c) := by
  unfold m_spec_l01NameByte inName
  rw [mLetterS, mDigitS]
  cases isLetter c <;> cases isDigit c <;> simp
theorem mLetterI (n : Nat) (c : Int) : m_impl_isLetter n c = some (isLetter c) := by
  unfold m_impl_isLetter isLetter
  by_cases h1 : 97 ≤ c <;> by_cases h2 : c ≤ 122 <;> by_cases h3 : 65 ≤ c <;> simp [h1, h2, h3, GE.ge]
theorem mDigitI (n : Nat) (c : Int) : m_impl_isDigit n c = some (isDigit c) := by
  unfold m_impl_isDigit isDigit
  by_cases h1 : 48 ≤ c <;> simp [h1, GE.ge]
theorem mInNameI (n : Nat) (c : Int) : m_impl_inName n c = some (inName c) := by
  unfold m_impl_inName inName
  rw [mLetterI, mDigitI]
  cases isLetter c <;> cases isDigit c <;> simp
theorem nmLI (n : Nat) (s : ByteArray) (hs : s.size ≤ 1000000000000) : ∀ (k : Nat) (i : Int), 0 ≤ i → i ≤ s.size → s.size - i < k → m_impl_nameOK_l3 n s k i = some (allFrom inName s i)
  | 0, i, h0, h1, h2 => by omega
  | k + 1, i, h0, h1, h2 => by
    unfold m_impl_nameOK_l3
    by_cases c : i < (s.size : Int)
    · have w : wr .i64 (i + 1) = i + 1 := w64 (by omega)
      rw [decide_eq_true c, allFrom_step h0 c]
      simp only [cond_true, gp_pos (show 0 ≤ i ∧ i < (s.size : Int) from ⟨h0, c⟩), mInNameI, Option.bind_some, w]
      cases inName (bt s i) with
      | true => exact nmLI n s hs k (i + 1) (by omega) (by omega) (by omega)
      | false => rfl
    · rw [decide_eq_false c, allFrom_end (by omega)]; rfl
theorem nmLS (n : Nat) (s : ByteArray) (hs : s.size ≤ 1000000000000) : ∀ (k : Nat) (i : Int), 0 ≤ i → i ≤ s.size → s.size - i < k → m_spec_l01Name_l3 n s k i = some (allFrom inName s i)
  | 0, i, h0, h1, h2 => by omega
  | k + 1, i, h0, h1, h2 => by
    unfold m_spec_l01Name_l3
    by_cases c : i < (s.size : Int)
    · have w : wr .i64 (i + 1) = i + 1 := w64 (by omega)
      rw [decide_eq_true c, allFrom_step h0 c]
      simp only [cond_true, gp_pos (show 0 ≤ i ∧ i < (s.size : Int) from ⟨h0, c⟩), mNameByte, Option.bind_some, w]
      cases inName (bt s i) with
      | true => exact nmLS n s hs k (i + 1) (by omega) (by omega) (by omega)
      | false => rfl
    · rw [decide_eq_false c, allFrom_end (by omega)]; rfl
theorem mNameOK {n : Nat} {s : ByteArray} (hs : s.size ≤ 1000000000000) (hn : s.size + 1 ≤ n) : m_impl_nameOK n s = some (nameOK s) := by
  unfold m_impl_nameOK nameOK
  by_cases c1 : (s.size : Int) < 1
  · rw [decide_eq_true c1, decide_eq_false (show ¬ 1 ≤ s.size by omega)]; rfl
  rw [decide_eq_false c1, decide_eq_true (show 1 ≤ s.size by omega)]
  by_cases c2 : (s.size : Int) > 24
  · rw [decide_eq_true c2, decide_eq_false (show ¬ s.size ≤ 24 by omega)]; rfl
  rw [decide_eq_false c2, decide_eq_true (show s.size ≤ 24 by omega)]
  simp only [cond_false, gp_pos (show 0 ≤ (0 : Int) ∧ (0 : Int) < (s.size : Int) by omega), mLetterI, Option.bind_some, Bool.true_and]
  have h0 := allFrom_step (p := inName) (s := s) (i := 0) (by omega) (by omega)
  cases hl : isLetter (bt s 0) with
  | false => rfl
  | true =>
    have : inName (bt s 0) = true := by unfold inName; rw [hl]; rfl
    rw [this] at h0
    simp only [Bool.not_true, cond_false, nmLI n s hs n 0 (by omega) (by omega) (by omega), Bool.true_and] at h0 ⊢
    rw [h0]; rfl
theorem mNameS {n : Nat} {s : ByteArray} (hs : s.size ≤ 1000000000000) (hn : s.size + 1 ≤ n) : m_spec_l01Name n s = some (nameOK s) := by
  unfold m_spec_l01Name nameOK
  by_cases c1 : (s.size : Int) < 1
  · rw [decide_eq_true c1, decide_eq_false (show ¬ 1 ≤ s.size by omega)]; rfl
  rw [decide_eq_false c1, decide_eq_true (show 1 ≤ s.size by omega)]
  by_cases c2 : (s.size : Int) > 24
  · rw [decide_eq_true c2, decide_eq_false (show ¬ s.size ≤ 24 by omega)]; rfl
  rw [decide_eq_false c2, decide_eq_true (show s.size ≤ 24 by omega)]
  simp only [cond_false, gp_pos (show 0 ≤ (0 : Int) ∧ (0 : Int) < (s.size : Int) by omega), mLetterS, Option.bind_some, Bool.true_and]
  cases hl : isLetter (bt s 0) with
  | false => rfl
  | true =>
    simp only [Bool.not_true, cond_false, nmLS n s hs n 1 (by omega) (by omega) (by omega), Bool.true_and]

theorem nameI {n : Nat} (hn : 30 ≤ n) (s : ByteArray) : m_impl_nameOK n s = some (nameOK s) := by
  by_cases h : s.size ≤ 24
  · exact mNameOK (by omega) (by omega)
  · unfold m_impl_nameOK nameOK
    rw [decide_eq_false (show ¬ (s.size : Int) < 1 by omega), decide_eq_true (show (s.size : Int) > 24 by omega), decide_eq_false h]
    simp
theorem nameS {n : Nat} (hn : 30 ≤ n) (s : ByteArray) : m_spec_l01Name n s = some (nameOK s) := by
  by_cases h : s.size ≤ 24
  · exact mNameS (by omega) (by omega)
  · unfold m_spec_l01Name nameOK
    rw [decide_eq_false (show ¬ (s.size : Int) < 1 by omega), decide_eq_true (show (s.size : Int) > 24 by omega), decide_eq_false h]
    simp
theorem btw (n : Nat) (a b c : Int) : m_spec_l01Between n a b c = some (decide (b ≤ a) && decide (a ≤ c)) := by
  unfold m_spec_l01Between
  by_cases h : b ≤ a
  · rw [decide_eq_true (show a ≥ b from h)]; rfl
  · rw [decide_eq_false (show ¬ a ≥ b from h)]; rfl
end Go.Proofs.Ytnnalcglfgapbaa.Z
