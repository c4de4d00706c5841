/- FnExactGood: the law. -/
import Derived.Test.YtnnalcglfgapbaaGdD
set_option linter.unusedVariables false
set_option linter.unusedSectionVars false
set_option linter.unusedSimpArgs false
namespace Go.Proofs.Ytnnalcglfgapbaa.Z
open Go Go.RowKit Go.Proofs.Sy Go.Proofs
set_option maxRecDepth 100000
/-- What a list of numbers says. -/
def readB (b : gBnf) (non : Int) (d : List Int) : Option (gpnode × Int) := rd b d (d.length + 1) 0 ((b.terms_.length : Int) + non)
def derB (b : gBnf) (non : Int) (d : List Int) : Option gpnode := match readB b non d with
  | some k => if k.2 = (d.length : Int) then some k.1 else none
  | none => none
theorem codesS {n : Nat} (hn : 1100000 ≤ n) (b : gBnf) (hN : b.nons_.length ≤ 1048576) (non : Int) (d : List Int) : m_spec_l06Codes n b non d = some (if okB b = true ∧ d.length ≤ 4000 then (if 0 ≤ non ∧ non < (b.nons_.length : Int) then 0 else 4) else 1) := by
  unfold m_spec_l06Codes
  rw [bnfS hn, Option.bind_some]
  cases hok : okB b with
  | false => simp
  | true =>
    simp only [Bool.not_true, cond_false, List.length_map, btw, Option.bind_some, true_and]
    rw [wid (n := (b.nons_.length : Int) - 1) (by omega)]
    by_cases h1 : d.length ≤ 4000
    · rw [decide_eq_false (show ¬ (d.length : Int) > 4000 by omega), if_pos h1]
      by_cases h2 : 0 ≤ non ∧ non < (b.nons_.length : Int)
      · rw [decide_eq_true h2.1, decide_eq_true (show non ≤ (b.nons_.length : Int) - 1 by omega), if_pos h2]; rfl
      · have : (!(decide (0 ≤ non) && decide (non ≤ (b.nons_.length : Int) - 1))) = true := by simp; omega
        rw [this, if_neg h2]; rfl
    · rw [decide_eq_true (show (d.length : Int) > 4000 by omega), if_neg h1]; rfl
theorem readS {n : Nat} (hn : 1100000 ≤ n) {b : gBnf} (hb : okB b = true) {non : Int} (h0 : 0 ≤ non ∧ non < (b.nons_.length : Int)) {d : List Int} (hd : d.length ≤ 4000) :
    (∃ t, m_spec_l06Read n b non d = some (t, false) ∧ derB b non d = none) ∨ ∃ k, derB b non d = some k ∧ m_spec_l06Read n b non d = some (conv k, true) := by
  have h := nonS (Bk_.of hb) (d := d) (by omega) (d.length + 1) n 0 ((b.terms_.length : Int) + non) (by omega) (by omega) (by omega) (by omega)
  rw [show (b.terms_.length : Int) + non - (b.terms_.length : Int) = non by omega] at h
  unfold m_spec_l06Read derB readB
  cases hr : rd b d (d.length + 1) 0 ((b.terms_.length : Int) + non) with
  | none =>
    rw [hr] at h
    obtain ⟨t, q, e, hq⟩ := h
    rw [e, Option.bind_some]
    exact .inl ⟨t, by simp [hq], rfl⟩
  | some k =>
    rw [hr] at h
    obtain ⟨e, h1, h2⟩ := h
    rw [e, Option.bind_some]
    by_cases c : k.2 = (d.length : Int)
    · refine .inr ⟨k.1, by simp only []; rw [if_pos c], ?_⟩
      simp [c]
    · refine .inl ⟨conv k.1, ?_, by simp only []; rw [if_neg c]⟩
      simp [c]
theorem derI {n : Nat} (hn : 1100000 ≤ n) {b : gBnf} (hb : okB b = true) {non : Int} (h0 : 0 ≤ non ∧ non < (b.nons_.length : Int)) {d : List Int} (hd : d.length ≤ 4000) :
    (∃ t, m_impl_derivation n b non d = some (t, false) ∧ derB b non d = none) ∨ ∃ k, derB b non d = some k ∧ m_impl_derivation n b non d = some (some k, true) := by
  have hB := Bk_.of hb
  have hT := hB.t
  have hN := hB.s
  have h := nonI hB (d := d) (by omega) (d.length + 1) n 0 ((b.terms_.length : Int) + non) (by omega) (by omega) (by omega) (by omega)
  unfold m_impl_derivation derB readB
  rw [List.length_map, wid (n := (b.terms_.length : Int) + non) (by omega)]
  cases hr : rd b d (d.length + 1) 0 ((b.terms_.length : Int) + non) with
  | none =>
    rw [hr] at h
    obtain ⟨e, he⟩ := h
    rw [he, Option.bind_some]
    exact .inl ⟨none, rfl, rfl⟩
  | some k =>
    rw [hr] at h
    obtain ⟨e, h1, h2⟩ := h
    rw [e, Option.bind_some]
    simp only [Ou.el, m_impl_derivation_1_rnone, Option.bind_some, List.length_map]
    by_cases c : k.2 = (d.length : Int)
    · refine .inr ⟨k.1, by rw [if_pos c], ?_⟩
      simp [c]
    · refine .inl ⟨some k.1, ?_, by rw [if_neg c]⟩
      simp [c]
theorem derivedI {n : Nat} (hn : 1100000 ≤ n) (b : gBnf) (non : Int) (d : List Int) : m_impl_derived n b non d = some (if okB b = true ∧ d.length ≤ 4000 then (if 0 ≤ non ∧ non < (b.nons_.length : Int) then (match derB b non d with | some k => (some k, (0 : Int)) | none => (none, 2)) else (none, 4)) else (none, 1)) := by
  unfold m_impl_derived
  rw [bnfI hn, Option.bind_some]
  cases hok : okB b with
  | false => simp [m_impl_derived_j2]
  | true =>
    simp only [Bool.not_true, cond_false, m_impl_derived_j2, List.length_map, true_and]
    by_cases h1 : d.length ≤ 4000
    · rw [decide_eq_false (show ¬ (d.length : Int) > 4000 by omega), if_pos h1]
      simp only [cond_false]
      by_cases h2 : 0 ≤ non ∧ non < (b.nons_.length : Int)
      · rw [decide_eq_false (show ¬ non < 0 by omega), decide_eq_false (show ¬ non ≥ (b.nons_.length : Int) by omega), if_pos h2]
        simp only [cond_false, m_impl_derived_j4]
        rcases derI hn hok h2 h1 with ⟨t, e, hk⟩ | ⟨k, hk, e⟩
        · rw [e, hk]; rfl
        · rw [e, hk]; rfl
      · rw [if_neg h2]
        by_cases h3 : non < 0
        · rw [decide_eq_true h3]; rfl
        · rw [decide_eq_false h3, decide_eq_true (show non ≥ (b.nons_.length : Int) by omega)]; rfl
    · rw [decide_eq_true (show (d.length : Int) > 4000 by omega), if_neg h1]; rfl
theorem good_both {n : Nat} (hn : 1100000 ≤ n) (b : gBnf) (hN : b.nons_.length ≤ 1048576) (non : Int) (d : List Int) : ∃ r, m_spec_Good n b non d = some r ∧ m_impl_Good n b non d = some r := by
  unfold m_spec_Good m_impl_Good
  rw [codesS hn b hN, derivedI hn, Option.bind_some, Option.bind_some]
  by_cases h1 : okB b = true ∧ d.length ≤ 4000
  · rw [if_pos h1, if_pos h1]
    by_cases h2 : 0 ≤ non ∧ non < (b.nons_.length : Int)
    · rw [if_pos h2, if_pos h2]
      simp only [bne_self_eq_false, cond_false]
      rcases readS hn h1.1 h2 h1.2 with ⟨t, e, hk⟩ | ⟨k, hk, e⟩
      · rw [e, hk]
        exact ⟨(false, 2), rfl, rfl⟩
      · rw [e, hk]
        have hd : ∃ a', readB b non d = some (k, a') := by
          unfold derB at hk
          cases hr : readB b non d with
          | none => rw [hr] at hk; cases hk
          | some q =>
            rw [hr] at hk
            simp only at hk
            split at hk
            · cases hk; exact ⟨q.2, rfl⟩
            · cases hk
        obtain ⟨a', hd⟩ := hd
        obtain ⟨_, v, h3, h4⟩ := good_same (Bk_.of h1.1) (d.length + 1) n (by have := h1.2; omega) 0 _ (k, a') hd
        simp only [Option.bind_some, Bool.not_true, cond_false, bne_self_eq_false, h3, h4]
        exact ⟨_, rfl, rfl⟩
    · rw [if_neg h2, if_neg h2]
      exact ⟨(false, 4), rfl, rfl⟩
  · rw [if_neg h1, if_neg h1]
    exact ⟨(false, 1), rfl, rfl⟩
theorem goodL {n : Nat} (hn : 1100000 ≤ n) (b : gBnf) (hB : BB b) (non : Int) (d : List Int) : m_laws_FnExactGood n b non d = some true := by
  unfold m_laws_FnExactGood
  rw [List.length_map]
  by_cases h0 : (d.length : Int) > 1048576
  · rw [decide_eq_true h0]; rfl
  rw [decide_eq_false h0, cond_false, szBnf_ hn hB, Option.bind_some]
  by_cases h1 : lf 1048576 (szB b) < 0
  · rw [decide_eq_true h1]; rfl
  have hs := BS.of (b := b) (by omega)
  rw [decide_eq_false h1, cond_false, toBnf_ hs hn, toIntS_ (by omega) hn]
  obtain ⟨r, e1, e2⟩ := good_both hn b hs.s non d
  simp only [Option.bind_some, e1, e2, beq_self_eq_true, Bool.xor_true, Bool.not_true, cond_false, bne_self_eq_false, eqBnf_ hs hn, eqIntS_ (show d.length ≤ 1048576 by omega) hn]
theorem cGoodLaw (b : gBnf) (hB : BB b) (non : Int) (d : List Int) : FnP Try.prog 3 [b.enc, I non, .lst (d.map I)] [B true] := c_laws_FnExactGood 1100000 b non d true (goodL (Nat.le_refl _) b hB non d)
end Go.Proofs.Ytnnalcglfgapbaa.Z
