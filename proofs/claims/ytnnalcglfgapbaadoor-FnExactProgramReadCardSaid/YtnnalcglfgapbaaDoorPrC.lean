/- Numerals: what both sides read. -/
import Derived.Test.YtnnalcglfgapbaaDoorPrB
set_option linter.unusedVariables false
set_option linter.unusedSectionVars false
set_option linter.unusedSimpArgs false
namespace Go.Proofs.YtnnalcglfgapbaaDoor.Z
open Go Go.RowKit Go.Proofs.Sy Go.Proofs
set_option maxRecDepth 100000
theorem bt_of (pre : By) (b : UInt8) (r : By) : bt (ofL (pre ++ b :: r)) (pre.length : Int) = (b.toNat : Int) := by
  unfold bt
  have h : (pre.length : Int).toNat < (ofL (pre ++ b :: r)).size := by rw [ofL_size]; simp
  rw [dif_pos h]
  have : (ofL (pre ++ b :: r))[(pre.length : Int).toNat]'h = b := by
    show (pre ++ b :: r).toArray[(pre.length : Int).toNat]'(by simp) = b
    simp
  rw [this]
theorem wu8 {n : Int} (h : 0 ≤ n ∧ n ≤ 255) : wr .u8 n = n := by
  rw [wr_eq]
  simp only [IntKind.wrap, IntKind.signed, IntKind.bits]
  show (n % 256 : Int) = n
  omega
def dI (b : UInt8) : Option Bool := some (isD b)
theorem isDig_I (n : Nat) (b : UInt8) : m_impl_isDigit n (b.toNat : Int) = some (isD b) := by
  unfold m_impl_isDigit isD
  by_cases h : (b.toNat : Int) ≥ 48
  · rw [decide_eq_true h, cond_true]
    congr 1
    exact decide_eq_decide.mpr ⟨fun _ => by omega, fun _ => by omega⟩
  · rw [decide_eq_false h, cond_false, decide_eq_false (by omega)]
theorem isDig_S (n : Nat) (b : UInt8) : m_spec_l01Digit n (b.toNat : Int) = some (isD b) := isDig_I n b
def canonB (l : By) : Bool := decide (1 ≤ l.length ∧ l.length ≤ 6) && (!(decide (1 < l.length) && (l.headD 0 == 48)) && l.all isD)
theorem val_le {l : By} (h : ∀ b ∈ l, isD b = true) (hl : l.length ≤ 6) : val l < 1000000 := by
  have h1 := val_lt l.length l rfl h
  have : 10 ^ l.length ≤ 10 ^ 6 := Nat.pow_le_pow_right (by decide) hl
  omega
theorem decLoop (n : Nat) (l : By) (hl : l.length ≤ 6) : ∀ (r pre : By) (k : Nat), l = pre ++ r → r.length < k → (∀ b ∈ pre, isD b = true) →
    m_impl_decimal_l5 n (ofL l) k (val pre : Int) (pre.length : Int) = some (if r.all isD = true then ((val l : Int), true) else (0, false))
  | [], pre, k, h, hk, hp => by
    obtain ⟨k, rfl⟩ : ∃ m, k = m + 1 := ⟨k - 1, by simp at hk; omega⟩
    have : pre = l := by simpa using h.symm
    subst this
    rw [m_impl_decimal_l5, ofL_size, decide_eq_false (by omega)]; rfl
  | b :: r, pre, k, h, hk, hp => by
    obtain ⟨k, rfl⟩ : ∃ m, k = m + 1 := ⟨k - 1, by simp at hk; omega⟩
    have hl2 : l.length = pre.length + (r.length + 1) := by rw [h]; simp
    have eb : bt (ofL l) (pre.length : Int) = (b.toNat : Int) := by rw [h, bt_of]
    rw [m_impl_decimal_l5, ofL_size, decide_eq_true (by omega), cond_true, gp_pos (by omega), eb, isDig_I, Option.bind_some, List.all_cons]
    cases hb : isD b with
    | false => rfl
    | true =>
      have hd := isD_iff.mp hb
      have hv := val_le hp (by omega)
      have hp2 : ∀ x ∈ pre ++ [b], isD x = true := fun x hx => by
        rcases List.mem_append.mp hx with hx | hx
        · exact hp x hx
        · rw [List.mem_singleton.mp hx]; exact hb
      have e : wr .i64 ((wr .i64 ((val pre : Int) * 10)) + (wr .i64 (wr .u8 ((b.toNat : Int) - 48)))) = ((val (pre ++ [b]) : Nat) : Int) := by
        rw [wu8 (by omega), wid (n := (val pre : Int) * 10) (by omega), wid (n := (b.toNat : Int) - 48) (by omega), wid (by omega), val_snoc]
        omega
      rw [Bool.not_true, cond_false, gp_pos (by omega), e, wln pre b (by omega), Bool.true_and]
      exact decLoop n l hl r (pre ++ [b]) k (by rw [h]; simp) (by simp at hk; omega) hp2
theorem decimalI {n : Nat} (hn : 100 ≤ n) (l : By) (hl : l.length ≤ 400000) : m_impl_decimal n (ofL l) = some (if canonB l = true then ((val l : Int), true) else (0, false)) := by
  have hlp : l.length ≤ 6 → m_impl_decimal_l5 n (ofL l) n 0 0 = some (if l.all isD = true then ((val l : Int), true) else (0, false)) := fun h => decLoop n l h l [] n rfl (by omega) (by simp)
  unfold m_impl_decimal m_impl_decimal_j2 canonB
  rw [ofL_size]
  by_cases h1 : l.length < 1
  · rw [decide_eq_true (show (l.length : Int) < 1 by omega), decide_eq_false (show ¬ (1 ≤ l.length ∧ l.length ≤ 6) by omega)]; rfl
  by_cases h2 : 6 < l.length
  · rw [decide_eq_false (show ¬ (l.length : Int) < 1 by omega), decide_eq_true (show (l.length : Int) > 6 by omega), decide_eq_false (show ¬ (1 ≤ l.length ∧ l.length ≤ 6) by omega)]; rfl
  rw [decide_eq_false (show ¬ (l.length : Int) < 1 by omega), decide_eq_false (show ¬ (l.length : Int) > 6 by omega), decide_eq_true (show 1 ≤ l.length ∧ l.length ≤ 6 by omega), hlp (by omega)]
  simp only [cond_false, Bool.true_and]
  by_cases h3 : 1 < l.length
  · rw [decide_eq_true (show (l.length : Int) > 1 by omega), decide_eq_true h3, cond_true, gp_pos (by omega)]
    cases l with
    | nil => simp at h1
    | cons b r =>
      have eb : bt (ofL (b :: r)) 0 = (b.toNat : Int) := bt_of [] b r
      rw [eb, List.headD_cons]
      have : ((b.toNat : Int) == 48) = (b == 48) := by
        by_cases e : b = 48
        · subst e; rfl
        · have : ¬ (b.toNat : Int) = 48 := fun h => e (UInt8.toNat_inj.mp (by have : (48 : UInt8).toNat = 48 := rfl; omega))
          rw [beq_eq_false_iff_ne.mpr e, beq_eq_false_iff_ne.mpr this]
      rw [this]
      cases (b == 48) <;> simp
  · rw [decide_eq_false (show ¬ (l.length : Int) > 1 by omega), decide_eq_false h3]
    simp
end Go.Proofs.YtnnalcglfgapbaaDoor.Z
