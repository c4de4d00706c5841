/- ProgramOK of the reference, plain; lines. -/
import Derived.Test.YtnnalcglfgapbaaDoorQsB
set_option linter.unusedVariables false
set_option linter.unusedSectionVars false
set_option linter.unusedSimpArgs false
namespace Go.Proofs.YtnnalcglfgapbaaDoor.Z
open Go Go.RowKit Go.Proofs.Sy Go.Proofs
set_option maxRecDepth 100000
theorem cNot (b : Bool) {α : Type} (x y : α) : (bif !b then x else y) = bif b then y else x := by cases b <;> rfl
theorem cA {α : Type} (a b : Bool) (x y : α) : (bif (a && b) then x else y) = bif a then (bif b then x else y) else y := by cases a <;> rfl
theorem step_S (n : Nat) (v : Int) (rec : Int → Option Bool) (x : gIns) (len : Int) (hl : 1 ≤ len ∧ len ≤ 50000) :
    ((m_spec_l17HasTo n x.op_).bind fun r => bif r then m_spec_ProgramOK_j21 n v rec x (wr .i64 (len - 1)) else m_spec_ProgramOK_j21 n v rec x 0) = bif okI len x then rec (wr .i64 (v + 1)) else some false := by
  obtain ⟨op, k, tt⟩ := x
  rw [hasToS, Option.bind_some, wid (n := len - 1) (by omega)]
  unfold m_spec_ProgramOK_j21 okI m_spec_ProgramOK_j20
  simp only [btwS, Option.bind_some, cNot, hasNS]
  generalize rec (wr .i64 (v + 1)) = R
  by_cases h : 1 ≤ op ∧ op ≤ 10
  · rcases ten h with rfl | rfl | rfl | rfl | rfl | rfl | rfl | rfl | rfl | rfl <;>
      simp [cN, cE, cD, cA] <;> grind
  · have e : (decide (1 ≤ op) && decide (op ≤ 10)) = false := by grind
    rw [e, decide_eq_false h]
    cases decide (5 ≤ op ∧ op ≤ 8) <;> rfl
theorem okp_S {n : Nat} (hn : 100000 ≤ n) (p : List gIns) : m_spec_ProgramOK n p = some (okP p) := by
  unfold m_spec_ProgramOK okP
  rw [List.length_map, btwS, Option.bind_some]
  by_cases h1 : 1 ≤ p.length ∧ p.length ≤ 50000
  · rw [decide_eq_true h1, decide_eq_true (show (1 : Int) ≤ p.length by omega), decide_eq_true (show (p.length : Int) ≤ 50000 by omega)]
    simp only [Bool.true_and, Bool.and_self, Bool.not_true, cond_false]
    rw [loop_all0 p (fun _ x => okI p.length x) (some false) (m_spec_ProgramOK_l18 n p) (some (lastOK p)) n (by omega) (fun k pre x r h => by
        have hl2 : p.length = pre.length + (r.length + 1) := by rw [h]; simp
        rw [m_spec_ProgramOK_l18, List.length_map, decide_eq_true (by omega)]
        have ei : ix p (pre.length : Int) = some x := by rw [h, ixp]
        simp only [cond_true, ei, Option.bind_some]
        rw [step_S n _ _ x _ (by omega), wln pre x (by omega)]) (fun k => by
        rw [m_spec_ProgramOK_l18, List.length_map, decide_eq_false (by omega)]
        unfold m_spec_ProgramOK_j11 lastOK
        rw [List.length_map, ix_last (by omega) (by omega), cond_false]
        obtain ⟨x, hx⟩ : ∃ x, p.getLast? = some x := by
          cases h : p.getLast? with
          | none => rw [List.getLast?_eq_none_iff] at h; subst h; simp at h1
          | some x => exact ⟨x, rfl⟩
        rw [hx, Option.bind_some]
        simp only [m_spec_l17Goes, cN]
        grind), allP_all]
    cases p.all (okI p.length) <;> rfl
  · rw [decide_eq_false h1]
    have e : (decide ((1 : Int) ≤ p.length) && decide ((p.length : Int) ≤ 50000)) = false := by grind
    rw [e]; rfl
/-- Numerals. -/
theorem dec_len : ∀ (k u : Nat), u < 10 ^ (k + 1) → (Lib.decDigits u).length ≤ k + 1
  | 0, u, h => by
    rw [Lib.decDigits, dif_pos (by simpa using h)]; simp
  | k + 1, u, h => by
    rw [Lib.decDigits]
    split
    · simp
    · have := dec_len k (u / 10) (by rw [Nat.pow_succ] at h; omega)
      rw [List.length_append, List.length_singleton]
      omega
theorem u8of {m : Int} (h0 : 0 ≤ m) (h1 : m < 10) : toU8 (wr .u8 (wr .i64 (48 + m))) = some (UInt8.ofNat (48 + m.toNat)) := by
  rw [wid (n := 48 + m) (by omega)]
  have : wr .u8 (48 + m) = 48 + m := by
    rw [wr_eq]
    have : m = 0 ∨ m = 1 ∨ m = 2 ∨ m = 3 ∨ m = 4 ∨ m = 5 ∨ m = 6 ∨ m = 7 ∨ m = 8 ∨ m = 9 := by omega
    rcases this with rfl | rfl | rfl | rfl | rfl | rfl | rfl | rfl | rfl | rfl <;> rfl
  rw [this]
  unfold toU8
  rw [if_pos (by omega)]
  congr 2
  omega
theorem digS : ∀ (k u n : Nat), u < 10 ^ (k + 1) → k ≤ 12 → k < n → m_spec_l01Digits n (u : Int) = some (ofL (Lib.decDigits u)) := by
  intro k
  induction k with
  | zero =>
    intro u n h hk hn
    obtain ⟨n, rfl⟩ : ∃ m, n = m + 1 := ⟨n - 1, by omega⟩
    rw [m_spec_l01Digits, decide_eq_false (by omega), decide_eq_true (show (u : Int) < 10 by simp at h; omega), Lib.decDigits, dif_pos (by simpa using h), u8of (by omega) (by simp at h; omega)]
    simp
  | succ k ih =>
    intro u n h hk hn
    obtain ⟨n, rfl⟩ : ∃ m, n = m + 1 := ⟨n - 1, by omega⟩
    have hu : u < 100000000000000 := Nat.lt_of_lt_of_le h (Nat.pow_le_pow_right (show 0 < 10 by decide) (show k + 1 + 1 ≤ 14 by omega))
    rw [m_spec_l01Digits, decide_eq_false (by omega), Lib.decDigits]
    by_cases h1 : u < 10
    · rw [decide_eq_true (show (u : Int) < 10 by omega), dif_pos h1, u8of (by omega) (by omega)]
      simp
    · rw [decide_eq_false (show ¬ (u : Int) < 10 by omega), dif_neg h1]
      have e1 : (u : Int).tdiv 10 = ((u / 10 : Nat) : Int) := by rfl
      have e2 : (u : Int).tmod 10 = ((u % 10 : Nat) : Int) := by rfl
      have h3 : u / 10 < 10 ^ (k + 1) := by rw [Nat.pow_succ] at h; omega
      simp only [cond_false]
      rw [e1, e2, wid (n := ((u / 10 : Nat) : Int)) (by clear e1 e2; omega), ih (u / 10) n h3 (by omega) (by omega), Option.bind_some, u8of (by omega) (by omega), Option.bind_some]
      clear e1 e2
      have hl := dec_len k _ h3
      rw [gp_pos]
      · congr 1
      · show (((Lib.decDigits (u / 10)).toArray.size + 1 : Nat) : Int) ≤ _
        rw [List.size_toArray]
        omega
end Go.Proofs.YtnnalcglfgapbaaDoor.Z
