/- Numerals. -/
import Derived.Test.YtnnalcglfgapbaaDoorPrA
set_option linter.unusedVariables false
set_option linter.unusedSectionVars false
set_option linter.unusedSimpArgs false
namespace Go.Proofs.YtnnalcglfgapbaaDoor.Z
open Go Go.RowKit Go.Proofs.Sy Go.Proofs
set_option maxRecDepth 100000
def isD (b : UInt8) : Bool := decide (48 ≤ b.toNat ∧ b.toNat ≤ 57)
def val (l : By) : Nat := l.foldl (fun a b => 10 * a + (b.toNat - 48)) 0
theorem val_snoc (a : By) (d : UInt8) : val (a ++ [d]) = 10 * val a + (d.toNat - 48) := by simp [val, List.foldl_append]
structure Canon (l : By) : Prop where
  ne : l ≠ []
  dg : ∀ b ∈ l, isD b = true
  hd : 1 < l.length → l.head? ≠ some 48
theorem Canon.init {a : By} {d : UInt8} (h : Canon (a ++ [d])) (ha : a ≠ []) : Canon a ∧ a.head? ≠ some 48 := by
  have h0 : a.head? ≠ some 48 := by
    have := h.hd (by cases a with | nil => exact absurd rfl ha | cons x a => simp)
    cases a with
    | nil => exact absurd rfl ha
    | cons x a => simpa using this
  exact ⟨⟨ha, fun b hb => h.dg b (by simp [hb]), fun _ => h0⟩, h0⟩
theorem isD_iff {b : UInt8} : isD b = true ↔ 48 ≤ b.toNat ∧ b.toNat ≤ 57 := by unfold isD; simp
theorem val_pos : ∀ (n : Nat) (a : By), a.length = n → Canon a → a.head? ≠ some 48 → 1 ≤ val a
  | 0, a, hn, h, _ => by
    have : a = [] := List.length_eq_zero_iff.mp hn
    exact absurd this h.ne
  | n + 1, a, hn, h, h0 => by
    obtain ⟨i, d, rfl⟩ : ∃ i d, a = i ++ [d] := ⟨a.dropLast, a.getLast h.ne, (List.dropLast_concat_getLast h.ne).symm⟩
    rw [val_snoc]
    cases i with
    | nil =>
      have hd := isD_iff.mp (h.dg d (by simp))
      have : d ≠ 48 := fun e => h0 (by simp [e])
      have : d.toNat ≠ 48 := fun e => this (UInt8.toNat_inj.mp e)
      omega
    | cons x i =>
      obtain ⟨h1, h2⟩ := h.init (by simp)
      have := val_pos n (x :: i) (by simpa using hn) h1 h2
      omega
theorem dec_val : ∀ (n : Nat) (a : By), a.length = n → Canon a → Lib.decDigits (val a) = a
  | 0, a, hn, h => absurd (List.length_eq_zero_iff.mp hn) h.ne
  | n + 1, a, hn, h => by
    obtain ⟨i, d, rfl⟩ : ∃ i d, a = i ++ [d] := ⟨a.dropLast, a.getLast h.ne, (List.dropLast_concat_getLast h.ne).symm⟩
    have hd := isD_iff.mp (h.dg d (by simp))
    have e : ∀ m, m = d.toNat - 48 → UInt8.ofNat (48 + m) = d := by
      rintro m rfl
      rw [show 48 + (d.toNat - 48) = d.toNat by omega]
      simp
    rw [val_snoc]
    cases i with
    | nil =>
      have e0 : val [] = 0 := rfl
      rw [e0, Lib.decDigits, dif_pos (by omega), e _ (by omega)]; rfl
    | cons x i =>
      obtain ⟨h1, h2⟩ := h.init (by simp)
      have hp := val_pos _ (x :: i) rfl h1 h2
      rw [Lib.decDigits, dif_neg (by omega), show (10 * val (x :: i) + (d.toNat - 48)) / 10 = val (x :: i) by omega, show (10 * val (x :: i) + (d.toNat - 48)) % 10 = d.toNat - 48 by omega, dec_val n (x :: i) (by simpa using hn) h1, e _ rfl]
theorem dig_D {m : Nat} (h : m < 10) : isD (UInt8.ofNat (48 + m)) = true ∧ (UInt8.ofNat (48 + m)).toNat = 48 + m := by
  have : (UInt8.ofNat (48 + m)).toNat = 48 + m := by rw [UInt8.toNat_ofNat']; omega
  exact ⟨isD_iff.mpr (by omega), this⟩
theorem canon_dec (v : Nat) : Canon (Lib.decDigits v) ∧ val (Lib.decDigits v) = v ∧ (1 ≤ v → (Lib.decDigits v).head? ≠ some 48) := by
  induction v using Nat.strongRecOn with
  | _ v ih =>
    rw [Lib.decDigits]
    split
    · rename_i h
      obtain ⟨h1, h2⟩ := dig_D h
      refine ⟨⟨by simp, by simpa using h1, by simp⟩, by show 10 * 0 + ((UInt8.ofNat (48 + v)).toNat - 48) = v; omega, fun hv hh => ?_⟩
      have e : UInt8.ofNat (48 + v) = 48 := by simpa using hh
      rw [e] at h2
      have : (48 : UInt8).toNat = 48 := rfl
      omega
    · rename_i h
      obtain ⟨⟨i1, i2, i3⟩, i4, i5⟩ := ih (v / 10) (by omega)
      obtain ⟨h1, h2⟩ := dig_D (show v % 10 < 10 by omega)
      have hh : (Lib.decDigits (v / 10) ++ [UInt8.ofNat (48 + v % 10)]).head? ≠ some 48 := by
        have := i5 (by omega)
        cases hd : Lib.decDigits (v / 10) with
        | nil => exact absurd hd i1
        | cons x l => rw [hd] at this; simpa using this
      refine ⟨⟨by simp, fun b hb => ?_, fun _ => hh⟩, by rw [val_snoc, i4, h2]; omega, fun _ => hh⟩
      rcases List.mem_append.mp hb with hb | hb
      · exact i2 b hb
      · rw [List.mem_singleton.mp hb]; exact h1
theorem dec_len' : ∀ (k u : Nat), u < 10 ^ (k + 1) → (Lib.decDigits u).length ≤ k + 1
  | 0, u, h => by
    rw [Lib.decDigits, dif_pos (by simpa using h)]; simp
  | k + 1, u, h => by
    rw [Lib.decDigits]
    split
    · simp
    · have := dec_len' k (u / 10) (by rw [Nat.pow_succ] at h; omega)
      rw [List.length_append, List.length_singleton]
      omega
theorem val_lt : ∀ (n : Nat) (a : By), a.length = n → (∀ b ∈ a, isD b = true) → val a < 10 ^ n
  | 0, a, hn, h => by
    have : a = [] := List.length_eq_zero_iff.mp hn
    subst this; simp [val]
  | n + 1, a, hn, h => by
    have ne : a ≠ [] := by intro e; subst e; simp at hn
    obtain ⟨i, d, rfl⟩ : ∃ i d, a = i ++ [d] := ⟨a.dropLast, a.getLast ne, (List.dropLast_concat_getLast ne).symm⟩
    have hd := isD_iff.mp (h d (by simp))
    have := val_lt n i (by simpa using hn) (fun b hb => h b (by simp [hb]))
    rw [val_snoc, Nat.pow_succ]
    omega
end Go.Proofs.YtnnalcglfgapbaaDoor.Z
