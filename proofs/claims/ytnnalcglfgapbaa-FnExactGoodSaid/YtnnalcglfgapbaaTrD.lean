/- Trees: the text of a tree, its number (spec). -/
import Derived.Test.YtnnalcglfgapbaaTrC
set_option linter.unusedVariables false
set_option linter.unusedSimpArgs false
namespace Go.Proofs.Ytnnalcglfgapbaa.Z
open Go Go.RowKit Go.Proofs.Sy Go.Proofs
set_option maxRecDepth 100000
def bl (l : List UInt8) : List PV := l.map fun b => U8 b.toNat
def qb (b : UInt8) : List UInt8 := if b.toNat = 34 ∨ b.toNat = 92 then [92, b] else if 32 ≤ b.toNat ∧ b.toNat ≤ 126 then [b] else [92, UInt8.ofNat (48 + b.toNat / 100), UInt8.ofNat (48 + b.toNat / 10 % 10), UInt8.ofNat (48 + b.toNat % 10)]
def quote (s : ByteArray) : ByteArray := ⟨(34 :: (s.data.toList.flatMap qb ++ [34])).toArray⟩
theorem bl_len (l : List UInt8) : (bl l).length = l.length := List.length_map ..
theorem bl_app (l r : List UInt8) : bl (l ++ r) = bl l ++ bl r := List.map_append ..
theorem qb_len (b : UInt8) : (qb b).length ≤ 4 := by
  unfold qb
  split
  · simp
  · split <;> simp
theorem bt_drop {s : ByteArray} {i : Int} (h0 : 0 ≤ i) (h : i < s.size) : ∃ b : UInt8, bt s i = (b.toNat : Int) ∧ s.data.toList.drop i.toNat = b :: s.data.toList.drop (i + 1).toNat := by
  have e : s.size = s.data.toList.length := by rw [Array.length_toList]; rfl
  have hlt : i.toNat < s.size := by omega
  refine ⟨s[i.toNat], by unfold bt; rw [dif_pos hlt], ?_⟩
  rw [List.drop_eq_getElem_cons (by omega), show (i + 1).toNat = i.toNat + 1 by omega]
  rfl
theorem drop_all {s : ByteArray} {i : Int} (h : (s.size : Int) ≤ i) : s.data.toList.drop i.toNat = [] := by
  have e : s.size = s.data.toList.length := by rw [Array.length_toList]; rfl
  exact List.drop_eq_nil_of_le (by omega)
theorem row_all (l : List UInt8) : 0 + l.length ≤ (bl l).length ∧ ((bl l).drop 0).take l.length = bl l := by
  rw [bl_len]
  exact ⟨by omega, List.take_of_length_le (by rw [List.length_drop, bl_len]; omega)⟩
theorem fits1 : ∀ {l : List PV}, (∀ x ∈ l, x.fit 1) → fits 1 l
  | [], _ => trivial
  | x :: l, h => ⟨h x (List.mem_cons_self ..), fits1 fun y hy => h y (List.mem_cons_of_mem _ hy)⟩
theorem fits_bl (l : List UInt8) : fits 1 (bl l) := fits1 fun x hx => by
  obtain ⟨b, _, rfl⟩ := List.mem_map.mp hx
  exact ⟨rfl, rfl⟩
theorem appfit (n m : Nat) (h : n + m ≤ 100000000000000) : (n + m) * 1 ≤ 140737488355328 ∧ n + m ≤ 9223372036854775807 := ⟨by omega, by omega⟩
theorem wr8 (n : Int) (h : 0 ≤ n ∧ n < 256) : wr .u8 n = n := by
  simp only [wr, IntKind.wrap]
  have e : IntKind.u8.bits = 8 := rfl
  have e2 : IntKind.u8.signed = false := rfl
  rw [e, e2]
  simp
  omega
theorem row_all' (l : List PV) (n : Nat) (h : n = l.length := by rfl) : 0 + n ≤ l.length ∧ (l.drop 0).take n = l := by
  subst h; exact ⟨by omega, List.take_of_length_le (by simp)⟩
theorem u8_of (n : Nat) (h : n < 256) : ((UInt8.ofNat n).toNat : Int) = n := by rw [UInt8.toNat_ofNat']; omega
theorem dig (b : UInt8) : bl [92, UInt8.ofNat (48 + b.toNat / 100), UInt8.ofNat (48 + b.toNat / 10 % 10), UInt8.ofNat (48 + b.toNat % 10)] = [U8 92, U8 (wr .u8 (48 + wr .u8 (Int.tdiv b.toNat 100))), U8 (wr .u8 (48 + Int.tmod (wr .u8 (Int.tdiv b.toNat 10)) 10)), U8 (wr .u8 (48 + Int.tmod b.toNat 10))] := by
  have hb : b.toNat < 256 := b.toNat_lt
  rw [Int.tdiv_eq_ediv_of_nonneg (by omega), Int.tdiv_eq_ediv_of_nonneg (by omega), Int.tmod_eq_emod_of_nonneg (a := (b.toNat : Int)) (by omega), wr8 (↑b.toNat / 100) (by omega), wr8 (↑b.toNat / 10) (by omega), Int.tmod_eq_emod_of_nonneg (by omega), wr8 _ (by omega), wr8 _ (by omega), wr8 _ (by omega)]
  simp only [bl, List.map_cons, List.map_nil]
  rw [u8_of _ (by omega), u8_of _ (by omega), u8_of _ (by omega)]
  rfl
end Go.Proofs.Ytnnalcglfgapbaa.Z
