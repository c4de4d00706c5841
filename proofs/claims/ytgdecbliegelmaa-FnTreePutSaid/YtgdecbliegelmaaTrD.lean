/- Trees: the text of a tree, its number (spec). -/
import Derived.Test.YtgdecbliegelmaaTrC
set_option linter.unusedVariables false
set_option linter.unusedSimpArgs false
namespace Go.Proofs.Ytgdecbliegelmaa.Z
open Go Go.RowKit Go.Proofs.Sy Go.Proofs
set_option maxRecDepth 100000
def bl (l : List UInt8) : List PV := l.map fun b => U8 b.toNat
def qb (b : UInt8) : List UInt8 := if b.toNat = 34 ∨ b.toNat = 92 then [92, b] else if 32 ≤ b.toNat ∧ b.toNat ≤ 126 then [b] else [92, UInt8.ofNat (48 + b.toNat / 100), UInt8.ofNat (48 + b.toNat / 10 % 10), UInt8.ofNat (48 + b.toNat % 10)]
def quote (s : ByteArray) : ByteArray := ⟨(34 :: (s.data.toList.flatMap qb ++ [34])).toArray⟩
theorem bl_len (l : List UInt8) : (bl l).length = l.length := List.length_map ..
theorem bl_app (l r : List UInt8) : bl (l ++ r) = bl l ++ bl r := List.map_append ..
theorem qb_len (b : UInt8) : (qb b).length ≤ 4 := by
  unfold qb
  split
  · simp
  · split <;> simp
theorem bt_drop {s : ByteArray} {i : Int} (h0 : 0 ≤ i) (h : i < s.size) : ∃ b : UInt8, bt s i = (b.toNat : Int) ∧ s.data.toList.drop i.toNat = b :: s.data.toList.drop (i + 1).toNat := by
  have e : s.size = s.data.toList.length := by rw [Array.length_toList]; rfl
  have hlt : i.toNat < s.size := by omega
  refine ⟨s[i.toNat], by unfold bt; rw [dif_pos hlt], ?_⟩
  rw [List.drop_eq_getElem_cons (by omega), show (i + 1).toNat = i.toNat + 1 by omega]
  rfl
theorem drop_all {s : ByteArray} {i : Int} (h : (s.size : Int) ≤ i) : s.data.toList.drop i.toNat = [] := by
  have e : s.size = s.data.toList.length := by rw [Array.length_toList]; rfl
  exact List.drop_eq_nil_of_le (by omega)
theorem row_all (l : List UInt8) : 0 + l.length ≤ (bl l).length ∧ ((bl l).drop 0).take l.length = bl l := by
  rw [bl_len]
  exact ⟨by omega, List.take_of_length_le (by rw [List.length_drop, bl_len]; omega)⟩
theorem fits1 : ∀ {l : List PV}, (∀ x ∈ l, x.fit 1) → fits 1 l
  | [], _ => trivial
  | x :: l, h => ⟨h x (List.mem_cons_self ..), fits1 fun y hy => h y (List.mem_cons_of_mem _ hy)⟩
theorem fits_bl (l : List UInt8) : fits 1 (bl l) := fits1 fun x hx => by
  obtain ⟨b, _, rfl⟩ := List.mem_map.mp hx
  exact ⟨rfl, rfl⟩
theorem appfit (n m : Nat) (h : n + m ≤ 100000000000000) : (n + m) * 1 ≤ 140737488355328 ∧ n + m ≤ 9223372036854775807 := ⟨by omega, by omega⟩
theorem wr8 (n : Int) (h : 0 ≤ n ∧ n < 256) : wr .u8 n = n := by
  simp only [wr, IntKind.wrap]
  have e : IntKind.u8.bits = 8 := rfl
  have e2 : IntKind.u8.signed = false := rfl
  rw [e, e2]
  simp
  omega
theorem row_all' (l : List PV) (n : Nat) (h : n = l.length := by rfl) : 0 + n ≤ l.length ∧ (l.drop 0).take n = l := by
  subst h; exact ⟨by omega, List.take_of_length_le (by simp)⟩
theorem u8_of (n : Nat) (h : n < 256) : ((UInt8.ofNat n).toNat : Int) = n := by rw [UInt8.toNat_ofNat']; omega
theorem dig (b : UInt8) : bl [92, UInt8.ofNat (48 + b.toNat / 100), UInt8.ofNat (48 + b.toNat / 10 % 10), UInt8.ofNat (48 + b.toNat % 10)] = [U8 92, U8 (wr .u8 (48 + wr .u8 (Int.tdiv b.toNat 100))), U8 (wr .u8 (48 + Int.tmod (wr .u8 (Int.tdiv b.toNat 10)) 10)), U8 (wr .u8 (48 + Int.tmod b.toNat 10))] := by
  have hb : b.toNat < 256 := b.toNat_lt
  rw [Int.tdiv_eq_ediv_of_nonneg (by omega), Int.tdiv_eq_ediv_of_nonneg (by omega), Int.tmod_eq_emod_of_nonneg (a := (b.toNat : Int)) (by omega), wr8 (↑b.toNat / 100) (by omega), wr8 (↑b.toNat / 10) (by omega), Int.tmod_eq_emod_of_nonneg (by omega), wr8 _ (by omega), wr8 _ (by omega), wr8 _ (by omega)]
  simp only [bl, List.map_cons, List.map_nil]
  rw [u8_of _ (by omega), u8_of _ (by omega), u8_of _ (by omega)]
  rfl
theorem sQuote (s : ByteArray) (hs : s.size ≤ 1099511627776) : FnP Try.prog 108 [S s] [S (quote s)] := by
  refine fn_intro Try.func108 rfl rfl rfl ?_
  refine And.intro (by trivial) ?_
  refine ⟨Int × List UInt8, fun x => ([(0, .p (S s)), (3, .row 0 1 0 x.2.length), (4, .p (I x.1))], [.row 5 1 (bl x.2)]),
    fun x n => 0 ≤ x.1 ∧ x.1 ≤ s.size ∧ x.2.length ≤ 1 + 4 * x.1 ∧ n = (s.size - x.1).toNat ∧ x.2 ++ (s.data.toList.drop x.1.toNat).flatMap qb = 34 :: s.data.toList.flatMap qb,
    ⟨(0, [34]), _, ⟨by simp, by simp, by simp, rfl, by simp⟩, [], ⟨rfl, rfl, rfl, trivial⟩, ⟨rfl, trivial⟩, rfl⟩, ?_⟩
  rintro ⟨i, l⟩ n ⟨h0, h1, h2, rfl, hr⟩
  simp only at h0 h1 h2 hr
  refine And.intro (fun c => ?_) (fun c => ?_) <;> simp only [decide_eq_true_eq, decide_eq_false_iff_not] at c
  · refine And.intro ⟨h0, c⟩ ?_
    obtain ⟨b, hb, hd⟩ := bt_drop h0 c
    rw [hd, List.flatMap_cons] at hr
    have hq := qb_len b
    rw [hb]
    repeat' first
      | (refine And.intro (fun c => ?_) (fun c => ?_) <;> first | exact absurd c (by decide) | (cases c; done) | (simp only [decide_eq_true_eq, decide_eq_false_iff_not] at c) | skip)
      | refine And.intro (show (_ : Int) ≠ 0 by decide) ?_
      | refine And.intro (show fits _ _ by repeat' constructor) ?_
      | refine Exists.intro _ (And.intro ⟨show 0 + _ ≤ List.length _ from Nat.le_of_eq rfl, rfl⟩ ?_)
      | fail
    all_goals refine Exists.intro (bl l) ?_
    all_goals refine And.intro ⟨(row_all l).1, (row_all l).2, by repeat' constructor, appfit l.length _ (by first | omega | (simp only [List.length_cons, List.length_nil]; omega) | (show l.length + 2 ≤ _; omega) | (show l.length + 1 ≤ _; omega) | (show l.length + 4 ≤ _; omega))⟩ ?_
    all_goals refine ⟨(i + 1, l ++ qb b), _, ⟨by simp; omega, by simp; omega, by simp; omega, rfl, by simpa using hr⟩, by simp; omega, [], ⟨rfl, ?_, congrArg (fun x => AV.p (I x)) (w64 (by omega)).symm, trivial⟩, ⟨?_, trivial⟩, rfl⟩
    all_goals first
      | (have hqb : qb b = [92, b] := by grind [qb])
      | (have hqb : qb b = [b] := by grind [qb])
      | (have hqb : qb b = [92, UInt8.ofNat (48 + b.toNat / 100), UInt8.ofNat (48 + b.toNat / 10 % 10), UInt8.ofNat (48 + b.toNat % 10)] := by grind [qb])
      | fail
    all_goals first
      | exact congrArg (AV.row 0 1 0) (by rw [List.length_append, hqb]; rfl)
      | exact congrArg (Bk.row _ 1) (by rw [bl_app, hqb]; rfl)
      | (refine congrArg (Bk.row _ 1) (by rw [bl_app, hqb]; exact congrArg (bl l ++ ·) (dig b)))
      | fail
  · rw [drop_all (by omega)] at hr
    simp only [List.flatMap_nil, List.append_nil] at hr
    refine And.intro (by repeat' constructor) ?_
    refine Exists.intro _ (And.intro ⟨show 0 + _ ≤ List.length _ from Nat.le_of_eq rfl, rfl⟩ ?_)
    refine Exists.intro (bl l) ?_
    refine And.intro ⟨(row_all l).1, (row_all l).2, by repeat' constructor, appfit l.length _ (by first | omega | (simp only [List.length_cons, List.length_nil]; omega) | (show l.length + 2 ≤ _; omega) | (show l.length + 1 ≤ _; omega) | (show l.length + 4 ≤ _; omega))⟩ ?_
    refine Exists.intro (bl (l ++ [34])) ?_
    refine And.intro (by rw [bl_app]; exact row_all' _ _ (by simp [bl_len])) ?_
    refine Exists.intro (quote s) (And.intro (by rw [hr]; rfl) ?_)
    exact ⟨[], ⟨trivial, rfl⟩, rfl, rfl⟩
end Go.Proofs.Ytgdecbliegelmaa.Z
