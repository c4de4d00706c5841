/- Words for printed models where the seat has no trees: bytes. -/
import Derived.Test.YtnnalcglfgapbaaDoorSyR
import Derived.Test.YtnnalcglfgapbaaDoorProg
set_option linter.unusedVariables false
set_option linter.unusedSimpArgs false
namespace Go.Proofs.YtnnalcglfgapbaaDoor.Z
open Go Go.RowKit Go.Proofs.Sy Go.Proofs
set_option maxRecDepth 100000
abbrev U8 (b : Int) : PV := .raw (.int .u8 b)
theorem w64 {n : Int} (h : -9223372036854775808 ≤ n ∧ n ≤ 9223372036854775807) : wrap64 n = n := by unfold wrap64; omega
def bl (l : List UInt8) : List PV := l.map fun b => U8 b.toNat
theorem bl_len (l : List UInt8) : (bl l).length = l.length := List.length_map ..
theorem bl_app (l r : List UInt8) : bl (l ++ r) = bl l ++ bl r := List.map_append ..
theorem row_all (l : List UInt8) : 0 + l.length ≤ (bl l).length ∧ ((bl l).drop 0).take l.length = bl l := by
  rw [bl_len]
  exact ⟨by omega, List.take_of_length_le (by rw [List.length_drop, bl_len]; omega)⟩
theorem fits1 : ∀ {l : List PV}, (∀ x ∈ l, x.fit 1) → fits 1 l
  | [], _ => trivial
  | x :: l, h => ⟨h x (List.mem_cons_self ..), fits1 fun y hy => h y (List.mem_cons_of_mem _ hy)⟩
theorem fits_bl (l : List UInt8) : fits 1 (bl l) := fits1 fun x hx => by
  obtain ⟨b, _, rfl⟩ := List.mem_map.mp hx
  exact ⟨rfl, rfl⟩
theorem appfit (n m : Nat) (h : n + m ≤ 100000000000000) : (n + m) * 1 ≤ 140737488355328 ∧ n + m ≤ 9223372036854775807 := ⟨by omega, by omega⟩
theorem row_all' (l : List PV) (n : Nat) (h : n = l.length := by rfl) : 0 + n ≤ l.length ∧ (l.drop 0).take n = l := by
  subst h; exact ⟨by omega, List.take_of_length_le (by simp)⟩
def tget {κ α : Type} [DecidableEq κ] : List (κ × α) → κ → Option α
  | [], _ => none
  | (k', x) :: r, k => if k' = k then some x else tget r k
def tput {κ α : Type} [DecidableEq κ] : List (κ × α) → κ → α → List (κ × α)
  | [], k, y => [(k, y)]
  | (k', x) :: r, k, y => if k' = k then (k', y) :: r else (k', x) :: tput r k y
def mS {α : Type} (e : α → PV) (x : ByteArray × α) : Value × PV := (.string x.1, e x.2)
def mI {α : Type} (e : α → PV) (x : Int × α) : Value × PV := (.int .i64 x.1, e x.2)
def optc {α β : Type} (o : Option α) (f : α → β) (b : β) : β := match o with
  | some x => f x
  | none => b
theorem ocs {α β : Type} {o : Option α} {f : α → β} {b r : β} {x : α} (h : optc o f b = r) (e : o = some x) : f x = r := by subst e; exact h
theorem ocn {α β : Type} {o : Option α} {f : α → β} {b r : β} (h : optc o f b = r) (e : o = none) : b = r := by subst e; exact h
theorem mget_mS {α : Type} (e : α → PV) (k : ByteArray) : ∀ l : List (ByteArray × α), mget (l.map (mS e)) (.string k) = (tget l k).map e
  | [] => rfl
  | (k', x) :: r => by
    by_cases h : k' = k
    · simp [mS, mget, tget, keyEq, h]
    · have := mget_mS e k r
      simp only [List.map_cons, mS, mget, tget, keyEq, h, decide_false, cond_false, if_false]
      exact this
theorem mget_mI {α : Type} (e : α → PV) (k : Int) : ∀ l : List (Int × α), mget (l.map (mI e)) (.int .i64 k) = (tget l k).map e
  | [] => rfl
  | (k', x) :: r => by
    by_cases h : k' = k
    · simp [mI, mget, tget, keyEq, h]
    · have := mget_mI e k r
      simp only [List.map_cons, mI, mget, tget, keyEq, h, decide_true, decide_false, Bool.and_false, cond_false, if_false]
      exact this
theorem mgS {α : Type} {e : α → PV} {k : ByteArray} {l : List (ByteArray × α)} {y : PV} (h : mget (l.map (mS e)) (.string k) = some y) : ∃ x, tget l k = some x ∧ y = e x := by
  rw [mget_mS] at h
  obtain ⟨x, h1, h2⟩ := Option.map_eq_some_iff.mp h
  exact ⟨x, h1, h2.symm⟩
theorem mgSn {α : Type} {e : α → PV} {k : ByteArray} {l : List (ByteArray × α)} (h : mget (l.map (mS e)) (.string k) = none) : tget l k = none := by
  rw [mget_mS] at h
  exact Option.map_eq_none_iff.mp h
theorem mgI {α : Type} {e : α → PV} {k : Int} {l : List (Int × α)} {y : PV} (h : mget (l.map (mI e)) (.int .i64 k) = some y) : ∃ x, tget l k = some x ∧ y = e x := by
  rw [mget_mI] at h
  obtain ⟨x, h1, h2⟩ := Option.map_eq_some_iff.mp h
  exact ⟨x, h1, h2.symm⟩
theorem mgIn {α : Type} {e : α → PV} {k : Int} {l : List (Int × α)} (h : mget (l.map (mI e)) (.int .i64 k) = none) : tget l k = none := by
  rw [mget_mI] at h
  exact Option.map_eq_none_iff.mp h
@[simp] theorem mput_mS {α : Type} (e : α → PV) (k : ByteArray) (y : α) : ∀ l : List (ByteArray × α), mput (l.map (mS e)) (.string k) (e y) = (tput l k y).map (mS e)
  | [] => rfl
  | (k', x) :: r => by
    by_cases h : k' = k
    · simp [mS, mput, tput, keyEq, h]
    · have := mput_mS e k y r
      simp only [List.map_cons, mS, mput, tput, keyEq, h, decide_false, cond_false, if_false]
      rw [this]
@[simp] theorem mput_mI {α : Type} (e : α → PV) (k : Int) (y : α) : ∀ l : List (Int × α), mput (l.map (mI e)) (.int .i64 k) (e y) = (tput l k y).map (mI e)
  | [] => rfl
  | (k', x) :: r => by
    by_cases h : k' = k
    · simp [mI, mput, tput, keyEq, h]
    · have := mput_mI e k y r
      simp only [List.map_cons, mI, mput, tput, keyEq, h, decide_true, decide_false, Bool.and_false, cond_false, if_false]
      rw [this]
theorem keysS {α : Type} {e : α → PV} (l : List (ByteArray × α)) : ∀ kx ∈ l.map (mS e), Go.MapKept.IsKey .string kx.1 := fun kx h => by
  obtain ⟨x, _, rfl⟩ := List.mem_map.mp h
  trivial
theorem keysI {α : Type} {e : α → PV} (l : List (Int × α)) : ∀ kx ∈ l.map (mI e), Go.MapKept.IsKey (.int .i64) kx.1 := fun kx h => by
  obtain ⟨x, _, rfl⟩ := List.mem_map.mp h
  rfl
theorem mkfit {m : Int} {b : Nat} (h : m ≤ 68719476736) (hb : Nat.ble b 2048 = true) : m * b ≤ 140737488355328 := by
  have hb := Nat.le_of_ble_eq_true hb
  rcases Int.lt_or_le m 0 with h0 | h0
  · have : m * b ≤ 0 := Int.mul_nonpos_of_nonpos_of_nonneg (by omega) (by omega)
    omega
  · have h1 : m * b ≤ 68719476736 * b := Int.mul_le_mul_of_nonneg_right h (by omega)
    omega
theorem appfitJ {n m b : Nat} (h : n + m ≤ 68719476736) (hb : Nat.ble b 2048 = true) : (n + m) * b ≤ 140737488355328 ∧ n + m ≤ 9223372036854775807 := by
  have hb := Nat.le_of_ble_eq_true hb
  have h1 : (n + m) * b ≤ 68719476736 * 2048 := Nat.mul_le_mul h hb
  omega
theorem rowX {a b c d e : Prop} (h : a ∧ b) (f : c) (g : d ∧ e) : a ∧ b ∧ c ∧ d ∧ e := ⟨h.1, h.2, f, g.1, g.2⟩
theorem bytes_fits {s : ByteArray} : fits 1 (bytesL s) := by
  unfold bytesL
  exact fits_map (e := fun b : UInt8 => PV.raw (.int .u8 b.toNat)) (fun _ => ⟨rfl, rfl⟩) _
theorem bl_fits (l : List UInt8) : fits 1 (bl l) := fits_map (e := fun b : UInt8 => U8 b.toNat) (fun _ => ⟨rfl, rfl⟩) _
theorem bl_g {l : List UInt8} {k : Nat} {x : UInt8} (h : l[k]? = some x) : (bl l)[k]? = some (U8 (x.toNat : Int)) := gm h
theorem bl_hd {l : List UInt8} : ∀ y, (bl l)[0]? = some y → y.cs.length = 1 := hd_map (e := fun b : UInt8 => U8 b.toNat) (fun _ => rfl) l
def toU8 (n : Int) : Option UInt8 := if 0 ≤ n ∧ n < 256 then some (UInt8.ofNat n.toNat) else none
theorem toU8_ok {n : Int} {u : UInt8} (h : toU8 n = some u) : (u.toNat : Int) = n := by
  unfold toU8 at h
  split at h
  · rename_i hn
    cases h
    have : (UInt8.ofNat n.toNat).toNat = n.toNat % 256 := UInt8.toNat_ofNat' ..
    rw [this]; omega
  · cases h
@[simp] theorem bl_cons (u : UInt8) (l : List UInt8) : bl (u :: l) = .raw (.int .u8 (u.toNat : Int)) :: bl l := rfl
@[simp] theorem bl_nil : bl [] = [] := rfl
def ofL (l : List UInt8) : ByteArray := ⟨l.toArray⟩
theorem bl_bytes (l : List UInt8) : bl l = bytesL (ofL l) := by simp [bl, bytesL, ofL]
def encBs (l : List UInt8) : PV := .lst (bl l)
attribute [simp] bl_len bl_app eL_eq
end Go.Proofs.YtnnalcglfgapbaaDoor.Z
