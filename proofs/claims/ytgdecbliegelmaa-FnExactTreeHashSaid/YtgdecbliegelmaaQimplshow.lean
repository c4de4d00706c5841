-- Written by wip/myprint.py (this session's) over the kit's print: not the kit's own print.
import Derived.Test.YtgdecbliegelmaaQ0
import Derived.Test.YtgdecbliegelmaaQimplmeasure
import Derived.Test.YtgdecbliegelmaaQstringsBuildercopyCheck
import Derived.Shelf.Strings.BuilderK
namespace Go.Proofs.Ytgdecbliegelmaa.Q
open Go.RowKit Go.Proofs.YtgdecbliegelmaaW.PrintWords Go.Proofs.YtgdecbliegelmaaW.PrintLast Go.Proofs.YtgdecbliegelmaaW.PrintMore
attribute [local go_sem] max2_int min2_int max_two min_two max_three min_three max_four min_four   -- for this text's walks alone
set_option linter.unusedVariables false
set_option linter.unusedSimpArgs false

/-! ### impl_show: function 110 -/
-- IMPORT Derived.Shelf.Strings.BuilderK
open Go.Shelf
/-- What a builder's writers leave: the bytes acc at block b; what lies below B stands. -/
def BState (B b : Nat) (acc : List Int) (w w' : World) : Prop := Lib.IsBuilderF 143 5 B b (nums .u8 acc) w' ∧ Below B w w' ∧ Lib.OthersKept 5 (some b) w w'
theorem BState.then_ {B b : Nat} {acc acc' : List Int} {w w1 w2 : World} (h : BState B b acc w w1) (h' : BState B b acc' w1 w2) : BState B b acc' w w2 := ⟨h'.1, h.2.1.trans h'.2.1, h.2.2.trans h'.2.2⟩
theorem BState.alloc {B b : Nat} {acc : List Int} {w w1 : World} (h : BState B b acc w w1) (hB : B ≤ w.heap.size) (o : Obj) : BState B b acc w (w1.alloc o) :=
  ⟨Lib.IsBuilderF.alloc h.1 o, h.2.1.alloc (Nat.le_trans hB h.2.1.size) o, h.2.2.alloc o⟩
theorem BState.drewN {B b : Nat} {acc : List Int} {w w1 : World} (h : BState B b acc w w1) (m : Nat) : BState B b acc w (w1.drewN m) := ⟨h.1, pw_below_drewN h.2.1 m, h.2.2⟩
theorem BState.here {B b : Nat} {acc : List Int} {w : World} (h : Lib.IsBuilderF 143 5 B b (nums .u8 acc) w) : BState B b acc w w := ⟨h, Below.refl _ _, Lib.OthersKept.refl _ _ _⟩
theorem BState.size {B b : Nat} {acc : List Int} {w w1 : World} (h : BState B b acc w w1) : w.heap.size ≤ w1.heap.size := h.2.1.size
/-- A block of another kind than the builder's stands. -/
theorem BState.blk {B b : Nat} {acc : List Int} {w w1 : World} (h : BState B b acc w w1) {g T : Nat} {cs : Array Value} {fr : Nat × Nat} (hg : w.heap[g]? = some (.cells cs T fr)) (hne : g ≠ b) (hT : T ≠ 5) : w1.heap[g]? = some (.cells cs T fr) :=
  h.2.2 g _ hg (fun e => hne (Option.some.inj e)) (fun c fz e => by injection e with _ e _; exact hT e)
theorem b_lt {B b : Nat} {acc : List Int} {w : World} (h : Lib.IsBuilderF 143 5 B b (nums .u8 acc) w) : b < w.heap.size := by
  rcases h with h | h
  · exact h.lt
  · exact h.lt
theorem bw_byte (B b : Nat) (acc : List Int) (c : Int) (w : World) (h : Lib.IsBuilderF 143 5 B b (nums .u8 acc) w) (hlen : acc.length + 1 ≤ 140737488355328) (hBw : B ≤ w.heap.size) :
    Calls Try.prog 132 #[.pointer (some ⟨b, 0, none⟩), .int .u8 c] w fun e w' => e = .returned .nilIface ∧ BState B b (acc ++ [c]) w w' := by
  refine (b_WriteByte B b (nums .u8 acc) c w h (by rw [nums_length]; exact hlen) hBw).mono ?_
  rintro e w' ⟨he, h1, h2, h3⟩
  exact ⟨he, .inr (by simpa [nums] using h1), h2, h3⟩
theorem bw_str (B b : Nat) (acc : List Int) (s : ByteArray) (w : World) (h : Lib.IsBuilderF 143 5 B b (nums .u8 acc) w) (hlen : acc.length + s.size ≤ 140737488355328) (hBw : B ≤ w.heap.size) :
    Calls Try.prog 133 #[.pointer (some ⟨b, 0, none⟩), .string s] w fun e w' => e = .returned (.tuple #[.int .i64 s.size, .nilIface]) ∧ BState B b (acc ++ bytesOf s) w w' := by
  refine (b_WriteString B b (nums .u8 acc) s w h (by rw [nums_length]; exact hlen) hBw).mono ?_
  rintro e w' ⟨he, h1, h2, h3⟩
  have e1 : nums .u8 acc ++ Lib.strCells s = nums .u8 (acc ++ bytesOf s) := by
    rw [nums_append]
    congr 1
    simp [nums, bytesOf, Lib.strCells]
  rw [e1] at h1
  exact ⟨he, .inr h1, h2, h3⟩
def escB (c : Int) : List Int := if c = 34 then [92, c] else if c = 92 then [92, c] else if c ≥ 32 then (if c ≤ 126 then [c] else [92, 48 + c / 100, 48 + c / 10 % 10, 48 + c % 10]) else [92, 48 + c / 100, 48 + c / 10 % 10, 48 + c % 10]
mutual
def impl_show.l0 : Nat → List S53 → Int → List Int → Option (List Int)
  | 0, _, _, _ => none
  | k + 1, l, i, acc => if i < (l.length : Int) then (if 0 ≤ i then (if acc.length + 1 ≤ 140737488355328 then ((impl_show.f k (rd_T53 l i).f0 (rd_T53 l i).f1 (rd_T53 l i).f2 (rd_T53 l i).f3 (acc ++ [32])).bind fun r => impl_show.l0 k l (wrap64 (i + 1)) r) else none) else none) else (if acc.length + 1 ≤ 140737488355328 then some (acc ++ [41]) else none)
def impl_show.l1 : Nat → ByteArray → Int → List Int → Option (List Int)
  | 0, _, _, _ => none
  | k + 1, tx, i, acc => if i < (tx.size : Int) then (if 0 ≤ i then (if acc.length + 4 ≤ 140737488355328 then impl_show.l1 k tx (wrap64 (i + 1)) (acc ++ escB (bt tx i)) else none) else none) else (if acc.length + 1 ≤ 140737488355328 then some (acc ++ [34]) else none)
def impl_show.f : Nat → ByteArray → ByteArray → Bool → List S53 → List Int → Option (List Int)
  | 0, _, _, _, _, _ => none
  | k + 1, nm, tx, lf, l, acc => if lf = true then (if acc.length + nm.size + 1 ≤ 140737488355328 then impl_show.l1 k tx 0 (acc ++ bytesOf nm ++ [34]) else none) else (if acc.length + 1 + nm.size ≤ 140737488355328 then impl_show.l0 k l 0 (acc ++ [40] ++ bytesOf nm) else none)
end
theorem impl_show.mono_l : ∀ k, (∀ y0 y1 y2 y3 y4, LeO (impl_show.f k y0 y1 y2 y3 y4) (impl_show.f (k + 1) y0 y1 y2 y3 y4)) ∧ (∀ y0 y1 y2, LeO (impl_show.l0 k y0 y1 y2) (impl_show.l0 (k + 1) y0 y1 y2)) ∧ (∀ y0 y1 y2, LeO (impl_show.l1 k y0 y1 y2) (impl_show.l1 (k + 1) y0 y1 y2))
  | 0 => ⟨fun _ _ _ _ _ r h => by simp [impl_show.f] at h, fun _ _ _ r h => by simp [impl_show.l0] at h, fun _ _ _ r h => by simp [impl_show.l1] at h⟩
  | k + 1 => by
    obtain ⟨ih0, ih1, ih2⟩ := impl_show.mono_l k
    refine ⟨?_, ?_, ?_⟩
    · intro y0 y1 y2 y3 y4
      unfold impl_show.f
      repeat' first
      | (with_reducible exact ih1 _ _ _)
      | (with_reducible exact ih2 _ _ _)
      | (with_reducible exact LeO.refl _)
      | (with_reducible exact LeO.none _)
      | (with_reducible refine LeO.ite ?_ ?_)
      | refine LeO.bind ?_ (fun _ => ?_)
    · intro y0 y1 y2
      unfold impl_show.l0
      repeat' first
      | (with_reducible exact ih0 _ _ _ _ _)
      | (with_reducible exact ih1 _ _ _)
      | (with_reducible exact LeO.refl _)
      | (with_reducible exact LeO.none _)
      | (with_reducible refine LeO.ite ?_ ?_)
      | refine LeO.bind ?_ (fun _ => ?_)
    · intro y0 y1 y2
      unfold impl_show.l1
      repeat' first
      | (with_reducible exact ih2 _ _ _)
      | (with_reducible exact LeO.refl _)
      | (with_reducible exact LeO.none _)
      | (with_reducible refine LeO.ite ?_ ?_)
theorem impl_show.mono : ∀ a0 a1 a2 a3 a4 k, LeO (impl_show.f k a0 a1 a2 a3 a4) (impl_show.f (k + 1) a0 a1 a2 a3 a4) := fun a0 a1 a2 a3 a4 k => (impl_show.mono_l k).1 a0 a1 a2 a3 a4
set_option maxHeartbeats 8000000 in
set_option maxRecDepth 100000 in
theorem impl_show.calls (k : Nat) : ∀ (B b : Nat) (acc : List Int) (nm tx : ByteArray) (lf : Bool) (A : Option Addr) (c : Nat) (l : List S53) (r : List Int) (w : World) (hI : Lib.IsBuilderF 143 5 B b (nums .u8 acc) w) (hBw : B ≤ w.heap.size) (hr : Kd.F k53 w (fun k => k < B) A l.length l) (hc : l.length ≤ c)
    (h : impl_show.f k nm tx lf l acc = some r),
    Calls Try.prog 110 #[.pointer (some ⟨b, 0, none⟩), .agg #[.string nm, .string tx, .bool lf, .slice A l.length c]] w fun e w' => e = .returned (.tuple #[]) ∧ BState B b r w w' := by
  induction k using Nat.strongRecOn with
  | _ k ih =>
  intro B b acc nm tx lf A c l r w hI hBw hr hc h
  cases k with
  | zero => exact absurd h (by simp [impl_show.f])
  | succ k =>
  simp only [impl_show.f] at h
  have hu53 := Try.underlying53
  have HR := Aside0.mk hr
  have HC := Aside0.mk hc
  have HI := Aside0.mk (BState.here hI)
  have HW := Aside0.mk hBw
  have HL := Aside0.mk (b_lt hI)
  clear hr hc hI hBw
  cases lf with
  | true =>
    simp only [if_true] at h
    by_cases c1 : acc.length + nm.size + 1 ≤ 140737488355328
    · rw [if_pos c1] at h
      have C1 := Aside0.mk c1
      have H' := Aside0.mk h
      clear h c1
      go_enter Try.func110, Try.ntmps110
      go_wp2_with (go_at_call 133; refine (bw_str B b acc nm _ (HI.out.alloc HW.out _).1 ?side1 ?side2).mono ?_)
      case side1 => have := C1.out; omega
      case side2 => have := HW.out; simp; omega
      rintro e w1 ⟨rfl, hs⟩
      have HS1 := Aside0.mk ((HI.out.alloc HW.out _).then_ hs)
      have BK1 := Aside0.mk (hs.blk (blk_new _ _) (Nat.ne_of_gt HL.out) (by decide))
      clear hs HI
      go_wp2_with (go_at_call 132; refine (bw_byte B b _ 34 _ HS1.out.1 ?side1 ?side2).mono ?_)
      case side1 => have := C1.out; rw [List.length_append, bytesOf_length]; omega
      case side2 => have := HW.out; have := HS1.out.size; omega
      rintro e w2 ⟨rfl, hs⟩
      have HS2 := Aside0.mk (HS1.out.then_ hs)
      have BK2 := Aside0.mk (hs.blk BK1.out (Nat.ne_of_gt HL.out) (by decide))
      clear hs HS1 BK1
      go_wp2
      go_loopg [6] k (fun kq v6 w' => ∃ (i : Int) (ac : List Int), v6 = .int .i64 i ∧ Aside0 (impl_show.l1 kq tx i ac = some r) ∧ Aside0 (kq ≤ k) ∧ Aside0 (BState B b ac w w') ∧ Aside0 (w'.heap[w.heap.size]? = some (.cells #[.string nm, .string tx, .bool true, .slice A l.length c] 53 (0, 0))))
      case atStart => exact ⟨0, _, rfl, H', ⟨Nat.le_refl _⟩, HS2, BK2⟩
      case round =>
        clear H' HS2 BK2 C1
        obtain ⟨i, ac, rfl, HA, HK1, HS, BK⟩ := hrel
        cases gk with
        | zero => exact absurd HA.out (by simp [impl_show.l1])
        | succ k1 =>
          have H := HA.out
          clear HA
          simp only [impl_show.l1] at H
          have e1 : wr.cell? ⟨w.heap.size, 1, none⟩ = some (.string tx) := (blk_cell BK.out 1).trans rfl
          by_cases c5 : i < (tx.size : Int)
          · rw [if_pos c5] at H
            have c5b : decide (i < (tx.size : Int)) = true := decide_eq_true c5
            by_cases c6 : 0 ≤ i
            · rw [if_pos c6] at H
              have c6b : decide (0 ≤ i) = true := decide_eq_true c6
              by_cases c7 : ac.length + 4 ≤ 140737488355328
              · rw [if_pos c7] at H
                have C7 := Aside0.mk c7
                have H' := Aside0.mk H
                clear H c7
                have hx := bt_at tx i
                obtain ⟨hb0, hb1⟩ := bt_range tx i
                by_cases c8 : bt tx i = 34
                · have ee : escB (bt tx i) = [92, bt tx i] := by unfold escB; rw [if_pos c8]
                  have EE := Aside0.mk ee
                  have c8b : (bt tx i == 34) = true := beq_iff_eq.mpr c8
                  clear ee c8
                  go_wp2_with (go_at_call 132; refine (bw_byte B b _ _ _ HS.out.1 ?side1 ?side2).mono ?_)
                  case side1 => have := C7.out; simp; omega
                  case side2 => have := HW.out; have := HS.out.size; omega
                  first | rintro e w11 rfl hs | rintro e w11 ⟨rfl, hs⟩
                  have HS3 := Aside0.mk (HS.out.then_ hs)
                  have BK3 := Aside0.mk (hs.blk BK.out (Nat.ne_of_gt HL.out) (by decide))
                  clear hs HS BK
                  go_wp2_with (go_at_call 132; refine (bw_byte B b _ _ _ HS3.out.1 ?side1 ?side2).mono ?_)
                  case side1 => have := C7.out; simp; omega
                  case side2 => have := HW.out; have := HS3.out.size; omega
                  first | rintro e w12 rfl hs | rintro e w12 ⟨rfl, hs⟩
                  have HS4 := Aside0.mk (HS3.out.then_ hs)
                  have BK4 := Aside0.mk (hs.blk BK3.out (Nat.ne_of_gt HL.out) (by decide))
                  clear hs HS3 BK3
                  go_wp2
                  go_roundg k1
                  case measure => have := HK1.out; omega
                  case rel => exact ⟨wrap64 (i + 1), ac ++ escB (bt tx i), rfl, H', ⟨by have := HK1.out; omega⟩, ⟨by rw [EE.out]; simpa using HS4.out⟩, BK4⟩
                have c8b : (bt tx i == 34) = false := beq_eq_false_iff_ne.mpr c8
                by_cases c9 : bt tx i = 92
                · have ee : escB (bt tx i) = [92, bt tx i] := by unfold escB; rw [if_neg c8, if_pos c9]
                  have EE := Aside0.mk ee
                  have c9b : (bt tx i == 92) = true := beq_iff_eq.mpr c9
                  clear ee c8 c9
                  go_wp2_with (go_at_call 132; refine (bw_byte B b _ _ _ HS.out.1 ?side1 ?side2).mono ?_)
                  case side1 => have := C7.out; simp; omega
                  case side2 => have := HW.out; have := HS.out.size; omega
                  first | rintro e w11 rfl hs | rintro e w11 ⟨rfl, hs⟩
                  have HS3 := Aside0.mk (HS.out.then_ hs)
                  have BK3 := Aside0.mk (hs.blk BK.out (Nat.ne_of_gt HL.out) (by decide))
                  clear hs HS BK
                  go_wp2_with (go_at_call 132; refine (bw_byte B b _ _ _ HS3.out.1 ?side1 ?side2).mono ?_)
                  case side1 => have := C7.out; simp; omega
                  case side2 => have := HW.out; have := HS3.out.size; omega
                  first | rintro e w12 rfl hs | rintro e w12 ⟨rfl, hs⟩
                  have HS4 := Aside0.mk (HS3.out.then_ hs)
                  have BK4 := Aside0.mk (hs.blk BK3.out (Nat.ne_of_gt HL.out) (by decide))
                  clear hs HS3 BK3
                  go_wp2
                  go_roundg k1
                  case measure => have := HK1.out; omega
                  case rel => exact ⟨wrap64 (i + 1), ac ++ escB (bt tx i), rfl, H', ⟨by have := HK1.out; omega⟩, ⟨by rw [EE.out]; simpa using HS4.out⟩, BK4⟩
                have c9b : (bt tx i == 92) = false := beq_eq_false_iff_ne.mpr c9
                by_cases c10 : bt tx i ≥ 32
                · have c10b : decide (32 ≤ bt tx i) = true := decide_eq_true c10
                  by_cases c11 : bt tx i ≤ 126
                  · have c11b : decide (bt tx i ≤ 126) = true := decide_eq_true c11
                    have ee : escB (bt tx i) = [bt tx i] := by unfold escB; rw [if_neg c8, if_neg c9, if_pos c10, if_pos c11]
                    have EE := Aside0.mk ee
                    clear ee c8 c9
                    go_wp2_with (go_at_call 132; refine (bw_byte B b _ _ _ HS.out.1 ?side1 ?side2).mono ?_)
                    case side1 => have := C7.out; simp; omega
                    case side2 => have := HW.out; have := HS.out.size; omega
                    first | rintro e w11 rfl hs | rintro e w11 ⟨rfl, hs⟩
                    have HS3 := Aside0.mk (HS.out.then_ hs)
                    have BK3 := Aside0.mk (hs.blk BK.out (Nat.ne_of_gt HL.out) (by decide))
                    clear hs HS BK
                    go_wp2
                    go_roundg k1
                    case measure => have := HK1.out; omega
                    case rel => exact ⟨wrap64 (i + 1), ac ++ escB (bt tx i), rfl, H', ⟨by have := HK1.out; omega⟩, ⟨by rw [EE.out]; simpa using HS3.out⟩, BK3⟩
                  · have c11b : decide (bt tx i ≤ 126) = false := decide_eq_false c11
                    have ee : escB (bt tx i) = [92, 48 + bt tx i / 100, 48 + bt tx i / 10 % 10, 48 + bt tx i % 10] := by unfold escB; rw [if_neg c8, if_neg c9, if_pos c10, if_neg c11]
                    have EE := Aside0.mk ee
                    clear ee c8 c9
                    go_wp2_with (go_at_call 132; refine (bw_byte B b _ _ _ HS.out.1 ?side1 ?side2).mono ?_)
                    case side1 => have := C7.out; simp; omega
                    case side2 => have := HW.out; have := HS.out.size; omega
                    first | rintro e w11 rfl hs | rintro e w11 ⟨rfl, hs⟩
                    have HS3 := Aside0.mk (HS.out.then_ hs)
                    have BK3 := Aside0.mk (hs.blk BK.out (Nat.ne_of_gt HL.out) (by decide))
                    clear hs HS BK
                    go_wp2_with (go_at_call 132; refine (bw_byte B b _ _ _ HS3.out.1 ?side1 ?side2).mono ?_)
                    case side1 => have := C7.out; simp; omega
                    case side2 => have := HW.out; have := HS3.out.size; omega
                    first | rintro e w12 rfl hs | rintro e w12 ⟨rfl, hs⟩
                    have HS4 := Aside0.mk (HS3.out.then_ hs)
                    have BK4 := Aside0.mk (hs.blk BK3.out (Nat.ne_of_gt HL.out) (by decide))
                    clear hs HS3 BK3
                    go_wp2_with (go_at_call 132; refine (bw_byte B b _ _ _ HS4.out.1 ?side1 ?side2).mono ?_)
                    case side1 => have := C7.out; simp; omega
                    case side2 => have := HW.out; have := HS4.out.size; omega
                    first | rintro e w13 rfl hs | rintro e w13 ⟨rfl, hs⟩
                    have HS5 := Aside0.mk (HS4.out.then_ hs)
                    have BK5 := Aside0.mk (hs.blk BK4.out (Nat.ne_of_gt HL.out) (by decide))
                    clear hs HS4 BK4
                    go_wp2_with (go_at_call 132; refine (bw_byte B b _ _ _ HS5.out.1 ?side1 ?side2).mono ?_)
                    case side1 => have := C7.out; simp; omega
                    case side2 => have := HW.out; have := HS5.out.size; omega
                    first | rintro e w14 rfl hs | rintro e w14 ⟨rfl, hs⟩
                    have HS6 := Aside0.mk (HS5.out.then_ hs)
                    have BK6 := Aside0.mk (hs.blk BK5.out (Nat.ne_of_gt HL.out) (by decide))
                    clear hs HS5 BK5
                    go_wp2
                    go_roundg k1
                    case measure => have := HK1.out; omega
                    case rel => exact ⟨wrap64 (i + 1), ac ++ escB (bt tx i), rfl, H', ⟨by have := HK1.out; omega⟩, ⟨by rw [EE.out]; simpa using HS6.out⟩, BK6⟩
                · have c10b : decide (32 ≤ bt tx i) = false := decide_eq_false c10
                  have ee : escB (bt tx i) = [92, 48 + bt tx i / 100, 48 + bt tx i / 10 % 10, 48 + bt tx i % 10] := by unfold escB; rw [if_neg c8, if_neg c9, if_neg c10]
                  have EE := Aside0.mk ee
                  clear ee c8 c9
                  go_wp2_with (go_at_call 132; refine (bw_byte B b _ _ _ HS.out.1 ?side1 ?side2).mono ?_)
                  case side1 => have := C7.out; simp; omega
                  case side2 => have := HW.out; have := HS.out.size; omega
                  first | rintro e w11 rfl hs | rintro e w11 ⟨rfl, hs⟩
                  have HS3 := Aside0.mk (HS.out.then_ hs)
                  have BK3 := Aside0.mk (hs.blk BK.out (Nat.ne_of_gt HL.out) (by decide))
                  clear hs HS BK
                  go_wp2_with (go_at_call 132; refine (bw_byte B b _ _ _ HS3.out.1 ?side1 ?side2).mono ?_)
                  case side1 => have := C7.out; simp; omega
                  case side2 => have := HW.out; have := HS3.out.size; omega
                  first | rintro e w12 rfl hs | rintro e w12 ⟨rfl, hs⟩
                  have HS4 := Aside0.mk (HS3.out.then_ hs)
                  have BK4 := Aside0.mk (hs.blk BK3.out (Nat.ne_of_gt HL.out) (by decide))
                  clear hs HS3 BK3
                  go_wp2_with (go_at_call 132; refine (bw_byte B b _ _ _ HS4.out.1 ?side1 ?side2).mono ?_)
                  case side1 => have := C7.out; simp; omega
                  case side2 => have := HW.out; have := HS4.out.size; omega
                  first | rintro e w13 rfl hs | rintro e w13 ⟨rfl, hs⟩
                  have HS5 := Aside0.mk (HS4.out.then_ hs)
                  have BK5 := Aside0.mk (hs.blk BK4.out (Nat.ne_of_gt HL.out) (by decide))
                  clear hs HS4 BK4
                  go_wp2_with (go_at_call 132; refine (bw_byte B b _ _ _ HS5.out.1 ?side1 ?side2).mono ?_)
                  case side1 => have := C7.out; simp; omega
                  case side2 => have := HW.out; have := HS5.out.size; omega
                  first | rintro e w14 rfl hs | rintro e w14 ⟨rfl, hs⟩
                  have HS6 := Aside0.mk (HS5.out.then_ hs)
                  have BK6 := Aside0.mk (hs.blk BK5.out (Nat.ne_of_gt HL.out) (by decide))
                  clear hs HS5 BK5
                  go_wp2
                  go_roundg k1
                  case measure => have := HK1.out; omega
                  case rel => exact ⟨wrap64 (i + 1), ac ++ escB (bt tx i), rfl, H', ⟨by have := HK1.out; omega⟩, ⟨by rw [EE.out]; simpa using HS6.out⟩, BK6⟩
              · rw [if_neg c7] at H
                exact absurd H (by simp)
            · rw [if_neg c6] at H
              exact absurd H (by simp)
          · rw [if_neg c5] at H
            have c5b : decide (i < (tx.size : Int)) = false := decide_eq_false c5
            by_cases c7 : ac.length + 1 ≤ 140737488355328
            · rw [if_pos c7] at H
              have C7 := Aside0.mk c7
              obtain rfl := Option.some.inj H
              clear H c7 c5
              go_wp2_with (go_at_call 132; refine (bw_byte B b _ _ _ HS.out.1 ?side1 ?side2).mono ?_)
              case side1 => have := C7.out; simp; omega
              case side2 => have := HW.out; have := HS.out.size; omega
              first | rintro e w11 rfl hs | rintro e w11 ⟨rfl, hs⟩
              have HS3 := Aside0.mk (HS.out.then_ hs)
              have BK3 := Aside0.mk (hs.blk BK.out (Nat.ne_of_gt HL.out) (by decide))
              clear hs HS BK
              go_wp2
              go_end0
              exact ⟨rfl, HS3.out⟩
            · rw [if_neg c7] at H
              exact absurd H (by simp)
    · rw [if_neg c1] at h
      exact absurd h (by simp)
  | false =>
    simp only [Bool.false_eq_true, if_false] at h
    by_cases c1 : acc.length + 1 + nm.size ≤ 140737488355328
    · rw [if_pos c1] at h
      have C1 := Aside0.mk c1
      have H' := Aside0.mk h
      clear h c1
      go_enter Try.func110, Try.ntmps110
      go_wp2_with (go_at_call 132; refine (bw_byte B b acc _ _ (HI.out.alloc HW.out _).1 ?side1 ?side2).mono ?_)
      case side1 => have := C1.out; omega
      case side2 => have := HW.out; simp; omega
      rintro e w1 ⟨rfl, hs⟩
      have HS1 := Aside0.mk ((HI.out.alloc HW.out _).then_ hs)
      have BK1 := Aside0.mk (hs.blk (blk_new _ _) (Nat.ne_of_gt HL.out) (by decide))
      clear hs HI
      have e0 : w1.cell? ⟨w.heap.size, 0, none⟩ = some (.string nm) := (blk_cell BK1.out 0).trans rfl
      go_wp2_with (go_at_call 133; refine (bw_str B b _ nm _ HS1.out.1 ?side1 ?side2).mono ?_)
      case side1 => have := C1.out; simp; omega
      case side2 => have := HW.out; have := HS1.out.size; omega
      rintro e w2 ⟨rfl, hs⟩
      have HS2 := Aside0.mk (HS1.out.then_ hs)
      have BK2 := Aside0.mk (hs.blk BK1.out (Nat.ne_of_gt HL.out) (by decide))
      clear hs HS1 BK1 e0
      have e3 : w2.cell? ⟨w.heap.size, 3, none⟩ = some (.slice A l.length c) := (blk_cell BK2.out 3).trans rfl
      go_wp2
      go_loopg [20] k (fun kq v20 w' => ∃ (i : Int) (ac : List Int), v20 = .int .i64 i ∧ Aside0 (impl_show.l0 kq l i ac = some r) ∧ Aside0 (kq ≤ k) ∧ Aside0 (BState B b ac w w'))
      case atStart => exact ⟨0, _, rfl, H', ⟨Nat.le_refl _⟩, HS2⟩
      case round =>
        clear H' HS2 BK2 C1 e3
        obtain ⟨i, ac, rfl, HA, HK1, HS⟩ := hrel
        cases gk with
        | zero => exact absurd HA.out (by simp [impl_show.l0])
        | succ k1 =>
          have H := HA.out
          clear HA
          simp only [impl_show.l0] at H
          by_cases c5 : i < (l.length : Int)
          · rw [if_pos c5] at H
            have c5b : decide (i < (l.length : Int)) = true := decide_eq_true c5
            by_cases c6 : 0 ≤ i
            · rw [if_pos c6] at H
              have c6b : decide (0 ≤ i) = true := decide_eq_true c6
              by_cases c7 : ac.length + 1 ≤ 140737488355328
              · rw [if_pos c7] at H
                have C7 := Aside0.mk c7
                obtain ⟨r1, ht, H⟩ := Option.bind_eq_some_iff.mp H
                have HT := Aside0.mk ht
                have H' := Aside0.mk H
                clear H c7 ht
                have HRw := Kd.F_step (W1 := wr) HR.out (fun q hq _ => HS.out.2.1.block q hq)
                obtain ⟨ad, A3, c3, e, hx0, hx1, hx2, hx3, hl3, hi3⟩ := at_F53 HRw i c6 c5
                cases e
                have HF3 := Aside0.mk hi3
                have HC3 := Aside0.mk hl3
                clear hi3 hl3 HRw
                go_wp2_with (go_at_call 132; refine (bw_byte B b _ _ _ (HS.out.alloc HW.out _).1 ?side1 ?side2).mono ?_)
                case side1 => have := C7.out; omega
                case side2 => have := HW.out; have := HS.out.size; simp; omega
                rintro e w3 ⟨rfl, hs⟩
                have HS3 := Aside0.mk ((HS.out.alloc HW.out _).then_ hs)
                have BK3 := Aside0.mk (hs.blk (blk_new _ _) (Nat.ne_of_gt (Nat.lt_of_lt_of_le HL.out HS.out.size)) (by decide))
                have HF4 := Aside0.mk (Kd.F_step (W1 := w3) HF3.out (fun q hq hlt => ((hs.2.1.block q hq).trans (Below.heap_alloc wr _ q hlt))))
                clear hs HS HF3
                have d0 : w3.cell? ⟨wr.heap.size, 0, none⟩ = some (.string (rd_T53 l i).f0) := (blk_cell BK3.out 0).trans rfl
                have d1 : w3.cell? ⟨wr.heap.size, 1, none⟩ = some (.string (rd_T53 l i).f1) := (blk_cell BK3.out 1).trans rfl
                have d2 : w3.cell? ⟨wr.heap.size, 2, none⟩ = some (.bool (rd_T53 l i).f2) := (blk_cell BK3.out 2).trans rfl
                have d3 : w3.cell? ⟨wr.heap.size, 3, none⟩ = some (.slice A3 (rd_T53 l i).f3.length c3) := (blk_cell BK3.out 3).trans rfl
                go_wp2_with (go_at_call 110; refine (ih k1 (by have := HK1.out; omega) B b _ _ _ _ _ _ _ r1 _ HS3.out.1 ?side1 HF4.out HC3.out HT.out).mono ?_)
                case side1 => have := HW.out; have := HS3.out.size; omega
                rintro e w4 ⟨rfl, hs⟩
                have HS4 := Aside0.mk (HS3.out.then_ hs)
                clear hs HS3 BK3 HF4 d0 d1 d2 d3
                go_wp2
                go_roundg k1
                case measure => have := HK1.out; omega
                case rel => exact ⟨wrap64 (i + 1), r1, rfl, H', ⟨by have := HK1.out; omega⟩, HS4⟩
              · rw [if_neg c7] at H
                exact absurd H (by simp)
            · rw [if_neg c6] at H
              exact absurd H (by simp)
          · rw [if_neg c5] at H
            have c5b : decide (i < (l.length : Int)) = false := decide_eq_false c5
            by_cases c7 : ac.length + 1 ≤ 140737488355328
            · rw [if_pos c7] at H
              have C7 := Aside0.mk c7
              obtain rfl := Option.some.inj H
              clear H c7 c5
              go_wp2_with (go_at_call 132; refine (bw_byte B b _ _ _ HS.out.1 ?side1 ?side2).mono ?_)
              case side1 => have := C7.out; omega
              case side2 => have := HW.out; have := HS.out.size; omega
              rintro e w3 ⟨rfl, hs⟩
              have HS3 := Aside0.mk (HS.out.then_ hs)
              clear hs HS
              go_wp2
              exact bodyPost_ret (results_none rfl _ _ _) rfl ⟨rfl, HS3.out⟩
            · rw [if_neg c7] at H
              exact absurd H (by simp)
    · rw [if_neg c1] at h
      exact absurd h (by simp)


end Go.Proofs.Ytgdecbliegelmaa.Q
