/- J3: parts of the proof of FnExactPlaces, joined. -/
import Derived.Test.YtgdecbliegelmaaJ0
import Derived.Test.YtgdecbliegelmaaJ1
import Derived.Test.YtgdecbliegelmaaJ2
import Derived.Deep.RegionLawGrows
set_option linter.unnecessarySimpa false
set_option linter.unusedSimpArgs false
set_option linter.unusedVariables false
namespace Go.Proofs.Ytgdecbliegelmaa.Q
open Go.RowKit Go.Proofs.YtgdecbliegelmaaW.PrintWords Go.Proofs.YtgdecbliegelmaaW.PrintLast Go.Proofs.YtgdecbliegelmaaW.PrintMore
attribute [local go_sem] max2_int min2_int max_two min_two max_three min_three max_four min_four   -- for this text's walks alone
set_option linter.unusedVariables false
set_option linter.unusedSimpArgs false
/-! ### impl_same: function 120 -/
mutual
def impl_same.j0 : Nat → Bool → ByteArray → ByteArray → Bool → List (S53) → ByteArray → ByteArray → Bool → List (S53) → Option (Bool)
  | 0, _, _, _, _, _, _, _, _, _ => none
  | k + 1, x33, x102000, x102001, x102002, x102003, x103000, x103001, x103002, x103003 => if x33 = true then (some false) else (impl_same.l0 k (x102003.length : Int) 0 x102000 x102001 x102002 x102003 x103000 x103001 x103002 x103003)
def impl_same.l0 : Nat → Int → Int → ByteArray → ByteArray → Bool → List (S53) → ByteArray → ByteArray → Bool → List (S53) → Option (Bool)
  | 0, _, _, _, _, _, _, _, _, _, _ => none
  | k + 1, x36, x37, x102000, x102001, x102002, x102003, x103000, x103001, x103002, x103003 => if x37 < x36 then (if 0 ≤ x37 then (if x37 < (x102003.length : Int) then (if x37 < (x103003.length : Int) then ((impl_same.f k ((rd_T53 x102003 x37).f0) ((rd_T53 x102003 x37).f1) ((rd_T53 x102003 x37).f2) ((rd_T53 x102003 x37).f3) ((rd_T53 x103003 x37).f0) ((rd_T53 x103003 x37).f1) ((rd_T53 x103003 x37).f2) ((rd_T53 x103003 x37).f3)).bind fun t105 => (if t105 = true then (impl_same.l0 k x36 (wrap64 (x37 + 1)) x102000 x102001 x102002 x102003 x103000 x103001 x103002 x103003) else (some false))) else (none)) else (none)) else (none)) else (some true)
def impl_same.f : Nat → ByteArray → ByteArray → Bool → List (S53) → ByteArray → ByteArray → Bool → List (S53) → Option (Bool)
  | 0, _, _, _, _, _, _, _, _ => none
  | k + 1, a0_0, a0_1, a0_2, l0_3, a1_0, a1_1, a1_2, l1_3 => if a0_0.toList = a1_0.toList then (if a0_1.toList = a1_1.toList then (if (a0_2 != a1_2) = true then (impl_same.j0 k true a0_0 a0_1 a0_2 l0_3 a1_0 a1_1 a1_2 l1_3) else (impl_same.j0 k ((l0_3.length : Int) != (l1_3.length : Int)) a0_0 a0_1 a0_2 l0_3 a1_0 a1_1 a1_2 l1_3)) else (impl_same.j0 k true a0_0 a0_1 a0_2 l0_3 a1_0 a1_1 a1_2 l1_3)) else (impl_same.j0 k true a0_0 a0_1 a0_2 l0_3 a1_0 a1_1 a1_2 l1_3)
end
theorem impl_same.mono_l : ∀ k, (∀ y0 y1 y2 y3 y4 y5 y6 y7, LeO (impl_same.f k y0 y1 y2 y3 y4 y5 y6 y7) (impl_same.f (k + 1) y0 y1 y2 y3 y4 y5 y6 y7)) ∧ (∀ y0 y1 y2 y3 y4 y5 y6 y7 y8, LeO (impl_same.j0 k y0 y1 y2 y3 y4 y5 y6 y7 y8) (impl_same.j0 (k + 1) y0 y1 y2 y3 y4 y5 y6 y7 y8)) ∧ (∀ y0 y1 y2 y3 y4 y5 y6 y7 y8 y9, LeO (impl_same.l0 k y0 y1 y2 y3 y4 y5 y6 y7 y8 y9) (impl_same.l0 (k + 1) y0 y1 y2 y3 y4 y5 y6 y7 y8 y9))
 | 0 => ⟨fun _ _ _ _ _ _ _ _ r h => by simp [impl_same.f] at h, fun _ _ _ _ _ _ _ _ _ r h => by simp [impl_same.j0] at h, fun _ _ _ _ _ _ _ _ _ _ r h => by simp [impl_same.l0] at h⟩
 | k + 1 => by
  obtain ⟨ih0, ih1, ih2⟩ := impl_same.mono_l k
  refine ⟨?_, ?_, ?_⟩
  ·intro y0 y1 y2 y3 y4 y5 y6 y7
   unfold impl_same.f
   repeat' first
   | (with_reducible exact ih0 _ _ _ _ _ _ _ _)
   | (with_reducible exact ih1 _ _ _ _ _ _ _ _ _)
   | (with_reducible exact ih2 _ _ _ _ _ _ _ _ _ _)
   | (with_reducible exact LeO.refl _)
   | (with_reducible exact LeO.none _)
   | (with_reducible refine LeO.ite ?_ ?_)
   | (with_reducible refine LeO.bind ?_ (fun _ => ?_))
   | exact ih0 _ _ _ _ _ _ _ _
   | exact ih1 _ _ _ _ _ _ _ _ _
   | exact ih2 _ _ _ _ _ _ _ _ _ _
   | exact LeO.none _
   | refine LeO.ite ?_ ?_
   | refine LeO.bind ?_ (fun _ => ?_)
  ·intro y0 y1 y2 y3 y4 y5 y6 y7 y8
   unfold impl_same.j0
   repeat' first
   | (with_reducible exact ih0 _ _ _ _ _ _ _ _)
   | (with_reducible exact ih1 _ _ _ _ _ _ _ _ _)
   | (with_reducible exact ih2 _ _ _ _ _ _ _ _ _ _)
   | (with_reducible exact LeO.refl _)
   | (with_reducible exact LeO.none _)
   | (with_reducible refine LeO.ite ?_ ?_)
   | (with_reducible refine LeO.bind ?_ (fun _ => ?_))
   | exact ih0 _ _ _ _ _ _ _ _
   | exact ih1 _ _ _ _ _ _ _ _ _
   | exact ih2 _ _ _ _ _ _ _ _ _ _
   | exact LeO.none _
   | refine LeO.ite ?_ ?_
   | refine LeO.bind ?_ (fun _ => ?_)
  ·intro y0 y1 y2 y3 y4 y5 y6 y7 y8 y9
   unfold impl_same.l0
   repeat' first
   | (with_reducible exact ih0 _ _ _ _ _ _ _ _)
   | (with_reducible exact ih1 _ _ _ _ _ _ _ _ _)
   | (with_reducible exact ih2 _ _ _ _ _ _ _ _ _ _)
   | (with_reducible exact LeO.refl _)
   | (with_reducible exact LeO.none _)
   | (with_reducible refine LeO.ite ?_ ?_)
   | (with_reducible refine LeO.bind ?_ (fun _ => ?_))
   | exact ih0 _ _ _ _ _ _ _ _
   | exact ih1 _ _ _ _ _ _ _ _ _
   | exact ih2 _ _ _ _ _ _ _ _ _ _
   | exact LeO.none _
   | refine LeO.ite ?_ ?_
   | refine LeO.bind ?_ (fun _ => ?_)
theorem impl_same.mono : ∀ a0 a1 a2 a3 a4 a5 a6 a7 k, LeO (impl_same.f k a0 a1 a2 a3 a4 a5 a6 a7) (impl_same.f (k + 1) a0 a1 a2 a3 a4 a5 a6 a7) := by
 intro a0 a1 a2 a3 a4 a5 a6 a7 k
 obtain ⟨ih0, ih1, ih2⟩ := impl_same.mono_l k
 exact ih0 a0 a1 a2 a3 a4 a5 a6 a7
def impl_same.T6 : Bool × List (List Nat × List Nat) := (true, [([], []), ([0], [0]), ([], []), ([1, 2], [1, 2]), ([3], [3]), ([], []), ([5], [5]), ([], []), ([6, 7], [6, 7]), ([8], [8]), ([4, 9], [4, 9]), ([10], [10])])
def impl_same.B6 : List Nat := [0, 1, 0, 7, 15, 0, 32, 0, 224, 480, 1023, 2047]
theorem impl_same.tab6 : rtab .any (opsOf Try.f120 6) = impl_same.T6 := by kernel_rfl
theorem impl_same.bits6 : waitsOk impl_same.T6.2 impl_same.B6 = true := by kernel_rfl
set_option maxHeartbeats 8000000 in
set_option maxRecDepth 100000 in
theorem impl_same.calls (k : Nat) : ∀ (a0_0 : ByteArray) (a0_1 : ByteArray) (a0_2 : Bool) (A0_3 : Option Addr) (c0_3 : Nat) (l0_3 : List (S53)) (a1_0 : ByteArray) (a1_1 : ByteArray) (a1_2 : Bool) (A1_3 : Option Addr) (c1_3 : Nat) (l1_3 : List (S53)) (r : Bool) (w : World) (hr0_3 : Kd.C k53 w A0_3 l0_3.length l0_3) (hc0_3 : l0_3.length ≤ c0_3) (hr1_3 : Kd.C k53 w A1_3 l1_3.length l1_3) (hc1_3 : l1_3.length ≤ c1_3) (h : impl_same.f k a0_0 a0_1 a0_2 l0_3 a1_0 a1_1 a1_2 l1_3 = some r),
  Calls Try.prog 120 #[.agg #[.string a0_0, .string a0_1, .bool a0_2, .slice A0_3 l0_3.length c0_3], .agg #[.string a1_0, .string a1_1, .bool a1_2, .slice A1_3 l1_3.length c1_3]] w fun e w' => e = .returned (.bool r) ∧ Below w.heap.size w w' := by
 induction k using Nat.strongRecOn with
 | _ k ih =>
 intro a0_0 a0_1 a0_2 A0_3 c0_3 l0_3 a1_0 a1_1 a1_2 A1_3 c1_3 l1_3 r w hr0_3 hc0_3 hr1_3 hc1_3 h
 cases k with
 | zero => exact absurd h (by simp [impl_same.f])
 | succ k =>
 simp only [impl_same.f] at h
 have hu53 := Try.underlying53
 have HR0_3 := Aside0.mk hr0_3
 have HC0_3 := Aside0.mk hc0_3
 clear hr0_3 hc0_3
 have HR1_3 := Aside0.mk hr1_3
 have HC1_3 := Aside0.mk hc1_3
 clear hr1_3 hc1_3
 have HB := Aside0.mk (Below.refl w.heap.size w)
 have H : (if a0_0.toList = a1_0.toList then (if a0_1.toList = a1_1.toList then (if (a0_2 != a1_2) = true then (impl_same.j0 k true a0_0 a0_1 a0_2 l0_3 a1_0 a1_1 a1_2 l1_3) else (impl_same.j0 k ((l0_3.length : Int) != (l1_3.length : Int)) a0_0 a0_1 a0_2 l0_3 a1_0 a1_1 a1_2 l1_3)) else (impl_same.j0 k true a0_0 a0_1 a0_2 l0_3 a1_0 a1_1 a1_2 l1_3)) else (impl_same.j0 k true a0_0 a0_1 a0_2 l0_3 a1_0 a1_1 a1_2 l1_3)) = some r := h
 clear h
 have HC3 := Aside0.mk H
 clear H
 go_enter Try.func120, Try.ntmps120
 go_upto_region 1 with (first|((with_reducible refine gate_dst (N := 2) rfl ?_);(try (refine gate_guard (by rfl) ?_;dsimp only));refine box_event ?hg (N := 2) ?hd (cs := #[.string a0_0, .string a0_1, .bool a0_2, .slice A0_3 l0_3.length c0_3]) (t := 53) ?hr ?_;(case hd => rfl);(case hg => rfl);(case hr => first|(go_simp;done)|(go_simp;rfl));intro gb101 hg w4 hbox hb;have n0_ := Aside0.mk (below_step (by repeat (first|(with_reducible first|exact HB.out|apply below_alloc|apply pw_below_drewN|apply below_drew1)|exact HB.out)) hb);have n1_ := Aside0.mk (hbox);have n2_ := Aside0.mk ((by rw [hg];exact (below_size (by repeat (first|(with_reducible first|exact HB.out|apply below_alloc|apply pw_below_drewN|apply below_drew1)|exact HB.out))) : w.heap.size ≤ gb101));have n3_ := Aside0.mk ((by rw [hg];exact (below_size (by repeat (first|(with_reducible first|exact HB.out|apply below_alloc|apply pw_below_drewN|apply below_drew1)|exact HB.out))) : w.heap.size ≤ gb101));clear HB;have HB := n0_;have BK101 := n1_;have GW101 := n2_;have GE101 := n3_;clear n0_ n1_ n2_ n3_;clear hb hbox hg)|((with_reducible refine gate_dst (N := 3) rfl ?_);(try (refine gate_guard (by rfl) ?_;dsimp only));refine box_event ?hg (N := 3) ?hd (cs := #[.string a1_0, .string a1_1, .bool a1_2, .slice A1_3 l1_3.length c1_3]) (t := 53) ?hr ?_;(case hd => rfl);(case hg => rfl);(case hr => first|(go_simp;done)|(go_simp;rfl));intro gb102 hg w5 hbox hb;have n0_ := Aside0.mk (blk_below (g := gb101) (o := .cells #[.string a0_0, .string a0_1, .bool a0_2, .slice A0_3 l0_3.length c0_3] 53 (0, 0)) (by (with_reducible repeat (first|refine blk_drewN ?_ _|refine blk_drew ?_|refine blk_alloc ?_ _));exact BK101.out) hb);have n1_ := Aside0.mk (below_step (by repeat (first|(with_reducible first|exact HB.out|apply below_alloc|apply pw_below_drewN|apply below_drew1|refine below_set ?_ GE101.out)|exact HB.out)) hb);have n2_ := Aside0.mk (hbox);have n3_ := Aside0.mk ((by rw [hg];exact (below_size (by repeat (first|(with_reducible first|exact HB.out|apply below_alloc|apply pw_below_drewN|apply below_drew1|refine below_set ?_ GE101.out)|exact HB.out))) : w.heap.size ≤ gb102));have n4_ := Aside0.mk ((by rw [hg];exact (below_size (by repeat (first|(with_reducible first|exact HB.out|apply below_alloc|apply pw_below_drewN|apply below_drew1|refine below_set ?_ GE101.out)|exact HB.out))) : w.heap.size ≤ gb102));have n5_ := Aside0.mk ((by rw [hg];exact Nat.ne_of_lt (blk_lt (g := gb101) (o := .cells #[.string a0_0, .string a0_1, .bool a0_2, .slice A0_3 l0_3.length c0_3] 53 (0, 0)) (by (with_reducible repeat (first|refine blk_drewN ?_ _|refine blk_drew ?_|refine blk_alloc ?_ _));exact BK101.out)) : gb101 ≠ gb102));have n6_ := Aside0.mk ((by rw [hg];exact Nat.ne_of_gt (blk_lt (g := gb101) (o := .cells #[.string a0_0, .string a0_1, .bool a0_2, .slice A0_3 l0_3.length c0_3] 53 (0, 0)) (by (with_reducible repeat (first|refine blk_drewN ?_ _|refine blk_drew ?_|refine blk_alloc ?_ _));exact BK101.out)) : gb102 ≠ gb101));clear BK101;clear HB;have BK101 := n0_;have HB := n1_;have BK102 := n2_;have GW102 := n3_;have GE102 := n4_;have NB101_102 := n5_;have NB102_101 := n6_;clear n0_ n1_ n2_ n3_ n4_ n5_ n6_;clear hb hbox hg))
 (try simp only [Act.put, List.setIfInBounds_toArray, List.set_cons_zero, List.set_cons_succ])
 go_cut [33] (fun v33 wc => ∃ (kq : Nat) (x33_2 : Bool), v33 = .bool x33_2 ∧ Aside0 (impl_same.j0 kq x33_2 a0_0 a0_1 a0_2 l0_3 a1_0 a1_1 a1_2 l1_3 = some r) ∧ Aside0 (kq ≤ k) ∧ Aside0 (wc.heap[gb101]? = some (.cells #[.string a0_0, .string a0_1, .bool a0_2, (.slice A0_3 l0_3.length c0_3)] 53 (0, 0))) ∧ Aside0 (wc.heap[gb102]? = some (.cells #[.string a1_0, .string a1_1, .bool a1_2, (.slice A1_3 l1_3.length c1_3)] 53 (0, 0))) ∧ Aside0 (Below w.heap.size w wc))
 case first =>
  have H := HC3.out
  clear HC3
  by_cases c6 : a0_0.toList = a1_0.toList
  ·rw [if_pos c6] at H
   have c6b0 : (a0_0.toList == a1_0.toList) = true := beq_iff_eq.mpr c6
   have c6b1 : (a0_0.toList != a1_0.toList) = false := bne_eq_false_iff_eq.mpr c6
   clear c6
   (first|rw [c6b0]|(simp only [i64_w, i32_w];rw [c6b0])|skip)
   by_cases c7 : a0_1.toList = a1_1.toList
   ·rw [if_pos c7] at H
    have c7b0 : (a0_1.toList == a1_1.toList) = true := beq_iff_eq.mpr c7
    have c7b1 : (a0_1.toList != a1_1.toList) = false := bne_eq_false_iff_eq.mpr c7
    clear c7
    by_cases c8 : (a0_2 != a1_2) = true
    ·rw [if_pos c8] at H
     have c8b0 : (a0_2 != a1_2) = true := c8
     (try (have c8b1 : decide (a0_2 = a1_2) = false := by simpa using c8))
     (try (have c8b2 : (a0_2 == a1_2) = false := by simpa using c8))
     (try (have c8b3 : ¬ (a0_2 = a1_2) := by simpa using c8))
     clear c8
     have H' := Aside0.mk H
     clear H
     have hnb9 := NB101_102.out
     have hnc9 := NB102_101.out
     have hcz10_0 : w5.cell? ⟨gb101, 0, none⟩ = some (.string a0_0) := (blk_cell BK101.out 0).trans rfl
     have hcz10_1 : w5.cell? ⟨gb101, 1, none⟩ = some (.string a0_1) := (blk_cell BK101.out 1).trans rfl
     have hcz10_2 : w5.cell? ⟨gb101, 2, none⟩ = some (.bool a0_2) := (blk_cell BK101.out 2).trans rfl
     have hcz10_3 : w5.cell? ⟨gb101, 3, none⟩ = some (.slice A0_3 l0_3.length c0_3) := (blk_cell BK101.out 3).trans rfl
     have hfz10_0 := blk_frozen BK101.out 0
     have hfz10_1 := blk_frozen BK101.out 1
     have hfz10_2 := blk_frozen BK101.out 2
     have hfz10_3 := blk_frozen BK101.out 3
     have hcz11_0 : w5.cell? ⟨gb102, 0, none⟩ = some (.string a1_0) := (blk_cell BK102.out 0).trans rfl
     have hcz11_1 : w5.cell? ⟨gb102, 1, none⟩ = some (.string a1_1) := (blk_cell BK102.out 1).trans rfl
     have hcz11_2 : w5.cell? ⟨gb102, 2, none⟩ = some (.bool a1_2) := (blk_cell BK102.out 2).trans rfl
     have hcz11_3 : w5.cell? ⟨gb102, 3, none⟩ = some (.slice A1_3 l1_3.length c1_3) := (blk_cell BK102.out 3).trans rfl
     have hfz11_0 := blk_frozen BK102.out 0
     have hfz11_1 := blk_frozen BK102.out 1
     have hfz11_2 := blk_frozen BK102.out 2
     have hfz11_3 := blk_frozen BK102.out 3
     go_wp2
     go_meet
     case rel => exact ⟨_, (true), (by first|rfl|(simp;done)|(simp [*];done)), H', ⟨by first|omega|exact Nat.le_refl _⟩, ⟨by (with_reducible repeat (first|refine blk_drewN ?_ _|refine blk_drew ?_|refine blk_alloc ?_ _));exact BK101.out⟩, ⟨by (with_reducible repeat (first|refine blk_drewN ?_ _|refine blk_drew ?_|refine blk_alloc ?_ _));exact BK102.out⟩, ⟨by repeat (first|(with_reducible first|exact HB.out|apply below_alloc|apply pw_below_drewN|apply below_drew1|refine below_set ?_ GE101.out|refine below_set ?_ GE102.out)|exact HB.out)⟩⟩
    ·rw [if_neg c8] at H
     have c8b0 : (a0_2 != a1_2) = false := by simpa using c8
     (try (have c8b1 : decide (a0_2 = a1_2) = true := by simpa using c8))
     (try (have c8b2 : (a0_2 == a1_2) = true := by simpa using c8))
     clear c8
     have H' := Aside0.mk H
     clear H
     have hnb12 := NB101_102.out
     have hnc12 := NB102_101.out
     have hcz13_0 : w5.cell? ⟨gb101, 0, none⟩ = some (.string a0_0) := (blk_cell BK101.out 0).trans rfl
     have hcz13_1 : w5.cell? ⟨gb101, 1, none⟩ = some (.string a0_1) := (blk_cell BK101.out 1).trans rfl
     have hcz13_2 : w5.cell? ⟨gb101, 2, none⟩ = some (.bool a0_2) := (blk_cell BK101.out 2).trans rfl
     have hcz13_3 : w5.cell? ⟨gb101, 3, none⟩ = some (.slice A0_3 l0_3.length c0_3) := (blk_cell BK101.out 3).trans rfl
     have hfz13_0 := blk_frozen BK101.out 0
     have hfz13_1 := blk_frozen BK101.out 1
     have hfz13_2 := blk_frozen BK101.out 2
     have hfz13_3 := blk_frozen BK101.out 3
     have hcz14_0 : w5.cell? ⟨gb102, 0, none⟩ = some (.string a1_0) := (blk_cell BK102.out 0).trans rfl
     have hcz14_1 : w5.cell? ⟨gb102, 1, none⟩ = some (.string a1_1) := (blk_cell BK102.out 1).trans rfl
     have hcz14_2 : w5.cell? ⟨gb102, 2, none⟩ = some (.bool a1_2) := (blk_cell BK102.out 2).trans rfl
     have hcz14_3 : w5.cell? ⟨gb102, 3, none⟩ = some (.slice A1_3 l1_3.length c1_3) := (blk_cell BK102.out 3).trans rfl
     have hfz14_0 := blk_frozen BK102.out 0
     have hfz14_1 := blk_frozen BK102.out 1
     have hfz14_2 := blk_frozen BK102.out 2
     have hfz14_3 := blk_frozen BK102.out 3
     go_wp2
     go_meet
     case rel => exact ⟨_, (((l0_3.length : Int) != (l1_3.length : Int))), (by first|rfl|(simp;done)|(simp [*];done)), H', ⟨by first|omega|exact Nat.le_refl _⟩, ⟨by (with_reducible repeat (first|refine blk_drewN ?_ _|refine blk_drew ?_|refine blk_alloc ?_ _));exact BK101.out⟩, ⟨by (with_reducible repeat (first|refine blk_drewN ?_ _|refine blk_drew ?_|refine blk_alloc ?_ _));exact BK102.out⟩, ⟨by repeat (first|(with_reducible first|exact HB.out|apply below_alloc|apply pw_below_drewN|apply below_drew1|refine below_set ?_ GE101.out|refine below_set ?_ GE102.out)|exact HB.out)⟩⟩
   ·rw [if_neg c7] at H
    have c7b0 : (a0_1.toList == a1_1.toList) = false := beq_eq_false_iff_ne.mpr c7
    have c7b1 : (a0_1.toList != a1_1.toList) = true := bne_iff_ne.mpr c7
    have H' := Aside0.mk H
    clear H
    have hnb15 := NB101_102.out
    have hnc15 := NB102_101.out
    have hcz16_0 : w5.cell? ⟨gb101, 0, none⟩ = some (.string a0_0) := (blk_cell BK101.out 0).trans rfl
    have hcz16_1 : w5.cell? ⟨gb101, 1, none⟩ = some (.string a0_1) := (blk_cell BK101.out 1).trans rfl
    have hcz16_2 : w5.cell? ⟨gb101, 2, none⟩ = some (.bool a0_2) := (blk_cell BK101.out 2).trans rfl
    have hcz16_3 : w5.cell? ⟨gb101, 3, none⟩ = some (.slice A0_3 l0_3.length c0_3) := (blk_cell BK101.out 3).trans rfl
    have hfz16_0 := blk_frozen BK101.out 0
    have hfz16_1 := blk_frozen BK101.out 1
    have hfz16_2 := blk_frozen BK101.out 2
    have hfz16_3 := blk_frozen BK101.out 3
    have hcz17_0 : w5.cell? ⟨gb102, 0, none⟩ = some (.string a1_0) := (blk_cell BK102.out 0).trans rfl
    have hcz17_1 : w5.cell? ⟨gb102, 1, none⟩ = some (.string a1_1) := (blk_cell BK102.out 1).trans rfl
    have hcz17_2 : w5.cell? ⟨gb102, 2, none⟩ = some (.bool a1_2) := (blk_cell BK102.out 2).trans rfl
    have hcz17_3 : w5.cell? ⟨gb102, 3, none⟩ = some (.slice A1_3 l1_3.length c1_3) := (blk_cell BK102.out 3).trans rfl
    have hfz17_0 := blk_frozen BK102.out 0
    have hfz17_1 := blk_frozen BK102.out 1
    have hfz17_2 := blk_frozen BK102.out 2
    have hfz17_3 := blk_frozen BK102.out 3
    go_wp2
    go_meet
    case rel => exact ⟨_, (true), (by first|rfl|(simp;done)|(simp [*];done)), H', ⟨by first|omega|exact Nat.le_refl _⟩, ⟨by (with_reducible repeat (first|refine blk_drewN ?_ _|refine blk_drew ?_|refine blk_alloc ?_ _));exact BK101.out⟩, ⟨by (with_reducible repeat (first|refine blk_drewN ?_ _|refine blk_drew ?_|refine blk_alloc ?_ _));exact BK102.out⟩, ⟨by repeat (first|(with_reducible first|exact HB.out|apply below_alloc|apply pw_below_drewN|apply below_drew1|refine below_set ?_ GE101.out|refine below_set ?_ GE102.out)|exact HB.out)⟩⟩
  ·rw [if_neg c6] at H
   have c6b0 : (a0_0.toList == a1_0.toList) = false := beq_eq_false_iff_ne.mpr c6
   have c6b1 : (a0_0.toList != a1_0.toList) = true := bne_iff_ne.mpr c6
   (first|rw [c6b0]|(simp only [i64_w, i32_w];rw [c6b0])|skip)
   have H' := Aside0.mk H
   clear H
   have hnb18 := NB101_102.out
   have hnc18 := NB102_101.out
   have hcz19_0 : w5.cell? ⟨gb101, 0, none⟩ = some (.string a0_0) := (blk_cell BK101.out 0).trans rfl
   have hcz19_1 : w5.cell? ⟨gb101, 1, none⟩ = some (.string a0_1) := (blk_cell BK101.out 1).trans rfl
   have hcz19_2 : w5.cell? ⟨gb101, 2, none⟩ = some (.bool a0_2) := (blk_cell BK101.out 2).trans rfl
   have hcz19_3 : w5.cell? ⟨gb101, 3, none⟩ = some (.slice A0_3 l0_3.length c0_3) := (blk_cell BK101.out 3).trans rfl
   have hfz19_0 := blk_frozen BK101.out 0
   have hfz19_1 := blk_frozen BK101.out 1
   have hfz19_2 := blk_frozen BK101.out 2
   have hfz19_3 := blk_frozen BK101.out 3
   have hcz20_0 : w5.cell? ⟨gb102, 0, none⟩ = some (.string a1_0) := (blk_cell BK102.out 0).trans rfl
   have hcz20_1 : w5.cell? ⟨gb102, 1, none⟩ = some (.string a1_1) := (blk_cell BK102.out 1).trans rfl
   have hcz20_2 : w5.cell? ⟨gb102, 2, none⟩ = some (.bool a1_2) := (blk_cell BK102.out 2).trans rfl
   have hcz20_3 : w5.cell? ⟨gb102, 3, none⟩ = some (.slice A1_3 l1_3.length c1_3) := (blk_cell BK102.out 3).trans rfl
   have hfz20_0 := blk_frozen BK102.out 0
   have hfz20_1 := blk_frozen BK102.out 1
   have hfz20_2 := blk_frozen BK102.out 2
   have hfz20_3 := blk_frozen BK102.out 3
   go_wp2
   go_meet
   case rel => exact ⟨_, (true), (by first|rfl|(simp;done)|(simp [*];done)), H', ⟨by first|omega|exact Nat.le_refl _⟩, ⟨by (with_reducible repeat (first|refine blk_drewN ?_ _|refine blk_drew ?_|refine blk_alloc ?_ _));exact BK101.out⟩, ⟨by (with_reducible repeat (first|refine blk_drewN ?_ _|refine blk_drew ?_|refine blk_alloc ?_ _));exact BK102.out⟩, ⟨by repeat (first|(with_reducible first|exact HB.out|apply below_alloc|apply pw_below_drewN|apply below_drew1|refine below_set ?_ GE101.out|refine below_set ?_ GE102.out)|exact HB.out)⟩⟩
 case rest =>
  clear HC3
  try clear c1
  try clear p2
  try clear c6
  try clear c6b0
  try clear c6b1
  try clear c7
  try clear c7b0
  try clear c7b1
  try clear c8
  try clear c8b0
  try clear c8b1
  try clear c8b2
  try clear c9
  try clear c12
  try clear c15
  try clear c18
  try clear hcz10_0
  try clear hcz10_1
  try clear hcz10_2
  try clear hcz10_3
  try clear hcz11_0
  try clear hcz11_1
  try clear hcz11_2
  try clear hcz11_3
  try clear hcz13_0
  try clear hcz13_1
  try clear hcz13_2
  try clear hcz13_3
  try clear hcz14_0
  try clear hcz14_1
  try clear hcz14_2
  try clear hcz14_3
  try clear hcz16_0
  try clear hcz16_1
  try clear hcz16_2
  try clear hcz16_3
  try clear hcz17_0
  try clear hcz17_1
  try clear hcz17_2
  try clear hcz17_3
  try clear hcz19_0
  try clear hcz19_1
  try clear hcz19_2
  try clear hcz19_3
  try clear hcz20_0
  try clear hcz20_1
  try clear hcz20_2
  try clear hcz20_3
  try clear hfz10_0
  try clear hfz10_1
  try clear hfz10_2
  try clear hfz10_3
  try clear hfz11_0
  try clear hfz11_1
  try clear hfz11_2
  try clear hfz11_3
  try clear hfz13_0
  try clear hfz13_1
  try clear hfz13_2
  try clear hfz13_3
  try clear hfz14_0
  try clear hfz14_1
  try clear hfz14_2
  try clear hfz14_3
  try clear hfz16_0
  try clear hfz16_1
  try clear hfz16_2
  try clear hfz16_3
  try clear hfz17_0
  try clear hfz17_1
  try clear hfz17_2
  try clear hfz17_3
  try clear hfz19_0
  try clear hfz19_1
  try clear hfz19_2
  try clear hfz19_3
  try clear hfz20_0
  try clear hfz20_1
  try clear hfz20_2
  try clear hfz20_3
  obtain ⟨kq, x33_2, rfl, HA, HJ2, BK101, BK102, HB⟩ := hcut
  cases kq with
  | zero => exact absurd HA.out (by simp [impl_same.j0])
  | succ kj2 =>
   have H := HA.out
   clear HA
   simp only [impl_same.j0] at H
   by_cases c21 : x33_2 = true
   ·subst c21
    have H1 : (some false) = some r := by rw [if_pos rfl] at H;exact H
    clear H
    have H := H1
    clear H1
    obtain rfl := Option.some.inj H
    go_wp2
    go_ret
    exact ⟨by first|rfl|(simp [errW_none, errW_some] <;> rfl)|(simp [*, errW_none, errW_some] <;> rfl), by repeat (first|(with_reducible first|exact HB.out|apply below_alloc|apply pw_below_drewN|apply below_drew1|refine below_set ?_ GE101.out|refine below_set ?_ GE102.out)|exact HB.out)⟩
   ·replace c21 := Bool.eq_false_iff.mpr c21
    subst c21
    have H1 : (impl_same.l0 kj2 (l0_3.length : Int) 0 a0_0 a0_1 a0_2 l0_3 a1_0 a1_1 a1_2 l1_3) = some r := by rw [if_neg (show ¬ (false = true) by decide)] at H;exact H
    clear H
    have H := H1
    clear H1
    have H' := Aside0.mk H
    clear H
    have hnb22 := NB101_102.out
    have hnc22 := NB102_101.out
    have hcz23_0 : wc.cell? ⟨gb101, 0, none⟩ = some (.string a0_0) := (blk_cell BK101.out 0).trans rfl
    have hcz23_1 : wc.cell? ⟨gb101, 1, none⟩ = some (.string a0_1) := (blk_cell BK101.out 1).trans rfl
    have hcz23_2 : wc.cell? ⟨gb101, 2, none⟩ = some (.bool a0_2) := (blk_cell BK101.out 2).trans rfl
    have hcz23_3 : wc.cell? ⟨gb101, 3, none⟩ = some (.slice A0_3 l0_3.length c0_3) := (blk_cell BK101.out 3).trans rfl
    have hfz23_0 := blk_frozen BK101.out 0
    have hfz23_1 := blk_frozen BK101.out 1
    have hfz23_2 := blk_frozen BK101.out 2
    have hfz23_3 := blk_frozen BK101.out 3
    go_wp2
    go_loopg [37] kj2 (fun kq v37 w' => ∃ (x37_2 : Int), v37 = .int .i64 x37_2 ∧ Aside0 (impl_same.l0 kq (l0_3.length : Int) x37_2 a0_0 a0_1 a0_2 l0_3 a1_0 a1_1 a1_2 l1_3 = some r) ∧ Aside0 (kq ≤ kj2) ∧ Aside0 (w'.heap[gb101]? = some (.cells #[.string a0_0, .string a0_1, .bool a0_2, (.slice A0_3 l0_3.length c0_3)] 53 (0, 0))) ∧ Aside0 (w'.heap[gb102]? = some (.cells #[.string a1_0, .string a1_1, .bool a1_2, (.slice A1_3 l1_3.length c1_3)] 53 (0, 0))) ∧ Aside0 (Below w.heap.size w w'))
    case atStart => exact ⟨(0), (by first|rfl|(simp;done)|(simp [*];done)), H', ⟨Nat.le_refl _⟩, ⟨by (with_reducible repeat (first|refine blk_drewN ?_ _|refine blk_drew ?_|refine blk_alloc ?_ _));exact BK101.out⟩, ⟨by (with_reducible repeat (first|refine blk_drewN ?_ _|refine blk_drew ?_|refine blk_alloc ?_ _));exact BK102.out⟩, ⟨by repeat (first|(with_reducible first|exact HB.out|apply below_alloc|apply pw_below_drewN|apply below_drew1|refine below_set ?_ GE101.out|refine below_set ?_ GE102.out)|exact HB.out)⟩⟩
    case round =>
     clear H'
     try clear c1
     try clear c2
     try clear p2
     try clear c6
     try clear c6b0
     try clear c6b1
     try clear c7
     try clear c7b0
     try clear c7b1
     try clear c8
     try clear c8b0
     try clear c8b1
     try clear c8b2
     try clear c9
     try clear c12
     try clear c15
     try clear c18
     try clear c21
     try clear c22
     try clear hcz10_0
     try clear hcz10_1
     try clear hcz10_2
     try clear hcz10_3
     try clear hcz11_0
     try clear hcz11_1
     try clear hcz11_2
     try clear hcz11_3
     try clear hcz13_0
     try clear hcz13_1
     try clear hcz13_2
     try clear hcz13_3
     try clear hcz14_0
     try clear hcz14_1
     try clear hcz14_2
     try clear hcz14_3
     try clear hcz16_0
     try clear hcz16_1
     try clear hcz16_2
     try clear hcz16_3
     try clear hcz17_0
     try clear hcz17_1
     try clear hcz17_2
     try clear hcz17_3
     try clear hcz19_0
     try clear hcz19_1
     try clear hcz19_2
     try clear hcz19_3
     try clear hcz20_0
     try clear hcz20_1
     try clear hcz20_2
     try clear hcz20_3
     try clear hcz23_0
     try clear hcz23_1
     try clear hcz23_2
     try clear hcz23_3
     try clear hfz10_0
     try clear hfz10_1
     try clear hfz10_2
     try clear hfz10_3
     try clear hfz11_0
     try clear hfz11_1
     try clear hfz11_2
     try clear hfz11_3
     try clear hfz13_0
     try clear hfz13_1
     try clear hfz13_2
     try clear hfz13_3
     try clear hfz14_0
     try clear hfz14_1
     try clear hfz14_2
     try clear hfz14_3
     try clear hfz16_0
     try clear hfz16_1
     try clear hfz16_2
     try clear hfz16_3
     try clear hfz17_0
     try clear hfz17_1
     try clear hfz17_2
     try clear hfz17_3
     try clear hfz19_0
     try clear hfz19_1
     try clear hfz19_2
     try clear hfz19_3
     try clear hfz20_0
     try clear hfz20_1
     try clear hfz20_2
     try clear hfz20_3
     try clear hfz23_0
     try clear hfz23_1
     try clear hfz23_2
     try clear hfz23_3
     try clear p2
     obtain ⟨x37_2, rfl, HA, HK2, BK101, BK102, HB⟩ := hrel
     cases gk with
     | zero => exact absurd HA.out (by simp [impl_same.l0])
     | succ k2 =>
      have H := HA.out
      clear HA
      simp only [impl_same.l0] at H
      by_cases c24 : x37_2 < (l0_3.length : Int)
      ·rw [if_pos c24] at H
       have c24b0 : decide (x37_2 < (l0_3.length : Int)) = true := decide_eq_true c24
       clear c24
       by_cases c25 : 0 ≤ x37_2
       ·rw [if_pos c25] at H
        have c25b0 : decide (0 ≤ x37_2) = true := decide_eq_true c25
        clear c25
        by_cases c26 : x37_2 < (l0_3.length : Int)
        ·rw [if_pos c26] at H
         have c26b0 : decide (x37_2 < (l0_3.length : Int)) = true := decide_eq_true c26
         clear c26
         by_cases c27 : x37_2 < (l1_3.length : Int)
         ·rw [if_pos c27] at H
          have c27b0 : decide (x37_2 < (l1_3.length : Int)) = true := decide_eq_true c27
          clear c27
          replace H := Option.bind_eq_some_iff.mp H
          obtain ⟨t105, A280, H⟩ := H
          replace H : (if t105 = true then (impl_same.l0 k2 (l0_3.length : Int) (wrap64 (x37_2 + 1)) a0_0 a0_1 a0_2 l0_3 a1_0 a1_1 a1_2 l1_3) else (some false)) = some r := H
          have A28 := Aside0.mk A280
          clear A280
          by_cases c29 : t105 = true
          ·subst c29
           have H1 : (impl_same.l0 k2 (l0_3.length : Int) (wrap64 (x37_2 + 1)) a0_0 a0_1 a0_2 l0_3 a1_0 a1_1 a1_2 l1_3) = some r := by rw [if_pos rfl] at H;exact H
           clear H
           have H := H1
           clear H1
           have H' := Aside0.mk H
           clear H
           try go_wp2
           have n0_ := Aside0.mk (blk_drew BK101.out)
           have n1_ := Aside0.mk (blk_drew BK102.out)
           have n2_ := Aside0.mk (below_drew1 HB.out)
           clear BK101
           clear BK102
           clear HB
           have BK101 := n0_
           have BK102 := n1_
           have HB := n2_
           clear n0_ n1_ n2_
           have p103 : 0 ≤ (x37_2 : Int) := of_decide_eq_true (by first|(with_reducible assumption)|assumption)
           have q103 : x37_2 < (l0_3.length : Int) := of_decide_eq_true (by first|(with_reducible assumption)|assumption)
           obtain ⟨ad103, A103_3, c103_3, e103, hx103_0, hx103_1, hx103_2, hx103_3, hl103_3, hi103_3⟩ := at_T53 HR0_3.out x37_2 p103 q103
           have hw103_3 := hx103_3
           have hw103_2 := hx103_2
           have hw103_1 := hx103_1
           have hw103_0 := hx103_0
           cases e103
           replace hx103_0 := (HB.out.cell (World.block_lt_of_cell? w _ hx103_0)).trans hx103_0
           replace hx103_1 := (HB.out.cell (World.block_lt_of_cell? w _ hx103_1)).trans hx103_1
           replace hx103_2 := (HB.out.cell (World.block_lt_of_cell? w _ hx103_2)).trans hx103_2
           replace hx103_3 := (HB.out.cell (World.block_lt_of_cell? w _ hx103_3)).trans hx103_3
           have HR103_3 := Aside0.mk hi103_3
           have HC103_3 := Aside0.mk hl103_3
           clear hi103_3 hl103_3
           replace p103 := eq_true p103
           replace q103 := eq_true q103
           have p104 : 0 ≤ (x37_2 : Int) := of_decide_eq_true (by first|(with_reducible assumption)|assumption)
           have q104 : x37_2 < (l1_3.length : Int) := of_decide_eq_true (by first|(with_reducible assumption)|assumption)
           obtain ⟨ad104, A104_3, c104_3, e104, hx104_0, hx104_1, hx104_2, hx104_3, hl104_3, hi104_3⟩ := at_T53 HR1_3.out x37_2 p104 q104
           have hw104_3 := hx104_3
           have hw104_2 := hx104_2
           have hw104_1 := hx104_1
           have hw104_0 := hx104_0
           cases e104
           replace hx104_0 := (HB.out.cell (World.block_lt_of_cell? w _ hx104_0)).trans hx104_0
           replace hx104_1 := (HB.out.cell (World.block_lt_of_cell? w _ hx104_1)).trans hx104_1
           replace hx104_2 := (HB.out.cell (World.block_lt_of_cell? w _ hx104_2)).trans hx104_2
           replace hx104_3 := (HB.out.cell (World.block_lt_of_cell? w _ hx104_3)).trans hx104_3
           have HR104_3 := Aside0.mk hi104_3
           have HC104_3 := Aside0.mk hl104_3
           clear hi104_3 hl104_3
           replace p104 := eq_true p104
           replace q104 := eq_true q104
           refine start_ (n := 12) (S := fun w' => w'.cell? ⟨gb101, 0, none⟩ = some (.string a0_0) ∧ w'.cell? ⟨gb101, 1, none⟩ = some (.string a0_1) ∧ w'.cell? ⟨gb101, 2, none⟩ = some (.bool a0_2) ∧ w'.cell? ⟨gb101, 3, none⟩ = some (.slice (some ad103) l0_3.length c0_3) ∧ w'.cell? ⟨gb102, 0, none⟩ = some (.string a1_0) ∧ w'.cell? ⟨gb102, 1, none⟩ = some (.string a1_1) ∧ w'.cell? ⟨gb102, 2, none⟩ = some (.bool a1_2) ∧ w'.cell? ⟨gb102, 3, none⟩ = some (.slice (some ad104) l1_3.length c1_3) ∧ w'.cell? (ad103.add ((x37_2).toNat * 4)) = some (.string ((rd_T53 l0_3 x37_2).f0)) ∧ w'.cell? ⟨(ad103.add ((x37_2).toNat * 4)).block, (ad103.add ((x37_2).toNat * 4)).off + 1, none⟩ = some (.string ((rd_T53 l0_3 x37_2).f1)) ∧ w'.cell? ⟨(ad103.add ((x37_2).toNat * 4)).block, (ad103.add ((x37_2).toNat * 4)).off + 2, none⟩ = some (.bool ((rd_T53 l0_3 x37_2).f2)) ∧ w'.cell? ⟨(ad103.add ((x37_2).toNat * 4)).block, (ad103.add ((x37_2).toNat * 4)).off + 3, none⟩ = some (.slice A103_3 ((rd_T53 l0_3 x37_2).f3).length c103_3) ∧ w'.cell? (ad104.add ((x37_2).toNat * 4)) = some (.string ((rd_T53 l1_3 x37_2).f0)) ∧ w'.cell? ⟨(ad104.add ((x37_2).toNat * 4)).block, (ad104.add ((x37_2).toNat * 4)).off + 1, none⟩ = some (.string ((rd_T53 l1_3 x37_2).f1)) ∧ w'.cell? ⟨(ad104.add ((x37_2).toNat * 4)).block, (ad104.add ((x37_2).toNat * 4)).off + 2, none⟩ = some (.bool ((rd_T53 l1_3 x37_2).f2)) ∧ w'.cell? ⟨(ad104.add ((x37_2).toNat * 4)).block, (ad104.add ((x37_2).toNat * 4)).off + 3, none⟩ = some (.slice A104_3 ((rd_T53 l1_3 x37_2).f3).length c104_3)) (ds := []) #[false, false, false, false, false, false, false, false, false, false, false, false] (by kernel_rfl) rfl rfl ⟨(blk_cell BK101.out 0).trans rfl, (blk_cell BK101.out 1).trans rfl, (blk_cell BK101.out 2).trans rfl, (blk_cell BK101.out 3).trans rfl, (blk_cell BK102.out 0).trans rfl, (blk_cell BK102.out 1).trans rfl, (blk_cell BK102.out 2).trans rfl, (blk_cell BK102.out 3).trans rfl, ((HB.out.cell (World.block_lt_of_cell? w _ hw103_0)).trans hw103_0), ((HB.out.cell (World.block_lt_of_cell? w _ hw103_1)).trans hw103_1), ((HB.out.cell (World.block_lt_of_cell? w _ hw103_2)).trans hw103_2), ((HB.out.cell (World.block_lt_of_cell? w _ hw103_3)).trans hw103_3), ((HB.out.cell (World.block_lt_of_cell? w _ hw104_0)).trans hw104_0), ((HB.out.cell (World.block_lt_of_cell? w _ hw104_1)).trans hw104_1), ((HB.out.cell (World.block_lt_of_cell? w _ hw104_2)).trans hw104_2), ((HB.out.cell (World.block_lt_of_cell? w _ hw104_3)).trans hw104_3)⟩ (fun hHeld => ?_);refine with_tabW impl_same.tab6 impl_same.bits6 (fun HT_ HW_ => ?_)
           generalize wr.drew = w30 at BK101 BK102 HB HR103_3 HR104_3 hx103_0 hx103_1 hx103_2 hx103_3 hx104_0 hx104_1 hx104_2 hx104_3 hHeld ⊢
           refine pure_ (i := 0) (N := some 40) (v := ?_) (a' := ?_) #[true, false, false, false, false, false, false, false, false, false, false, false] rfl rfl (any_of HT_.out (by kernel_rfl)) (fun _ _ _ h => h) (Or.inl ⟨by rfl, ?_⟩) ?_ ?_
           rotate_left
           ·intro w'
            go_simp
            with_reducible rfl
           rotate_left
           ·simp only [Act.put, List.setIfInBounds_toArray, List.set_cons_zero, List.set_cons_succ, i64_w, i32_w]
            rfl
           refine pure_ (i := 2) (N := some 42) (v := ?_) (a' := ?_) #[true, false, true, false, false, false, false, false, false, false, false, false] rfl rfl (any_of HT_.out (by kernel_rfl)) (fun _ _ _ h => h) (Or.inl ⟨by rfl, ?_⟩) ?_ ?_
           rotate_left
           ·intro w'
            go_simp
            with_reducible rfl
           rotate_left
           ·simp only [Act.put, List.setIfInBounds_toArray, List.set_cons_zero, List.set_cons_succ, i64_w, i32_w]
            rfl
           refine pure_ (i := 5) (N := some 45) (v := ?_) (a' := ?_) #[true, false, true, false, false, true, false, false, false, false, false, false] rfl rfl (any_of HT_.out (by kernel_rfl)) (fun _ _ _ h => h) (Or.inl ⟨by rfl, ?_⟩) ?_ ?_
           rotate_left
           ·intro w'
            go_simp
            with_reducible rfl
           rotate_left
           ·simp only [Act.put, List.setIfInBounds_toArray, List.set_cons_zero, List.set_cons_succ, i64_w, i32_w]
            rfl
           refine pure_ (i := 7) (N := some 47) (v := ?_) (a' := ?_) #[true, false, true, false, false, true, false, true, false, false, false, false] rfl rfl (any_of HT_.out (by kernel_rfl)) (fun _ _ _ h => h) (Or.inl ⟨by rfl, ?_⟩) ?_ ?_
           rotate_left
           ·intro w'
            go_simp
            with_reducible rfl
           rotate_left
           ·simp only [Act.put, List.setIfInBounds_toArray, List.set_cons_zero, List.set_cons_succ, i64_w, i32_w]
            rfl
           refine take_ (i := 1) (N := some 41) (v := ?_) (a' := ?_) #[true, true, true, false, false, true, false, true, false, false, false, false] rfl rfl (take_ofW HT_.out HW_.out (by kernel_rfl)) (fun _ _ _ h => h) (Or.inl ⟨by rfl, ?_⟩) hHeld ?_ ?_
           rotate_left
           ·rintro w' ⟨s0, s1, s2, s3, s4, s5, s6, s7, s8, s9, s10, s11, s12, s13, s14, s15⟩
            go_simp
            with_reducible rfl
           rotate_left
           ·simp only [Act.put, List.setIfInBounds_toArray, List.set_cons_zero, List.set_cons_succ, i64_w, i32_w]
            rfl
           refine pure_ (i := 3) (N := some 43) (v := ?_) (a' := ?_) #[true, true, true, true, false, true, false, true, false, false, false, false] rfl rfl (any_of HT_.out (by kernel_rfl)) (fun _ _ _ h => h) (Or.inl ⟨by rfl, ?_⟩) ?_ ?_
           rotate_left
           ·intro w'
            go_simp
            with_reducible rfl
           rotate_left
           ·simp only [Act.put, List.setIfInBounds_toArray, List.set_cons_zero, List.set_cons_succ, i64_w, i32_w]
            rfl
           refine take_ (i := 4) (N := some 44) (v := ?_) (a' := ?_) #[true, true, true, true, true, true, false, true, false, false, false, false] rfl rfl (take_ofW HT_.out HW_.out (by kernel_rfl)) (fun _ _ _ h => h) (Or.inl ⟨by rfl, ?_⟩) hHeld ?_ ?_
           rotate_left
           ·rintro w' ⟨s0, s1, s2, s3, s4, s5, s6, s7, s8, s9, s10, s11, s12, s13, s14, s15⟩
            go_simp
            with_reducible rfl
           rotate_left
           ·simp only [Act.put, List.setIfInBounds_toArray, List.set_cons_zero, List.set_cons_succ, i64_w, i32_w]
            rfl
           refine take_ (i := 6) (N := some 46) (v := ?_) (a' := ?_) #[true, true, true, true, true, true, true, true, false, false, false, false] rfl rfl (take_ofW HT_.out HW_.out (by kernel_rfl)) (fun _ _ _ h => h) (Or.inl ⟨by rfl, ?_⟩) hHeld ?_ ?_
           rotate_left
           ·rintro w' ⟨s0, s1, s2, s3, s4, s5, s6, s7, s8, s9, s10, s11, s12, s13, s14, s15⟩
            go_simp
            with_reducible rfl
           rotate_left
           ·simp only [Act.put, List.setIfInBounds_toArray, List.set_cons_zero, List.set_cons_succ, i64_w, i32_w]
            rfl
           refine pure_ (i := 8) (N := some 48) (v := ?_) (a' := ?_) #[true, true, true, true, true, true, true, true, true, false, false, false] rfl rfl (any_of HT_.out (by kernel_rfl)) (fun _ _ _ h => h) (Or.inl ⟨by rfl, ?_⟩) ?_ ?_
           rotate_left
           ·intro w'
            go_simp
            with_reducible rfl
           rotate_left
           ·simp only [Act.put, List.setIfInBounds_toArray, List.set_cons_zero, List.set_cons_succ, i64_w, i32_w]
            rfl
           refine take_ (i := 9) (N := some 49) (v := ?_) (a' := ?_) #[true, true, true, true, true, true, true, true, true, true, false, false] rfl rfl (take_ofW HT_.out HW_.out (by kernel_rfl)) (fun _ _ _ h => h) (Or.inl ⟨by rfl, ?_⟩) hHeld ?_ ?_
           rotate_left
           ·rintro w' ⟨s0, s1, s2, s3, s4, s5, s6, s7, s8, s9, s10, s11, s12, s13, s14, s15⟩
            go_simp
            with_reducible rfl
           rotate_left
           ·simp only [Act.put, List.setIfInBounds_toArray, List.set_cons_zero, List.set_cons_succ, i64_w, i32_w]
            rfl
           refine one_ (i := 10) (N := some 50) #[true, true, true, true, true, true, true, true, true, true, true, false] rfl rfl (one_of HT_.out (by kernel_rfl)) (by decide) (fun K hK => ?_)
           refine goes_ Try.func120 (by kernel_rfl) rfl #[.agg #[.string ((rd_T53 l0_3 x37_2).f0), .string ((rd_T53 l0_3 x37_2).f1), .bool ((rd_T53 l0_3 x37_2).f2), .slice A103_3 ((rd_T53 l0_3 x37_2).f3).length c103_3], .agg #[.string ((rd_T53 l1_3 x37_2).f0), .string ((rd_T53 l1_3 x37_2).f1), .bool ((rd_T53 l1_3 x37_2).f2), .slice A104_3 ((rd_T53 l1_3 x37_2).f3).length c104_3]] (by rfl) rfl rfl (by (try simp only [List.map_toArray, List.map_cons, List.map_nil]);first|done|rfl|(simp only [List.length_drop, List.length_take];rfl)) ?_
           with_reducible refine (ih k2 (by have := HJ2.out;have := HK2.out;omega) ((rd_T53 l0_3 x37_2).f0) ((rd_T53 l0_3 x37_2).f1) ((rd_T53 l0_3 x37_2).f2) _ _ ((rd_T53 l0_3 x37_2).f3) ((rd_T53 l1_3 x37_2).f0) ((rd_T53 l1_3 x37_2).f1) ((rd_T53 l1_3 x37_2).f2) _ _ ((rd_T53 l1_3 x37_2).f3) true _ ?side1 ?side2 ?side3 ?side4 A28.out).mono ?_
           (case side1 => repeat (first|exact (Kd.C_below HR103_3.out HB.out)|(with_reducible refine Kd.C_alloc ?_ _)|(with_reducible refine Kd.C_drewN ?_ _)|(with_reducible refine Kd.C_drew ?_)))
           (case side2 => exact HC103_3.out)
           (case side3 => repeat (first|exact (Kd.C_below HR104_3.out HB.out)|(with_reducible refine Kd.C_alloc ?_ _)|(with_reducible refine Kd.C_drewN ?_ _)|(with_reducible refine Kd.C_drew ?_)))
           (case side4 => exact HC104_3.out)
           rintro e w31 ⟨rfl, hb⟩
           refine ⟨_, rfl, ?_⟩
           have n0_ := Aside0.mk (blk_below (g := gb101) (o := .cells #[.string a0_0, .string a0_1, .bool a0_2, .slice (some ad103) l0_3.length c0_3] 53 (0, 0)) (by (with_reducible repeat (first|refine blk_drewN ?_ _|refine blk_drew ?_|refine blk_alloc ?_ _));exact BK101.out) hb)
           have n1_ := Aside0.mk (blk_below (g := gb102) (o := .cells #[.string a1_0, .string a1_1, .bool a1_2, .slice (some ad104) l1_3.length c1_3] 53 (0, 0)) (by (with_reducible repeat (first|refine blk_drewN ?_ _|refine blk_drew ?_|refine blk_alloc ?_ _));exact BK102.out) hb)
           have n2_ := Aside0.mk (below_step (by repeat (first|(with_reducible first|exact HB.out|apply below_alloc|apply pw_below_drewN|apply below_drew1|refine below_set ?_ GE101.out|refine below_set ?_ GE102.out)|exact HB.out)) hb)
           clear BK101
           clear BK102
           clear HB
           have BK101 := n0_
           have BK102 := n1_
           have HB := n2_
           clear n0_ n1_ n2_
           (try clear hb)
           (try clear hb2)
           (try clear hk)
           (try clear hi)
           refine hK.out _ _ ⟨(blk_cell BK101.out 0).trans rfl, (blk_cell BK101.out 1).trans rfl, (blk_cell BK101.out 2).trans rfl, (blk_cell BK101.out 3).trans rfl, (blk_cell BK102.out 0).trans rfl, (blk_cell BK102.out 1).trans rfl, (blk_cell BK102.out 2).trans rfl, (blk_cell BK102.out 3).trans rfl, ((HB.out.cell (World.block_lt_of_cell? w _ hw103_0)).trans hw103_0), ((HB.out.cell (World.block_lt_of_cell? w _ hw103_1)).trans hw103_1), ((HB.out.cell (World.block_lt_of_cell? w _ hw103_2)).trans hw103_2), ((HB.out.cell (World.block_lt_of_cell? w _ hw103_3)).trans hw103_3), ((HB.out.cell (World.block_lt_of_cell? w _ hw104_0)).trans hw104_0), ((HB.out.cell (World.block_lt_of_cell? w _ hw104_1)).trans hw104_1), ((HB.out.cell (World.block_lt_of_cell? w _ hw104_2)).trans hw104_2), ((HB.out.cell (World.block_lt_of_cell? w _ hw104_3)).trans hw104_3)⟩ (fun hHeld => ?_)
           clear hK K
           refine norm_ (a' := ?_) ?_ ?_
           rotate_left
           ·show Act.put _ (some 50) _ = _
            simp only [Act.put, List.setIfInBounds_toArray, List.set_cons_zero, List.set_cons_succ, i64_w, i32_w]
            rfl
           refine pure_ (i := 11) (N := some 51) (v := ?_) (a' := ?_) #[true, true, true, true, true, true, true, true, true, true, true, true] rfl rfl (any_of HT_.out (by kernel_rfl)) (fun _ _ _ h => h) (Or.inl ⟨by rfl, ?_⟩) ?_ ?_
           rotate_left
           ·intro w'
            go_simp
            with_reducible rfl
           rotate_left
           ·simp only [Act.put, List.setIfInBounds_toArray, List.set_cons_zero, List.set_cons_succ, i64_w, i32_w]
            rfl
           refine done_ (done_of HT_.out (by kernel_rfl)) ?_
           try go_wp2
           go_roundg k2
           case measure => have := HJ2.out;have := HK2.out;omega
           case rel => exact ⟨(wrap64 (x37_2 + 1)), (by first|rfl|(simp;done)|(simp [*];done)), H', ⟨by have := HJ2.out;have := HK2.out;omega⟩, ⟨by (with_reducible repeat (first|refine blk_drewN ?_ _|refine blk_drew ?_|refine blk_alloc ?_ _));exact BK101.out⟩, ⟨by (with_reducible repeat (first|refine blk_drewN ?_ _|refine blk_drew ?_|refine blk_alloc ?_ _));exact BK102.out⟩, ⟨by repeat (first|(with_reducible first|exact HB.out|apply below_alloc|apply pw_below_drewN|apply below_drew1|refine below_set ?_ GE101.out|refine below_set ?_ GE102.out)|exact HB.out)⟩⟩
          ·replace c29 := Bool.eq_false_iff.mpr c29
           subst c29
           have H1 : (some false) = some r := by rw [if_neg (show ¬ (false = true) by decide)] at H;exact H
           clear H
           have H := H1
           clear H1
           obtain rfl := Option.some.inj H
           try go_wp2
           have n0_ := Aside0.mk (blk_drew BK101.out)
           have n1_ := Aside0.mk (blk_drew BK102.out)
           have n2_ := Aside0.mk (below_drew1 HB.out)
           clear BK101
           clear BK102
           clear HB
           have BK101 := n0_
           have BK102 := n1_
           have HB := n2_
           clear n0_ n1_ n2_
           have p103 : 0 ≤ (x37_2 : Int) := of_decide_eq_true (by first|(with_reducible assumption)|assumption)
           have q103 : x37_2 < (l0_3.length : Int) := of_decide_eq_true (by first|(with_reducible assumption)|assumption)
           obtain ⟨ad103, A103_3, c103_3, e103, hx103_0, hx103_1, hx103_2, hx103_3, hl103_3, hi103_3⟩ := at_T53 HR0_3.out x37_2 p103 q103
           have hw103_3 := hx103_3
           have hw103_2 := hx103_2
           have hw103_1 := hx103_1
           have hw103_0 := hx103_0
           cases e103
           replace hx103_0 := (HB.out.cell (World.block_lt_of_cell? w _ hx103_0)).trans hx103_0
           replace hx103_1 := (HB.out.cell (World.block_lt_of_cell? w _ hx103_1)).trans hx103_1
           replace hx103_2 := (HB.out.cell (World.block_lt_of_cell? w _ hx103_2)).trans hx103_2
           replace hx103_3 := (HB.out.cell (World.block_lt_of_cell? w _ hx103_3)).trans hx103_3
           have HR103_3 := Aside0.mk hi103_3
           have HC103_3 := Aside0.mk hl103_3
           clear hi103_3 hl103_3
           replace p103 := eq_true p103
           replace q103 := eq_true q103
           have p104 : 0 ≤ (x37_2 : Int) := of_decide_eq_true (by first|(with_reducible assumption)|assumption)
           have q104 : x37_2 < (l1_3.length : Int) := of_decide_eq_true (by first|(with_reducible assumption)|assumption)
           obtain ⟨ad104, A104_3, c104_3, e104, hx104_0, hx104_1, hx104_2, hx104_3, hl104_3, hi104_3⟩ := at_T53 HR1_3.out x37_2 p104 q104
           have hw104_3 := hx104_3
           have hw104_2 := hx104_2
           have hw104_1 := hx104_1
           have hw104_0 := hx104_0
           cases e104
           replace hx104_0 := (HB.out.cell (World.block_lt_of_cell? w _ hx104_0)).trans hx104_0
           replace hx104_1 := (HB.out.cell (World.block_lt_of_cell? w _ hx104_1)).trans hx104_1
           replace hx104_2 := (HB.out.cell (World.block_lt_of_cell? w _ hx104_2)).trans hx104_2
           replace hx104_3 := (HB.out.cell (World.block_lt_of_cell? w _ hx104_3)).trans hx104_3
           have HR104_3 := Aside0.mk hi104_3
           have HC104_3 := Aside0.mk hl104_3
           clear hi104_3 hl104_3
           replace p104 := eq_true p104
           replace q104 := eq_true q104
           refine start_ (n := 12) (S := fun w' => w'.cell? ⟨gb101, 0, none⟩ = some (.string a0_0) ∧ w'.cell? ⟨gb101, 1, none⟩ = some (.string a0_1) ∧ w'.cell? ⟨gb101, 2, none⟩ = some (.bool a0_2) ∧ w'.cell? ⟨gb101, 3, none⟩ = some (.slice (some ad103) l0_3.length c0_3) ∧ w'.cell? ⟨gb102, 0, none⟩ = some (.string a1_0) ∧ w'.cell? ⟨gb102, 1, none⟩ = some (.string a1_1) ∧ w'.cell? ⟨gb102, 2, none⟩ = some (.bool a1_2) ∧ w'.cell? ⟨gb102, 3, none⟩ = some (.slice (some ad104) l1_3.length c1_3) ∧ w'.cell? (ad103.add ((x37_2).toNat * 4)) = some (.string ((rd_T53 l0_3 x37_2).f0)) ∧ w'.cell? ⟨(ad103.add ((x37_2).toNat * 4)).block, (ad103.add ((x37_2).toNat * 4)).off + 1, none⟩ = some (.string ((rd_T53 l0_3 x37_2).f1)) ∧ w'.cell? ⟨(ad103.add ((x37_2).toNat * 4)).block, (ad103.add ((x37_2).toNat * 4)).off + 2, none⟩ = some (.bool ((rd_T53 l0_3 x37_2).f2)) ∧ w'.cell? ⟨(ad103.add ((x37_2).toNat * 4)).block, (ad103.add ((x37_2).toNat * 4)).off + 3, none⟩ = some (.slice A103_3 ((rd_T53 l0_3 x37_2).f3).length c103_3) ∧ w'.cell? (ad104.add ((x37_2).toNat * 4)) = some (.string ((rd_T53 l1_3 x37_2).f0)) ∧ w'.cell? ⟨(ad104.add ((x37_2).toNat * 4)).block, (ad104.add ((x37_2).toNat * 4)).off + 1, none⟩ = some (.string ((rd_T53 l1_3 x37_2).f1)) ∧ w'.cell? ⟨(ad104.add ((x37_2).toNat * 4)).block, (ad104.add ((x37_2).toNat * 4)).off + 2, none⟩ = some (.bool ((rd_T53 l1_3 x37_2).f2)) ∧ w'.cell? ⟨(ad104.add ((x37_2).toNat * 4)).block, (ad104.add ((x37_2).toNat * 4)).off + 3, none⟩ = some (.slice A104_3 ((rd_T53 l1_3 x37_2).f3).length c104_3)) (ds := []) #[false, false, false, false, false, false, false, false, false, false, false, false] (by kernel_rfl) rfl rfl ⟨(blk_cell BK101.out 0).trans rfl, (blk_cell BK101.out 1).trans rfl, (blk_cell BK101.out 2).trans rfl, (blk_cell BK101.out 3).trans rfl, (blk_cell BK102.out 0).trans rfl, (blk_cell BK102.out 1).trans rfl, (blk_cell BK102.out 2).trans rfl, (blk_cell BK102.out 3).trans rfl, ((HB.out.cell (World.block_lt_of_cell? w _ hw103_0)).trans hw103_0), ((HB.out.cell (World.block_lt_of_cell? w _ hw103_1)).trans hw103_1), ((HB.out.cell (World.block_lt_of_cell? w _ hw103_2)).trans hw103_2), ((HB.out.cell (World.block_lt_of_cell? w _ hw103_3)).trans hw103_3), ((HB.out.cell (World.block_lt_of_cell? w _ hw104_0)).trans hw104_0), ((HB.out.cell (World.block_lt_of_cell? w _ hw104_1)).trans hw104_1), ((HB.out.cell (World.block_lt_of_cell? w _ hw104_2)).trans hw104_2), ((HB.out.cell (World.block_lt_of_cell? w _ hw104_3)).trans hw104_3)⟩ (fun hHeld => ?_);refine with_tabW impl_same.tab6 impl_same.bits6 (fun HT_ HW_ => ?_)
           generalize wr.drew = w32 at BK101 BK102 HB HR103_3 HR104_3 hx103_0 hx103_1 hx103_2 hx103_3 hx104_0 hx104_1 hx104_2 hx104_3 hHeld ⊢
           refine pure_ (i := 0) (N := some 40) (v := ?_) (a' := ?_) #[true, false, false, false, false, false, false, false, false, false, false, false] rfl rfl (any_of HT_.out (by kernel_rfl)) (fun _ _ _ h => h) (Or.inl ⟨by rfl, ?_⟩) ?_ ?_
           rotate_left
           ·intro w'
            go_simp
            with_reducible rfl
           rotate_left
           ·simp only [Act.put, List.setIfInBounds_toArray, List.set_cons_zero, List.set_cons_succ, i64_w, i32_w]
            rfl
           refine pure_ (i := 2) (N := some 42) (v := ?_) (a' := ?_) #[true, false, true, false, false, false, false, false, false, false, false, false] rfl rfl (any_of HT_.out (by kernel_rfl)) (fun _ _ _ h => h) (Or.inl ⟨by rfl, ?_⟩) ?_ ?_
           rotate_left
           ·intro w'
            go_simp
            with_reducible rfl
           rotate_left
           ·simp only [Act.put, List.setIfInBounds_toArray, List.set_cons_zero, List.set_cons_succ, i64_w, i32_w]
            rfl
           refine pure_ (i := 5) (N := some 45) (v := ?_) (a' := ?_) #[true, false, true, false, false, true, false, false, false, false, false, false] rfl rfl (any_of HT_.out (by kernel_rfl)) (fun _ _ _ h => h) (Or.inl ⟨by rfl, ?_⟩) ?_ ?_
           rotate_left
           ·intro w'
            go_simp
            with_reducible rfl
           rotate_left
           ·simp only [Act.put, List.setIfInBounds_toArray, List.set_cons_zero, List.set_cons_succ, i64_w, i32_w]
            rfl
           refine pure_ (i := 7) (N := some 47) (v := ?_) (a' := ?_) #[true, false, true, false, false, true, false, true, false, false, false, false] rfl rfl (any_of HT_.out (by kernel_rfl)) (fun _ _ _ h => h) (Or.inl ⟨by rfl, ?_⟩) ?_ ?_
           rotate_left
           ·intro w'
            go_simp
            with_reducible rfl
           rotate_left
           ·simp only [Act.put, List.setIfInBounds_toArray, List.set_cons_zero, List.set_cons_succ, i64_w, i32_w]
            rfl
           refine take_ (i := 1) (N := some 41) (v := ?_) (a' := ?_) #[true, true, true, false, false, true, false, true, false, false, false, false] rfl rfl (take_ofW HT_.out HW_.out (by kernel_rfl)) (fun _ _ _ h => h) (Or.inl ⟨by rfl, ?_⟩) hHeld ?_ ?_
           rotate_left
           ·rintro w' ⟨s0, s1, s2, s3, s4, s5, s6, s7, s8, s9, s10, s11, s12, s13, s14, s15⟩
            go_simp
            with_reducible rfl
           rotate_left
           ·simp only [Act.put, List.setIfInBounds_toArray, List.set_cons_zero, List.set_cons_succ, i64_w, i32_w]
            rfl
           refine pure_ (i := 3) (N := some 43) (v := ?_) (a' := ?_) #[true, true, true, true, false, true, false, true, false, false, false, false] rfl rfl (any_of HT_.out (by kernel_rfl)) (fun _ _ _ h => h) (Or.inl ⟨by rfl, ?_⟩) ?_ ?_
           rotate_left
           ·intro w'
            go_simp
            with_reducible rfl
           rotate_left
           ·simp only [Act.put, List.setIfInBounds_toArray, List.set_cons_zero, List.set_cons_succ, i64_w, i32_w]
            rfl
           refine take_ (i := 4) (N := some 44) (v := ?_) (a' := ?_) #[true, true, true, true, true, true, false, true, false, false, false, false] rfl rfl (take_ofW HT_.out HW_.out (by kernel_rfl)) (fun _ _ _ h => h) (Or.inl ⟨by rfl, ?_⟩) hHeld ?_ ?_
           rotate_left
           ·rintro w' ⟨s0, s1, s2, s3, s4, s5, s6, s7, s8, s9, s10, s11, s12, s13, s14, s15⟩
            go_simp
            with_reducible rfl
           rotate_left
           ·simp only [Act.put, List.setIfInBounds_toArray, List.set_cons_zero, List.set_cons_succ, i64_w, i32_w]
            rfl
           refine take_ (i := 6) (N := some 46) (v := ?_) (a' := ?_) #[true, true, true, true, true, true, true, true, false, false, false, false] rfl rfl (take_ofW HT_.out HW_.out (by kernel_rfl)) (fun _ _ _ h => h) (Or.inl ⟨by rfl, ?_⟩) hHeld ?_ ?_
           rotate_left
           ·rintro w' ⟨s0, s1, s2, s3, s4, s5, s6, s7, s8, s9, s10, s11, s12, s13, s14, s15⟩
            go_simp
            with_reducible rfl
           rotate_left
           ·simp only [Act.put, List.setIfInBounds_toArray, List.set_cons_zero, List.set_cons_succ, i64_w, i32_w]
            rfl
           refine pure_ (i := 8) (N := some 48) (v := ?_) (a' := ?_) #[true, true, true, true, true, true, true, true, true, false, false, false] rfl rfl (any_of HT_.out (by kernel_rfl)) (fun _ _ _ h => h) (Or.inl ⟨by rfl, ?_⟩) ?_ ?_
           rotate_left
           ·intro w'
            go_simp
            with_reducible rfl
           rotate_left
           ·simp only [Act.put, List.setIfInBounds_toArray, List.set_cons_zero, List.set_cons_succ, i64_w, i32_w]
            rfl
           refine take_ (i := 9) (N := some 49) (v := ?_) (a' := ?_) #[true, true, true, true, true, true, true, true, true, true, false, false] rfl rfl (take_ofW HT_.out HW_.out (by kernel_rfl)) (fun _ _ _ h => h) (Or.inl ⟨by rfl, ?_⟩) hHeld ?_ ?_
           rotate_left
           ·rintro w' ⟨s0, s1, s2, s3, s4, s5, s6, s7, s8, s9, s10, s11, s12, s13, s14, s15⟩
            go_simp
            with_reducible rfl
           rotate_left
           ·simp only [Act.put, List.setIfInBounds_toArray, List.set_cons_zero, List.set_cons_succ, i64_w, i32_w]
            rfl
           refine one_ (i := 10) (N := some 50) #[true, true, true, true, true, true, true, true, true, true, true, false] rfl rfl (one_of HT_.out (by kernel_rfl)) (by decide) (fun K hK => ?_)
           refine goes_ Try.func120 (by kernel_rfl) rfl #[.agg #[.string ((rd_T53 l0_3 x37_2).f0), .string ((rd_T53 l0_3 x37_2).f1), .bool ((rd_T53 l0_3 x37_2).f2), .slice A103_3 ((rd_T53 l0_3 x37_2).f3).length c103_3], .agg #[.string ((rd_T53 l1_3 x37_2).f0), .string ((rd_T53 l1_3 x37_2).f1), .bool ((rd_T53 l1_3 x37_2).f2), .slice A104_3 ((rd_T53 l1_3 x37_2).f3).length c104_3]] (by rfl) rfl rfl (by (try simp only [List.map_toArray, List.map_cons, List.map_nil]);first|done|rfl|(simp only [List.length_drop, List.length_take];rfl)) ?_
           with_reducible refine (ih k2 (by have := HJ2.out;have := HK2.out;omega) ((rd_T53 l0_3 x37_2).f0) ((rd_T53 l0_3 x37_2).f1) ((rd_T53 l0_3 x37_2).f2) _ _ ((rd_T53 l0_3 x37_2).f3) ((rd_T53 l1_3 x37_2).f0) ((rd_T53 l1_3 x37_2).f1) ((rd_T53 l1_3 x37_2).f2) _ _ ((rd_T53 l1_3 x37_2).f3) false _ ?side1 ?side2 ?side3 ?side4 A28.out).mono ?_
           (case side1 => repeat (first|exact (Kd.C_below HR103_3.out HB.out)|(with_reducible refine Kd.C_alloc ?_ _)|(with_reducible refine Kd.C_drewN ?_ _)|(with_reducible refine Kd.C_drew ?_)))
           (case side2 => exact HC103_3.out)
           (case side3 => repeat (first|exact (Kd.C_below HR104_3.out HB.out)|(with_reducible refine Kd.C_alloc ?_ _)|(with_reducible refine Kd.C_drewN ?_ _)|(with_reducible refine Kd.C_drew ?_)))
           (case side4 => exact HC104_3.out)
           rintro e w33 ⟨rfl, hb⟩
           refine ⟨_, rfl, ?_⟩
           have n0_ := Aside0.mk (blk_below (g := gb101) (o := .cells #[.string a0_0, .string a0_1, .bool a0_2, .slice (some ad103) l0_3.length c0_3] 53 (0, 0)) (by (with_reducible repeat (first|refine blk_drewN ?_ _|refine blk_drew ?_|refine blk_alloc ?_ _));exact BK101.out) hb)
           have n1_ := Aside0.mk (blk_below (g := gb102) (o := .cells #[.string a1_0, .string a1_1, .bool a1_2, .slice (some ad104) l1_3.length c1_3] 53 (0, 0)) (by (with_reducible repeat (first|refine blk_drewN ?_ _|refine blk_drew ?_|refine blk_alloc ?_ _));exact BK102.out) hb)
           have n2_ := Aside0.mk (below_step (by repeat (first|(with_reducible first|exact HB.out|apply below_alloc|apply pw_below_drewN|apply below_drew1|refine below_set ?_ GE101.out|refine below_set ?_ GE102.out)|exact HB.out)) hb)
           clear BK101
           clear BK102
           clear HB
           have BK101 := n0_
           have BK102 := n1_
           have HB := n2_
           clear n0_ n1_ n2_
           (try clear hb)
           (try clear hb2)
           (try clear hk)
           (try clear hi)
           refine hK.out _ _ ⟨(blk_cell BK101.out 0).trans rfl, (blk_cell BK101.out 1).trans rfl, (blk_cell BK101.out 2).trans rfl, (blk_cell BK101.out 3).trans rfl, (blk_cell BK102.out 0).trans rfl, (blk_cell BK102.out 1).trans rfl, (blk_cell BK102.out 2).trans rfl, (blk_cell BK102.out 3).trans rfl, ((HB.out.cell (World.block_lt_of_cell? w _ hw103_0)).trans hw103_0), ((HB.out.cell (World.block_lt_of_cell? w _ hw103_1)).trans hw103_1), ((HB.out.cell (World.block_lt_of_cell? w _ hw103_2)).trans hw103_2), ((HB.out.cell (World.block_lt_of_cell? w _ hw103_3)).trans hw103_3), ((HB.out.cell (World.block_lt_of_cell? w _ hw104_0)).trans hw104_0), ((HB.out.cell (World.block_lt_of_cell? w _ hw104_1)).trans hw104_1), ((HB.out.cell (World.block_lt_of_cell? w _ hw104_2)).trans hw104_2), ((HB.out.cell (World.block_lt_of_cell? w _ hw104_3)).trans hw104_3)⟩ (fun hHeld => ?_)
           clear hK K
           refine norm_ (a' := ?_) ?_ ?_
           rotate_left
           ·show Act.put _ (some 50) _ = _
            simp only [Act.put, List.setIfInBounds_toArray, List.set_cons_zero, List.set_cons_succ, i64_w, i32_w]
            rfl
           refine pure_ (i := 11) (N := some 51) (v := ?_) (a' := ?_) #[true, true, true, true, true, true, true, true, true, true, true, true] rfl rfl (any_of HT_.out (by kernel_rfl)) (fun _ _ _ h => h) (Or.inl ⟨by rfl, ?_⟩) ?_ ?_
           rotate_left
           ·intro w'
            go_simp
            with_reducible rfl
           rotate_left
           ·simp only [Act.put, List.setIfInBounds_toArray, List.set_cons_zero, List.set_cons_succ, i64_w, i32_w]
            rfl
           refine done_ (done_of HT_.out (by kernel_rfl)) ?_
           try go_wp2
           go_ret
           exact ⟨by first|rfl|(simp [errW_none, errW_some] <;> rfl)|(simp [*, errW_none, errW_some] <;> rfl), by repeat (first|(with_reducible first|exact HB.out|apply below_alloc|apply pw_below_drewN|apply below_drew1|refine below_set ?_ GE101.out|refine below_set ?_ GE102.out)|exact HB.out)⟩
         ·rw [if_neg c27] at H
          exact absurd H (by simp)
        ·rw [if_neg c26] at H
         exact absurd H (by simp)
       ·rw [if_neg c25] at H
        exact absurd H (by simp)
      ·rw [if_neg c24] at H
       have c24b0 : decide (x37_2 < (l0_3.length : Int)) = false := decide_eq_false c24
       clear c24
       obtain rfl := Option.some.inj H
       go_wp2
       go_ret
       exact ⟨by first|rfl|(simp [errW_none, errW_some] <;> rfl)|(simp [*, errW_none, errW_some] <;> rfl), by repeat (first|(with_reducible first|exact HB.out|apply below_alloc|apply pw_below_drewN|apply below_drew1|refine below_set ?_ GE101.out|refine below_set ?_ GE102.out)|exact HB.out)⟩
end Go.Proofs.Ytgdecbliegelmaa.Q

/- The walk of impl.match. -/
namespace Go.Proofs.Ytgdecbliegelmaa.Q
open Go.RowKit Go.Proofs.YtgdecbliegelmaaW.PrintWords Go.Proofs.YtgdecbliegelmaaW.PrintLast Go.Proofs.YtgdecbliegelmaaW.PrintMore
attribute [local go_sem] max2_int min2_int max_two min_two max_three min_three max_four min_four
set_option linter.unusedVariables false
set_option linter.unusedSimpArgs false
mutual
def impl_match.l0 : Nat → List S53 → List S53 → Int → List S151 → Option (List S151 × Bool)
  | 0, _, _, _, _ => none
  | k + 1, l, l2, i, bl => if i < (l.length : Int) then (if 0 ≤ i then (if i < (l2.length : Int) then ((impl_match.f k (rd_T53 l i).f0 (rd_T53 l i).f1 (rd_T53 l i).f2 (rd_T53 l i).f3 (rd_T53 l2 i).f0 (rd_T53 l2 i).f1 (rd_T53 l2 i).f2 (rd_T53 l2 i).f3 bl).bind fun r => if r.2 = true then impl_match.l0 k l l2 (wrap64 (i + 1)) r.1 else some (r.1, false)) else none) else none) else some (bl, true)
def impl_match.f : Nat → ByteArray → ByteArray → Bool → List S53 → ByteArray → ByteArray → Bool → List S53 → List S151 → Option (List S151 × Bool)
  | 0, _, _, _, _, _, _, _, _, _ => none
  | k + 1, nm, tx, lf, l, nm2, tx2, lf2, l2, bl => (impl_isVar.f nm tx lf l).bind fun t => if t = true then
      ((impl_bound.f k bl tx).bind fun u => if u.2.2.2.2 = true then ((impl_same.f k u.1 u.2.1 u.2.2.1 u.2.2.2.1 nm2 tx2 lf2 l2).bind fun b => some (bl, b))
        else if bl.length < 100000000000 then some (bl ++ [⟨tx, ⟨nm2, tx2, lf2, l2⟩⟩], true) else none)
    else if nm.toList = nm2.toList then (if tx.toList = tx2.toList then (if lf = lf2 then (if l.length = l2.length then impl_match.l0 k l l2 0 bl else some (bl, false)) else some (bl, false)) else some (bl, false)) else some (bl, false)
end
theorem impl_match.mono_l : ∀ k, (∀ y0 y1 y2 y3 y4 y5 y6 y7 y8, LeO (impl_match.f k y0 y1 y2 y3 y4 y5 y6 y7 y8) (impl_match.f (k + 1) y0 y1 y2 y3 y4 y5 y6 y7 y8)) ∧ (∀ y0 y1 y2 y3, LeO (impl_match.l0 k y0 y1 y2 y3) (impl_match.l0 (k + 1) y0 y1 y2 y3))
 | 0 => ⟨fun _ _ _ _ _ _ _ _ _ r h => by simp [impl_match.f] at h, fun _ _ _ _ r h => by simp [impl_match.l0] at h⟩
 | k + 1 => by
  obtain ⟨ih0, ih1⟩ := impl_match.mono_l k
  refine ⟨?_, ?_⟩
  ·intro y0 y1 y2 y3 y4 y5 y6 y7 y8
   unfold impl_match.f
   repeat' first
   | (with_reducible exact ih0 _ _ _ _ _ _ _ _ _)
   | (with_reducible exact ih1 _ _ _ _)
   | (with_reducible exact impl_bound.mono _ _ _)
   | (with_reducible exact impl_same.mono _ _ _ _ _ _ _ _ _)
   | (with_reducible exact LeO.refl _)
   | (with_reducible exact LeO.none _)
   | (with_reducible refine LeO.ite ?_ ?_)
   | (with_reducible refine LeO.bind ?_ (fun _ => ?_))
  ·intro y0 y1 y2 y3
   unfold impl_match.l0
   repeat' first
   | (with_reducible exact ih0 _ _ _ _ _ _ _ _ _)
   | (with_reducible exact ih1 _ _ _ _)
   | (with_reducible exact LeO.refl _)
   | (with_reducible exact LeO.none _)
   | (with_reducible refine LeO.ite ?_ ?_)
   | (with_reducible refine LeO.bind ?_ (fun _ => ?_))
theorem impl_match.mono : ∀ a0 a1 a2 a3 a4 a5 a6 a7 a8 k, LeO (impl_match.f k a0 a1 a2 a3 a4 a5 a6 a7 a8) (impl_match.f (k + 1) a0 a1 a2 a3 a4 a5 a6 a7 a8) := fun a0 a1 a2 a3 a4 a5 a6 a7 a8 k => (impl_match.mono_l k).1 a0 a1 a2 a3 a4 a5 a6 a7 a8
set_option maxHeartbeats 16000000 in
set_option maxRecDepth 100000 in
theorem impl_match.calls (k : Nat) : ∀ (nm tx : ByteArray) (lf : Bool) (A : Option Addr) (c : Nat) (l : List S53) (nm2 tx2 : ByteArray) (lf2 : Bool) (A2 : Option Addr) (c2 : Nat) (l2 : List S53) (v : Value) (bl : List S151) (rl : List S151) (rb : Bool) (w0 w : World) (hp : Kd.C k53 w0 A l.length l) (hc : l.length ≤ c) (hp2 : Kd.C k53 w0 A2 l2.length l2) (hc2 : l2.length ≤ c2) (hB : Below w0.heap.size w0 w) (hbl : Kd.N k151 151 w w0.heap.size (fun _ => True) v bl) (h : impl_match.f k nm tx lf l nm2 tx2 lf2 l2 bl = some (rl, rb)),
  Calls Try.prog 90 #[.agg #[.string nm, .string tx, .bool lf, .slice A l.length c], .agg #[.string nm2, .string tx2, .bool lf2, .slice A2 l2.length c2], v] w fun e w' => ∃ v' : Value, e = .returned (.tuple #[v', .bool rb]) ∧ Kd.N k151 151 w' w0.heap.size (fun _ => True) v' rl ∧ Below w0.heap.size w0 w' ∧ KT [151] w w' := by
 induction k using Nat.strongRecOn with
 | _ k ih =>
 intro nm tx lf A c l nm2 tx2 lf2 A2 c2 l2 v bl rl rb w0 w hp hc hp2 hc2 hB hbl h
 cases k with
 | zero => exact absurd h (by simp [impl_match.f])
 | succ k =>
 simp only [impl_match.f] at h
 have hu53 := Try.underlying53
 have hu151 := Try.underlying151
 obtain ⟨Al, cl, rfl⟩ := Kd.N_slice hbl
 have HP := Aside0.mk hp
 have HC := Aside0.mk hc
 have HP2 := Aside0.mk hp2
 have HC2 := Aside0.mk hc2
 have HB := Aside0.mk hB
 have HN := Aside0.mk hbl
 have HB0 : Aside0 (Below w.heap.size w ((w.alloc (.cells #[.string nm, .string tx, .bool lf, .slice A l.length c] 53)).alloc (.cells #[.string nm2, .string tx2, .bool lf2, .slice A2 l2.length c2] 53))) := ⟨below_alloc (below_alloc (Below.refl _ _) _) _⟩
 have HX1 : Aside0 (((w.alloc (.cells #[.string nm, .string tx, .bool lf, .slice A l.length c] 53)).alloc (.cells #[.string nm2, .string tx2, .bool lf2, .slice A2 l2.length c2] 53)).heap[w.heap.size]? = some (.cells #[.string nm, .string tx, .bool lf, .slice A l.length c] 53 (0, 0))) := ⟨blk_alloc (blk_new _ _) _⟩
 have HX2 : Aside0 (((w.alloc (.cells #[.string nm, .string tx, .bool lf, .slice A l.length c] 53)).alloc (.cells #[.string nm2, .string tx2, .bool lf2, .slice A2 l2.length c2] 53)).heap[w.heap.size + 1]? = some (.cells #[.string nm2, .string tx2, .bool lf2, .slice A2 l2.length c2] 53 (0, 0))) := ⟨by simpa using blk_new (w.alloc (.cells #[.string nm, .string tx, .bool lf, .slice A l.length c] 53)) (.cells #[.string nm2, .string tx2, .bool lf2, .slice A2 l2.length c2] 53)⟩
 clear hp hc hp2 hc2 hB hbl
 obtain ⟨t, ht, h⟩ := Option.bind_eq_some_iff.mp h
 have HT := Aside0.mk ht
 have H' := Aside0.mk h
 clear ht h
 go_enter Try.func90, Try.ntmps90
 cases t with
 | true =>
  have h := H'.out
  simp only [if_true] at h
  obtain ⟨⟨u1, u2, u3, u4, u5⟩, hu, h⟩ := Option.bind_eq_some_iff.mp h
  have HU := Aside0.mk hu
  clear hu H'
  cases u5 with
  | true =>
   simp only [if_true] at h
   obtain ⟨b, hb, h⟩ := Option.bind_eq_some_iff.mp h
   simp only [Option.some.injEq, Prod.mk.injEq] at h
   obtain ⟨rfl, rfl⟩ := h
   have HSM := Aside0.mk hb
   clear hb
   go_wp2_with (first
    | (go_at_call 118;(with_reducible refine (impl_isVar.calls nm tx lf A c l true _ (Kd.C_below HP.out (below_step HB.out HB0.out)) HC.out HT.out).mono ?_);rintro e w2 ⟨rfl, hb2⟩;have HBs := Aside0.mk (below_step HB0.out hb2);have HB2 := Aside0.mk (below_step HB.out HBs.out);have HN2 := Aside0.mk (Kd.N_below HN.out HBs.out);have HK2 : Aside0 (KT [151] w w2) := ⟨KT.of_below HBs.out⟩;have HY1 := Aside0.mk (blk_below HX1.out hb2);have HY2 := Aside0.mk (blk_below HX2.out hb2);have hx10 : w2.cell? ⟨w.heap.size, 0, none⟩ = some (.string nm) := (blk_cell HY1.out 0).trans rfl;have hx11 : w2.cell? ⟨w.heap.size, 1, none⟩ = some (.string tx) := (blk_cell HY1.out 1).trans rfl;have hx12 : w2.cell? ⟨w.heap.size, 2, none⟩ = some (.bool lf) := (blk_cell HY1.out 2).trans rfl;have hx13 : w2.cell? ⟨w.heap.size, 3, none⟩ = some (.slice A l.length c) := (blk_cell HY1.out 3).trans rfl;have hx20 : w2.cell? ⟨w.heap.size + 1, 0, none⟩ = some (.string nm2) := (blk_cell HY2.out 0).trans rfl;have hx21 : w2.cell? ⟨w.heap.size + 1, 1, none⟩ = some (.string tx2) := (blk_cell HY2.out 1).trans rfl;have hx22 : w2.cell? ⟨w.heap.size + 1, 2, none⟩ = some (.bool lf2) := (blk_cell HY2.out 2).trans rfl;have hx23 : w2.cell? ⟨w.heap.size + 1, 3, none⟩ = some (.slice A2 l2.length c2) := (blk_cell HY2.out 3).trans rfl;clear hb2)
    | (go_at_call 119;(with_reducible refine (impl_bound.calls k (fun _ => True) Al cl bl tx u1 u2 u3 u4 true _ (Kd.N_V HN2.out) HU.out).mono ?_);rintro e w3 ⟨v3, rfl, ho3, hb3⟩;have HBt := Aside0.mk (below_step HBs.out hb3);have HB3 := Aside0.mk (below_step HB2.out hb3);have HN3 := Aside0.mk (Kd.N_below HN2.out hb3);have HK3 := Aside0.mk (HK2.out.below hb3);have HZ1 := Aside0.mk (blk_below HY1.out hb3);have HZ2 := Aside0.mk (blk_below HY2.out hb3);obtain ⟨A3, c3, rfl, hl3, hf3⟩ := ho3;have HL3 := Aside0.mk hl3;have HC3 := Aside0.mk (Kd.F_now hf3);have hlt1 := blk_lt HZ1.out;have hlt2 := blk_lt HZ2.out;clear hx10 hx11 hx12 hx13 hx20 hx21 hx22 hx23;have hx10 : w3.cell? ⟨w.heap.size, 0, none⟩ = some (.string nm) := (blk_cell HZ1.out 0).trans rfl;have hx11 : w3.cell? ⟨w.heap.size, 1, none⟩ = some (.string tx) := (blk_cell HZ1.out 1).trans rfl;have hx12 : w3.cell? ⟨w.heap.size, 2, none⟩ = some (.bool lf) := (blk_cell HZ1.out 2).trans rfl;have hx13 : w3.cell? ⟨w.heap.size, 3, none⟩ = some (.slice A l.length c) := (blk_cell HZ1.out 3).trans rfl;have hx20 : w3.cell? ⟨w.heap.size + 1, 0, none⟩ = some (.string nm2) := (blk_cell HZ2.out 0).trans rfl;have hx21 : w3.cell? ⟨w.heap.size + 1, 1, none⟩ = some (.string tx2) := (blk_cell HZ2.out 1).trans rfl;have hx22 : w3.cell? ⟨w.heap.size + 1, 2, none⟩ = some (.bool lf2) := (blk_cell HZ2.out 2).trans rfl;have hx23 : w3.cell? ⟨w.heap.size + 1, 3, none⟩ = some (.slice A2 l2.length c2) := (blk_cell HZ2.out 3).trans rfl;clear hb3 hl3 hf3)
    | (go_at_call 120;(with_reducible refine (impl_same.calls k u1 u2 u3 A3 c3 u4 nm2 tx2 lf2 A2 c2 l2 b _ (Kd.C_below HC3.out (below_alloc (Below.refl _ _) _)) HL3.out (Kd.C_below HP2.out (below_step HB3.out (below_alloc (Below.refl _ _) _))) HC2.out HSM.out).mono ?_);rintro e w5 ⟨rfl, hb5⟩;have HB5 := Aside0.mk (below_step (below_alloc (Below.refl _ _) _) hb5);clear hb5))
   go_ret2
   exact ⟨_, rfl, Kd.N_below HN3.out HB5.out, below_step HB3.out HB5.out, HK3.out.below HB5.out⟩
  | false =>
   simp only [Bool.false_eq_true, if_false] at h
   by_cases c2_ : bl.length < 100000000000
   ·rw [if_pos c2_] at h
    simp only [Option.some.injEq, Prod.mk.injEq] at h
    obtain ⟨rfl, rfl⟩ := h
    have HLIM := Aside0.mk c2_
    clear c2_
    go_wp2_with (first
     | (go_at_call 118;(with_reducible refine (impl_isVar.calls nm tx lf A c l true _ (Kd.C_below HP.out (below_step HB.out HB0.out)) HC.out HT.out).mono ?_);rintro e w2 ⟨rfl, hb2⟩;have HBs := Aside0.mk (below_step HB0.out hb2);have HB2 := Aside0.mk (below_step HB.out HBs.out);have HN2 := Aside0.mk (Kd.N_below HN.out HBs.out);have HK2 : Aside0 (KT [151] w w2) := ⟨KT.of_below HBs.out⟩;have HY1 := Aside0.mk (blk_below HX1.out hb2);have HY2 := Aside0.mk (blk_below HX2.out hb2);have hx10 : w2.cell? ⟨w.heap.size, 0, none⟩ = some (.string nm) := (blk_cell HY1.out 0).trans rfl;have hx11 : w2.cell? ⟨w.heap.size, 1, none⟩ = some (.string tx) := (blk_cell HY1.out 1).trans rfl;have hx12 : w2.cell? ⟨w.heap.size, 2, none⟩ = some (.bool lf) := (blk_cell HY1.out 2).trans rfl;have hx13 : w2.cell? ⟨w.heap.size, 3, none⟩ = some (.slice A l.length c) := (blk_cell HY1.out 3).trans rfl;have hx20 : w2.cell? ⟨w.heap.size + 1, 0, none⟩ = some (.string nm2) := (blk_cell HY2.out 0).trans rfl;have hx21 : w2.cell? ⟨w.heap.size + 1, 1, none⟩ = some (.string tx2) := (blk_cell HY2.out 1).trans rfl;have hx22 : w2.cell? ⟨w.heap.size + 1, 2, none⟩ = some (.bool lf2) := (blk_cell HY2.out 2).trans rfl;have hx23 : w2.cell? ⟨w.heap.size + 1, 3, none⟩ = some (.slice A2 l2.length c2) := (blk_cell HY2.out 3).trans rfl;clear hb2)
     | (go_at_call 119;(with_reducible refine (impl_bound.calls k (fun _ => True) Al cl bl tx u1 u2 u3 u4 false _ (Kd.N_V HN2.out) HU.out).mono ?_);rintro e w3 ⟨v3, rfl, ho3, hb3⟩;have HBt := Aside0.mk (below_step HBs.out hb3);have HB3 := Aside0.mk (below_step HB2.out hb3);have HN3 := Aside0.mk (Kd.N_below HN2.out hb3);have HK3 := Aside0.mk (HK2.out.below hb3);have HZ1 := Aside0.mk (blk_below HY1.out hb3);have HZ2 := Aside0.mk (blk_below HY2.out hb3);obtain ⟨A3, c3, rfl, hl3, hf3⟩ := ho3;have HL3 := Aside0.mk hl3;have HC3 := Aside0.mk (Kd.F_now hf3);have hlt1 := blk_lt HZ1.out;have hlt2 := blk_lt HZ2.out;clear hx10 hx11 hx12 hx13 hx20 hx21 hx22 hx23;have hx10 : w3.cell? ⟨w.heap.size, 0, none⟩ = some (.string nm) := (blk_cell HZ1.out 0).trans rfl;have hx11 : w3.cell? ⟨w.heap.size, 1, none⟩ = some (.string tx) := (blk_cell HZ1.out 1).trans rfl;have hx12 : w3.cell? ⟨w.heap.size, 2, none⟩ = some (.bool lf) := (blk_cell HZ1.out 2).trans rfl;have hx13 : w3.cell? ⟨w.heap.size, 3, none⟩ = some (.slice A l.length c) := (blk_cell HZ1.out 3).trans rfl;have hx20 : w3.cell? ⟨w.heap.size + 1, 0, none⟩ = some (.string nm2) := (blk_cell HZ2.out 0).trans rfl;have hx21 : w3.cell? ⟨w.heap.size + 1, 1, none⟩ = some (.string tx2) := (blk_cell HZ2.out 1).trans rfl;have hx22 : w3.cell? ⟨w.heap.size + 1, 2, none⟩ = some (.bool lf2) := (blk_cell HZ2.out 2).trans rfl;have hx23 : w3.cell? ⟨w.heap.size + 1, 3, none⟩ = some (.slice A2 l2.length c2) := (blk_cell HZ2.out 3).trans rfl;clear hb3 hl3 hf3)
     | (at_builtin;refine Kd.N_append k151 (w0 := w0) w0.heap.size rfl (.tmp 26) (.tmp 31) 113 151 (.agg #[(.string ⟨#[]⟩), (.string ⟨#[]⟩), (.string ⟨#[]⟩), (.bool false), (.slice none 0 0)]) 80 rfl Try.underlying113 info151 rfl (by decide) (by omega) (.slice Al bl.length cl) bl (⟨tx, ⟨nm2, tx2, lf2, l2⟩⟩ : S151) [.string tx, .string nm2, .string tx2, .bool lf2, .slice A2 l2.length c2] (fun _ => True) (fun k => k < w0.heap.size) rfl (by first|(go_simp;done)|(go_simp;rfl)) ?aP (fun k hk => ⟨trivial, ?aE⟩) (fun _ _ => trivial) ?aO ?aB ?aS ?aL ?_;(case aP => exact k151_mkF _ _ (⟨tx, ⟨nm2, tx2, lf2, l2⟩⟩ : S151) HC2.out (Kd.F_below (Kd.C_F k53_heap HP2.out) (below_step HB3.out (below_alloc (Below.refl _ _) _))));(case aE => exact fun e_ => absurd (Kd.N_base HN3.out k e_.symm) (by omega));(case aO => exact Kd.N_alloc HN3.out _);(case aB => exact below_alloc HB3.out _);(case aS => exact (below_alloc HB3.out _).size);(case aL => have := HLIM.out;omega);intro v1 w5 ho1 hb1 hg1 _;have HO5 := Aside0.mk ho1;have HB5 := Aside0.mk hb1;have HK5 := Aside0.mk ((HK3.out.below (below_alloc (Below.refl _ _) _)).grown hg1 (fun q hq => by obtain ⟨cells, hcl⟩ := Kd.N_typed (Kd.N_alloc HN3.out _) q hq;exact ⟨151, by simp, cells, hcl⟩));clear ho1 hb1 hg1))
    go_ret2
    exact ⟨_, rfl, HO5.out, HB5.out, HK5.out⟩
   ·rw [if_neg c2_] at h
    exact absurd h (by simp)
 | false =>
  have h := H'.out
  simp only [Bool.false_eq_true, if_false] at h
  clear H'
  by_cases d1 : nm.toList = nm2.toList
  ·rw [if_pos d1] at h
   have d1b : (nm.toList == nm2.toList) = true := beq_iff_eq.mpr (d1)
   have d1c : (nm.toList != nm2.toList) = false := bne_eq_false_iff_eq.mpr (d1)
   clear d1
   by_cases d2 : tx.toList = tx2.toList
   ·rw [if_pos d2] at h
    have d2b : (tx.toList == tx2.toList) = true := beq_iff_eq.mpr (d2)
    have d2c : (tx.toList != tx2.toList) = false := bne_eq_false_iff_eq.mpr (d2)
    clear d2
    by_cases d3 : lf = lf2
    ·rw [if_pos d3] at h
     have d3b : (lf == lf2) = true := beq_iff_eq.mpr (d3)
     have d3c : (lf != lf2) = false := bne_eq_false_iff_eq.mpr (d3)
     clear d3
     by_cases d4 : l.length = l2.length
     ·rw [if_pos d4] at h
      have d4b : ((l.length : Int) == (l2.length : Int)) = true := beq_iff_eq.mpr (by omega)
      have d4c : ((l.length : Int) != (l2.length : Int)) = false := bne_eq_false_iff_eq.mpr (by omega)
      have d4e : (l.length != l2.length) = false := bne_eq_false_iff_eq.mpr d4
      clear d4
      have H' := Aside0.mk h
      clear h
      go_wp2_with (first|(go_at_call 118;(with_reducible refine (impl_isVar.calls nm tx lf A c l false _ (Kd.C_below HP.out (below_step HB.out HB0.out)) HC.out HT.out).mono ?_);rintro e w2 ⟨rfl, hb2⟩;have HBs := Aside0.mk (below_step HB0.out hb2);have HB2 := Aside0.mk (below_step HB.out HBs.out);have HN2 := Aside0.mk (Kd.N_below HN.out HBs.out);have HK2 : Aside0 (KT [151] w w2) := ⟨KT.of_below HBs.out⟩;have HY1 := Aside0.mk (blk_below HX1.out hb2);have HY2 := Aside0.mk (blk_below HX2.out hb2);have hx10 : w2.cell? ⟨w.heap.size, 0, none⟩ = some (.string nm) := (blk_cell HY1.out 0).trans rfl;have hx11 : w2.cell? ⟨w.heap.size, 1, none⟩ = some (.string tx) := (blk_cell HY1.out 1).trans rfl;have hx12 : w2.cell? ⟨w.heap.size, 2, none⟩ = some (.bool lf) := (blk_cell HY1.out 2).trans rfl;have hx13 : w2.cell? ⟨w.heap.size, 3, none⟩ = some (.slice A l.length c) := (blk_cell HY1.out 3).trans rfl;have hx20 : w2.cell? ⟨w.heap.size + 1, 0, none⟩ = some (.string nm2) := (blk_cell HY2.out 0).trans rfl;have hx21 : w2.cell? ⟨w.heap.size + 1, 1, none⟩ = some (.string tx2) := (blk_cell HY2.out 1).trans rfl;have hx22 : w2.cell? ⟨w.heap.size + 1, 2, none⟩ = some (.bool lf2) := (blk_cell HY2.out 2).trans rfl;have hx23 : w2.cell? ⟨w.heap.size + 1, 3, none⟩ = some (.slice A2 l2.length c2) := (blk_cell HY2.out 3).trans rfl;clear hb2))
      clear hx10 hx11 hx12 hx13 hx20 hx21 hx22 hx23 d1b d1c d2b d2c d3b d3c d4b d4c d4e
      go_loopg [2, 6, 7, 10, 11, 65] k (fun kq v2 v6 v7 v10 v11 v65 w' => ∃ (i : Int) (bi : List S151), v65 = .int .i64 i ∧ Aside0 (Kd.N k151 151 w' w0.heap.size (fun _ => True) v2 bi) ∧ Aside0 (impl_match.l0 kq l l2 i bi = some (rl, rb)) ∧ Aside0 (kq ≤ k) ∧ Aside0 (Below w0.heap.size w0 w') ∧ Aside0 (KT [151] w w') ∧ Aside0 (w'.heap[w.heap.size]? = some (.cells #[.string nm, .string tx, .bool lf, .slice A l.length c] 53 (0, 0))) ∧ Aside0 (w'.heap[w.heap.size + 1]? = some (.cells #[.string nm2, .string tx2, .bool lf2, .slice A2 l2.length c2] 53 (0, 0))))
      case atStart => exact ⟨0, bl, rfl, HN2, H', ⟨Nat.le_refl _⟩, HB2, HK2, HY1, HY2⟩
      case round =>
       clear H' HN2 HB2 HK2 HBs HY1 HY2 HX1 HX2 HB0 HT HN HB
       obtain ⟨i, bi, rfl, HN, HA, HK1, HB, HK, HY1, HY2⟩ := hrel
       obtain ⟨Ai, ci, hvi⟩ := Kd.N_slice HN.out
       subst hvi
       have hx13 : wr.cell? ⟨w.heap.size, 3, none⟩ = some (.slice A l.length c) := (blk_cell HY1.out 3).trans rfl
       have hx23 : wr.cell? ⟨w.heap.size + 1, 3, none⟩ = some (.slice A2 l2.length c2) := (blk_cell HY2.out 3).trans rfl
       cases gk with
       | zero => exact absurd HA.out (by simp [impl_match.l0])
       | succ k1 =>
        have H := HA.out
        clear HA
        simp only [impl_match.l0] at H
        by_cases c5 : i < (l.length : Int)
        ·rw [if_pos c5] at H
         have c5b : decide (i < (l.length : Int)) = true := decide_eq_true c5
         by_cases c6 : 0 ≤ i
         ·rw [if_pos c6] at H
          by_cases c7 : i < (l2.length : Int)
          ·rw [if_pos c7] at H
           obtain ⟨⟨b2, f2⟩, ht, H⟩ := Option.bind_eq_some_iff.mp H
           have HT2 := Aside0.mk ht
           have H' := Aside0.mk H
           clear ht H
           obtain ⟨ad, A3, c3, e, hy0, hy1, hy2, hy3, hl3, hi3⟩ := at_T53 HP.out i c6 c5
           cases e
           obtain ⟨ad2, A4, c4, e, hz0, hz1, hz2, hz3, hl4, hi4⟩ := at_T53 HP2.out i c6 c7
           cases e
           replace hy0 := (HB.out.cell (World.block_lt_of_cell? w0 _ hy0)).trans hy0
           replace hy1 := (HB.out.cell (World.block_lt_of_cell? w0 _ hy1)).trans hy1
           replace hy2 := (HB.out.cell (World.block_lt_of_cell? w0 _ hy2)).trans hy2
           replace hy3 := (HB.out.cell (World.block_lt_of_cell? w0 _ hy3)).trans hy3
           replace hz0 := (HB.out.cell (World.block_lt_of_cell? w0 _ hz0)).trans hz0
           replace hz1 := (HB.out.cell (World.block_lt_of_cell? w0 _ hz1)).trans hz1
           replace hz2 := (HB.out.cell (World.block_lt_of_cell? w0 _ hz2)).trans hz2
           replace hz3 := (HB.out.cell (World.block_lt_of_cell? w0 _ hz3)).trans hz3
           have HF3 := Aside0.mk hi3
           have HC3 := Aside0.mk hl3
           have HF4 := Aside0.mk hi4
           have HC4 := Aside0.mk hl4
           have p0 := eq_true c6
           have p1 := eq_true c5
           have p2 := eq_true c7
           clear hi3 hl3 hi4 hl4 c5 c6 c7
           go_wp2
           have HB1 : Aside0 (Below w0.heap.size w0 wr.drew) := ⟨below_drew1 HB.out⟩
           have HY1' := Aside0.mk (blk_drew HY1.out)
           have HY2' := Aside0.mk (blk_drew HY2.out)
           have HN1 := Aside0.mk (Kd.N_drew HN.out)
           have HK1' : Aside0 (KT [151] w wr.drew) := ⟨HK.out.below (below_drew (Below.refl _ _))⟩
           refine start_ (n := 17) (S := fun w' => w'.cell? ⟨w.heap.size, 3, none⟩ = some (.slice (some ad) l.length c) ∧ w'.cell? (ad.add (i.toNat * 4)) = some (.string (rd_T53 l i).f0) ∧ w'.cell? ⟨(ad.add (i.toNat * 4)).block, (ad.add (i.toNat * 4)).off + 1, none⟩ = some (.string (rd_T53 l i).f1) ∧ w'.cell? ⟨(ad.add (i.toNat * 4)).block, (ad.add (i.toNat * 4)).off + 2, none⟩ = some (.bool (rd_T53 l i).f2) ∧ w'.cell? ⟨(ad.add (i.toNat * 4)).block, (ad.add (i.toNat * 4)).off + 3, none⟩ = some (.slice A3 (rd_T53 l i).f3.length c3) ∧ w'.cell? ⟨w.heap.size + 1, 3, none⟩ = some (.slice (some ad2) l2.length c2) ∧ w'.cell? (ad2.add (i.toNat * 4)) = some (.string (rd_T53 l2 i).f0) ∧ w'.cell? ⟨(ad2.add (i.toNat * 4)).block, (ad2.add (i.toNat * 4)).off + 1, none⟩ = some (.string (rd_T53 l2 i).f1) ∧ w'.cell? ⟨(ad2.add (i.toNat * 4)).block, (ad2.add (i.toNat * 4)).off + 2, none⟩ = some (.bool (rd_T53 l2 i).f2) ∧ w'.cell? ⟨(ad2.add (i.toNat * 4)).block, (ad2.add (i.toNat * 4)).off + 3, none⟩ = some (.slice A4 (rd_T53 l2 i).f3.length c4)) (ds := [11]) #[false, false, false, false, false, false, false, false, false, false, false, false, false, false, false, false, false] (by kernel_rfl) rfl rfl ⟨hx13, hy0, hy1, hy2, hy3, hx23, hz0, hz1, hz2, hz3⟩ (fun hHeld => ?_)
           generalize wr.drew = W1 at HB1 HY1' HY2' HN1 HK1' hHeld ⊢
           refine pure_ (i := 0) (N := some 69) (v := ?_) (a' := ?_) #[true, false, false, false, false, false, false, false, false, false, false, false, false, false, false, false, false] rfl rfl (by kernel_rfl) (fun _ _ _ h => h) (Or.inl ⟨by rfl, ?_⟩) ?_ ?_
           rotate_left
           ·intro w'
            go_simp
            with_reducible rfl
           rotate_left
           ·simp only [Act.put, List.setIfInBounds_toArray, List.set_cons_zero, List.set_cons_succ, i64_w, i32_w]
            rfl
           refine pure_ (i := 2) (N := some 71) (v := ?_) (a' := ?_) #[true, false, true, false, false, false, false, false, false, false, false, false, false, false, false, false, false] rfl rfl (by kernel_rfl) (fun _ _ _ h => h) (Or.inl ⟨by rfl, ?_⟩) ?_ ?_
           rotate_left
           ·intro w'
            go_simp
            with_reducible rfl
           rotate_left
           ·simp only [Act.put, List.setIfInBounds_toArray, List.set_cons_zero, List.set_cons_succ, i64_w, i32_w]
            rfl
           refine pure_ (i := 5) (N := some 74) (v := ?_) (a' := ?_) #[true, false, true, false, false, true, false, false, false, false, false, false, false, false, false, false, false] rfl rfl (by kernel_rfl) (fun _ _ _ h => h) (Or.inl ⟨by rfl, ?_⟩) ?_ ?_
           rotate_left
           ·intro w'
            go_simp
            with_reducible rfl
           rotate_left
           ·simp only [Act.put, List.setIfInBounds_toArray, List.set_cons_zero, List.set_cons_succ, i64_w, i32_w]
            rfl
           refine pure_ (i := 7) (N := some 76) (v := ?_) (a' := ?_) #[true, false, true, false, false, true, false, true, false, false, false, false, false, false, false, false, false] rfl rfl (by kernel_rfl) (fun _ _ _ h => h) (Or.inl ⟨by rfl, ?_⟩) ?_ ?_
           rotate_left
           ·intro w'
            go_simp
            with_reducible rfl
           rotate_left
           ·simp only [Act.put, List.setIfInBounds_toArray, List.set_cons_zero, List.set_cons_succ, i64_w, i32_w]
            rfl
           refine pure_ (i := 10) (N := some 79) (v := ?_) (a' := ?_) #[true, false, true, false, false, true, false, true, false, false, true, false, false, false, false, false, false] rfl rfl (by kernel_rfl) (fun _ _ _ h => h) (Or.inl ⟨by rfl, ?_⟩) ?_ ?_
           rotate_left
           ·intro w'
            go_simp
            with_reducible rfl
           rotate_left
           ·simp only [Act.put, List.setIfInBounds_toArray, List.set_cons_zero, List.set_cons_succ, i64_w, i32_w]
            rfl
           refine take_ (i := 1) (N := some 70) (v := ?_) (a' := ?_) #[true, true, true, false, false, true, false, true, false, false, true, false, false, false, false, false, false] rfl rfl (by kernel_rfl) (fun _ _ _ h => h) (Or.inl ⟨by rfl, ?_⟩) hHeld ?_ ?_
           rotate_left
           ·rintro w' ⟨s0, s1, s2, s3, s4, s5, s6, s7, s8, s9⟩
            go_simp
            with_reducible rfl
           rotate_left
           ·simp only [Act.put, List.setIfInBounds_toArray, List.set_cons_zero, List.set_cons_succ, i64_w, i32_w]
            rfl
           refine pure_ (i := 3) (N := some 72) (v := ?_) (a' := ?_) #[true, true, true, true, false, true, false, true, false, false, true, false, false, false, false, false, false] rfl rfl (by kernel_rfl) (fun _ _ _ h => h) (Or.inl ⟨by rfl, ?_⟩) ?_ ?_
           rotate_left
           ·intro w'
            go_simp
            with_reducible rfl
           rotate_left
           ·simp only [Act.put, List.setIfInBounds_toArray, List.set_cons_zero, List.set_cons_succ, i64_w, i32_w]
            rfl
           refine take_ (i := 4) (N := some 73) (v := ?_) (a' := ?_) #[true, true, true, true, true, true, false, true, false, false, true, false, false, false, false, false, false] rfl rfl (by kernel_rfl) (fun _ _ _ h => h) (Or.inl ⟨by rfl, ?_⟩) hHeld ?_ ?_
           rotate_left
           ·rintro w' ⟨s0, s1, s2, s3, s4, s5, s6, s7, s8, s9⟩
            go_simp
            with_reducible rfl
           rotate_left
           ·simp only [Act.put, List.setIfInBounds_toArray, List.set_cons_zero, List.set_cons_succ, i64_w, i32_w]
            rfl
           refine take_ (i := 6) (N := some 75) (v := ?_) (a' := ?_) #[true, true, true, true, true, true, true, true, false, false, true, false, false, false, false, false, false] rfl rfl (by kernel_rfl) (fun _ _ _ h => h) (Or.inl ⟨by rfl, ?_⟩) hHeld ?_ ?_
           rotate_left
           ·rintro w' ⟨s0, s1, s2, s3, s4, s5, s6, s7, s8, s9⟩
            go_simp
            with_reducible rfl
           rotate_left
           ·simp only [Act.put, List.setIfInBounds_toArray, List.set_cons_zero, List.set_cons_succ, i64_w, i32_w]
            rfl
           refine pure_ (i := 8) (N := some 77) (v := ?_) (a' := ?_) #[true, true, true, true, true, true, true, true, true, false, true, false, false, false, false, false, false] rfl rfl (by kernel_rfl) (fun _ _ _ h => h) (Or.inl ⟨by rfl, ?_⟩) ?_ ?_
           rotate_left
           ·intro w'
            go_simp
            with_reducible rfl
           rotate_left
           ·simp only [Act.put, List.setIfInBounds_toArray, List.set_cons_zero, List.set_cons_succ, i64_w, i32_w]
            rfl
           refine take_ (i := 9) (N := some 78) (v := ?_) (a' := ?_) #[true, true, true, true, true, true, true, true, true, true, true, false, false, false, false, false, false] rfl rfl (by kernel_rfl) (fun _ _ _ h => h) (Or.inl ⟨by rfl, ?_⟩) hHeld ?_ ?_
           rotate_left
           ·rintro w' ⟨s0, s1, s2, s3, s4, s5, s6, s7, s8, s9⟩
            go_simp
            with_reducible rfl
           rotate_left
           ·simp only [Act.put, List.setIfInBounds_toArray, List.set_cons_zero, List.set_cons_succ, i64_w, i32_w]
            rfl
           refine last_ (i := 11) (N := some 80) #[true, true, true, true, true, true, true, true, true, true, true, true, false, false, false, false, false] rfl rfl (by kernel_rfl) (by decide) (fun K hK => ?_)
           refine goes_ Try.func90 (by kernel_rfl) rfl #[.agg #[.string (rd_T53 l i).f0, .string (rd_T53 l i).f1, .bool (rd_T53 l i).f2, .slice A3 (rd_T53 l i).f3.length c3], .agg #[.string (rd_T53 l2 i).f0, .string (rd_T53 l2 i).f1, .bool (rd_T53 l2 i).f2, .slice A4 (rd_T53 l2 i).f3.length c4], .slice Ai bi.length ci] (by rfl) rfl rfl (by simp only [List.map_toArray, List.map_cons, List.map_nil];rfl) ?_
           with_reducible refine (ih k1 (by have := HK1.out;omega) _ _ _ _ _ _ _ _ _ _ _ _ _ bi b2 f2 w0 _ HF3.out HC3.out HF4.out HC4.out HB1.out HN1.out HT2.out).mono ?_
           rintro e w6 ⟨v6, rfl, hn6, hb6, hk6⟩
           refine ⟨_, rfl, ?_⟩
           have HN6 := Aside0.mk hn6
           have HB6 := Aside0.mk hb6
           have HK6 := Aside0.mk (HK1'.out.trans hk6)
           have HY16 := Aside0.mk (hk6.blk HY1'.out (by decide))
           have HY26 := Aside0.mk (hk6.blk HY2'.out (by decide))
           clear hn6 hb6 hk6
           refine hK.out _ _ ?_
           clear hK K
           refine norm_ (a' := ?_) ?_ ?_
           rotate_left
           ·show Act.put _ (some 80) _ = _
            simp only [Act.put, List.setIfInBounds_toArray, List.set_cons_zero, List.set_cons_succ, i64_w, i32_w]
            rfl
           refine pure_ (i := 12) (N := some 68) (v := ?_) (a' := ?_) #[true, true, true, true, true, true, true, true, true, true, true, true, true, false, false, false, false] rfl rfl (by kernel_rfl) (fun _ _ _ h => h) (Or.inl ⟨by rfl, ?_⟩) ?_ ?_
           rotate_left
           ·intro w'
            go_simp
            with_reducible rfl
           rotate_left
           ·simp only [Act.put, List.setIfInBounds_toArray, List.set_cons_zero, List.set_cons_succ, i64_w, i32_w]
            rfl
           refine pure_ (i := 13) (N := some 81) (v := ?_) (a' := ?_) #[true, true, true, true, true, true, true, true, true, true, true, true, true, true, false, false, false] rfl rfl (by kernel_rfl) (fun _ _ _ h => h) (Or.inl ⟨by rfl, ?_⟩) ?_ ?_
           rotate_left
           ·intro w'
            go_simp
            with_reducible rfl
           rotate_left
           ·simp only [Act.put, List.setIfInBounds_toArray, List.set_cons_zero, List.set_cons_succ, i64_w, i32_w]
            rfl
           refine pure_ (i := 14) (N := some 82) (v := ?_) (a' := ?_) #[true, true, true, true, true, true, true, true, true, true, true, true, true, true, true, false, false] rfl rfl (by kernel_rfl) (fun _ _ _ h => h) (Or.inl ⟨by rfl, ?_⟩) ?_ ?_
           rotate_left
           ·intro w'
            go_simp
            with_reducible rfl
           rotate_left
           ·simp only [Act.put, List.setIfInBounds_toArray, List.set_cons_zero, List.set_cons_succ, i64_w, i32_w]
            rfl
           refine pure_ (i := 15) (N := some 2) (v := ?_) (a' := ?_) #[true, true, true, true, true, true, true, true, true, true, true, true, true, true, true, true, false] rfl rfl (by kernel_rfl) (fun _ _ _ h => h) (Or.inl ⟨by rfl, ?_⟩) ?_ ?_
           rotate_left
           ·intro w'
            go_simp
            with_reducible rfl
           rotate_left
           ·simp only [Act.put, List.setIfInBounds_toArray, List.set_cons_zero, List.set_cons_succ, i64_w, i32_w]
            rfl
           refine pure_ (i := 16) (N := some 11) (v := ?_) (a' := ?_) #[true, true, true, true, true, true, true, true, true, true, true, true, true, true, true, true, true] rfl rfl (by kernel_rfl) (fun _ _ _ h => h) (Or.inl ⟨by rfl, ?_⟩) ?_ ?_
           rotate_left
           ·intro w'
            go_simp
            with_reducible rfl
           rotate_left
           ·simp only [Act.put, List.setIfInBounds_toArray, List.set_cons_zero, List.set_cons_succ, i64_w, i32_w]
            rfl
           refine done_ (by kernel_rfl) ?_
           cases f2 with
           | true =>
            have H := H'.out
            rw [if_pos rfl] at H
            have H2 := Aside0.mk H
            clear H H'
            go_wp2
            go_roundg k1
            case measure => have := HK1.out;omega
            case rel => exact ⟨wrap64 (i + 1), b2, rfl, HN6, H2, ⟨by have := HK1.out;omega⟩, HB6, HK6, HY16, HY26⟩
           | false =>
            have H := H'.out
            rw [if_neg (by simp)] at H
            simp only [Option.some.injEq, Prod.mk.injEq] at H
            obtain ⟨rfl, rfl⟩ := H
            clear H'
            go_wp2
            go_ret2
            exact ⟨_, rfl, HN6.out, HB6.out, HK6.out⟩
          ·rw [if_neg c7] at H
           exact absurd H (by simp)
         ·rw [if_neg c6] at H
          exact absurd H (by simp)
        ·rw [if_neg c5] at H
         have c5b : decide (i < (l.length : Int)) = false := decide_eq_false c5
         simp only [Option.some.injEq, Prod.mk.injEq] at H
         obtain ⟨rfl, rfl⟩ := H
         clear c5
         go_wp2
         go_ret2
         exact ⟨_, rfl, HN.out, HB.out, HK.out⟩
     ·rw [if_neg d4] at h
      have d4b : ((l.length : Int) == (l2.length : Int)) = false := beq_eq_false_iff_ne.mpr (by omega)
      have d4c : ((l.length : Int) != (l2.length : Int)) = true := bne_iff_ne.mpr (by omega)
      have d4e : (l.length != l2.length) = true := bne_iff_ne.mpr d4
      clear d4
      simp only [Option.some.injEq, Prod.mk.injEq] at h
      obtain ⟨rfl, rfl⟩ := h
      go_wp2_with (first|(go_at_call 118;(with_reducible refine (impl_isVar.calls nm tx lf A c l false _ (Kd.C_below HP.out (below_step HB.out HB0.out)) HC.out HT.out).mono ?_);rintro e w2 ⟨rfl, hb2⟩;have HBs := Aside0.mk (below_step HB0.out hb2);have HB2 := Aside0.mk (below_step HB.out HBs.out);have HN2 := Aside0.mk (Kd.N_below HN.out HBs.out);have HK2 : Aside0 (KT [151] w w2) := ⟨KT.of_below HBs.out⟩;have HY1 := Aside0.mk (blk_below HX1.out hb2);have HY2 := Aside0.mk (blk_below HX2.out hb2);have hx10 : w2.cell? ⟨w.heap.size, 0, none⟩ = some (.string nm) := (blk_cell HY1.out 0).trans rfl;have hx11 : w2.cell? ⟨w.heap.size, 1, none⟩ = some (.string tx) := (blk_cell HY1.out 1).trans rfl;have hx12 : w2.cell? ⟨w.heap.size, 2, none⟩ = some (.bool lf) := (blk_cell HY1.out 2).trans rfl;have hx13 : w2.cell? ⟨w.heap.size, 3, none⟩ = some (.slice A l.length c) := (blk_cell HY1.out 3).trans rfl;have hx20 : w2.cell? ⟨w.heap.size + 1, 0, none⟩ = some (.string nm2) := (blk_cell HY2.out 0).trans rfl;have hx21 : w2.cell? ⟨w.heap.size + 1, 1, none⟩ = some (.string tx2) := (blk_cell HY2.out 1).trans rfl;have hx22 : w2.cell? ⟨w.heap.size + 1, 2, none⟩ = some (.bool lf2) := (blk_cell HY2.out 2).trans rfl;have hx23 : w2.cell? ⟨w.heap.size + 1, 3, none⟩ = some (.slice A2 l2.length c2) := (blk_cell HY2.out 3).trans rfl;clear hb2))
      go_ret2
      exact ⟨_, rfl, HN2.out, HB2.out, HK2.out⟩
    ·rw [if_neg d3] at h
     have d3b : (lf == lf2) = false := beq_eq_false_iff_ne.mpr (d3)
     have d3c : (lf != lf2) = true := bne_iff_ne.mpr (d3)
     clear d3
     simp only [Option.some.injEq, Prod.mk.injEq] at h
     obtain ⟨rfl, rfl⟩ := h
     go_wp2_with (first|(go_at_call 118;(with_reducible refine (impl_isVar.calls nm tx lf A c l false _ (Kd.C_below HP.out (below_step HB.out HB0.out)) HC.out HT.out).mono ?_);rintro e w2 ⟨rfl, hb2⟩;have HBs := Aside0.mk (below_step HB0.out hb2);have HB2 := Aside0.mk (below_step HB.out HBs.out);have HN2 := Aside0.mk (Kd.N_below HN.out HBs.out);have HK2 : Aside0 (KT [151] w w2) := ⟨KT.of_below HBs.out⟩;have HY1 := Aside0.mk (blk_below HX1.out hb2);have HY2 := Aside0.mk (blk_below HX2.out hb2);have hx10 : w2.cell? ⟨w.heap.size, 0, none⟩ = some (.string nm) := (blk_cell HY1.out 0).trans rfl;have hx11 : w2.cell? ⟨w.heap.size, 1, none⟩ = some (.string tx) := (blk_cell HY1.out 1).trans rfl;have hx12 : w2.cell? ⟨w.heap.size, 2, none⟩ = some (.bool lf) := (blk_cell HY1.out 2).trans rfl;have hx13 : w2.cell? ⟨w.heap.size, 3, none⟩ = some (.slice A l.length c) := (blk_cell HY1.out 3).trans rfl;have hx20 : w2.cell? ⟨w.heap.size + 1, 0, none⟩ = some (.string nm2) := (blk_cell HY2.out 0).trans rfl;have hx21 : w2.cell? ⟨w.heap.size + 1, 1, none⟩ = some (.string tx2) := (blk_cell HY2.out 1).trans rfl;have hx22 : w2.cell? ⟨w.heap.size + 1, 2, none⟩ = some (.bool lf2) := (blk_cell HY2.out 2).trans rfl;have hx23 : w2.cell? ⟨w.heap.size + 1, 3, none⟩ = some (.slice A2 l2.length c2) := (blk_cell HY2.out 3).trans rfl;clear hb2))
     go_ret2
     exact ⟨_, rfl, HN2.out, HB2.out, HK2.out⟩
   ·rw [if_neg d2] at h
    have d2b : (tx.toList == tx2.toList) = false := beq_eq_false_iff_ne.mpr (d2)
    have d2c : (tx.toList != tx2.toList) = true := bne_iff_ne.mpr (d2)
    clear d2
    simp only [Option.some.injEq, Prod.mk.injEq] at h
    obtain ⟨rfl, rfl⟩ := h
    go_wp2_with (first|(go_at_call 118;(with_reducible refine (impl_isVar.calls nm tx lf A c l false _ (Kd.C_below HP.out (below_step HB.out HB0.out)) HC.out HT.out).mono ?_);rintro e w2 ⟨rfl, hb2⟩;have HBs := Aside0.mk (below_step HB0.out hb2);have HB2 := Aside0.mk (below_step HB.out HBs.out);have HN2 := Aside0.mk (Kd.N_below HN.out HBs.out);have HK2 : Aside0 (KT [151] w w2) := ⟨KT.of_below HBs.out⟩;have HY1 := Aside0.mk (blk_below HX1.out hb2);have HY2 := Aside0.mk (blk_below HX2.out hb2);have hx10 : w2.cell? ⟨w.heap.size, 0, none⟩ = some (.string nm) := (blk_cell HY1.out 0).trans rfl;have hx11 : w2.cell? ⟨w.heap.size, 1, none⟩ = some (.string tx) := (blk_cell HY1.out 1).trans rfl;have hx12 : w2.cell? ⟨w.heap.size, 2, none⟩ = some (.bool lf) := (blk_cell HY1.out 2).trans rfl;have hx13 : w2.cell? ⟨w.heap.size, 3, none⟩ = some (.slice A l.length c) := (blk_cell HY1.out 3).trans rfl;have hx20 : w2.cell? ⟨w.heap.size + 1, 0, none⟩ = some (.string nm2) := (blk_cell HY2.out 0).trans rfl;have hx21 : w2.cell? ⟨w.heap.size + 1, 1, none⟩ = some (.string tx2) := (blk_cell HY2.out 1).trans rfl;have hx22 : w2.cell? ⟨w.heap.size + 1, 2, none⟩ = some (.bool lf2) := (blk_cell HY2.out 2).trans rfl;have hx23 : w2.cell? ⟨w.heap.size + 1, 3, none⟩ = some (.slice A2 l2.length c2) := (blk_cell HY2.out 3).trans rfl;clear hb2))
    go_ret2
    exact ⟨_, rfl, HN2.out, HB2.out, HK2.out⟩
  ·rw [if_neg d1] at h
   have d1b : (nm.toList == nm2.toList) = false := beq_eq_false_iff_ne.mpr (d1)
   have d1c : (nm.toList != nm2.toList) = true := bne_iff_ne.mpr (d1)
   clear d1
   simp only [Option.some.injEq, Prod.mk.injEq] at h
   obtain ⟨rfl, rfl⟩ := h
   go_wp2_with (first|(go_at_call 118;(with_reducible refine (impl_isVar.calls nm tx lf A c l false _ (Kd.C_below HP.out (below_step HB.out HB0.out)) HC.out HT.out).mono ?_);rintro e w2 ⟨rfl, hb2⟩;have HBs := Aside0.mk (below_step HB0.out hb2);have HB2 := Aside0.mk (below_step HB.out HBs.out);have HN2 := Aside0.mk (Kd.N_below HN.out HBs.out);have HK2 : Aside0 (KT [151] w w2) := ⟨KT.of_below HBs.out⟩;have HY1 := Aside0.mk (blk_below HX1.out hb2);have HY2 := Aside0.mk (blk_below HX2.out hb2);have hx10 : w2.cell? ⟨w.heap.size, 0, none⟩ = some (.string nm) := (blk_cell HY1.out 0).trans rfl;have hx11 : w2.cell? ⟨w.heap.size, 1, none⟩ = some (.string tx) := (blk_cell HY1.out 1).trans rfl;have hx12 : w2.cell? ⟨w.heap.size, 2, none⟩ = some (.bool lf) := (blk_cell HY1.out 2).trans rfl;have hx13 : w2.cell? ⟨w.heap.size, 3, none⟩ = some (.slice A l.length c) := (blk_cell HY1.out 3).trans rfl;have hx20 : w2.cell? ⟨w.heap.size + 1, 0, none⟩ = some (.string nm2) := (blk_cell HY2.out 0).trans rfl;have hx21 : w2.cell? ⟨w.heap.size + 1, 1, none⟩ = some (.string tx2) := (blk_cell HY2.out 1).trans rfl;have hx22 : w2.cell? ⟨w.heap.size + 1, 2, none⟩ = some (.bool lf2) := (blk_cell HY2.out 2).trans rfl;have hx23 : w2.cell? ⟨w.heap.size + 1, 3, none⟩ = some (.slice A2 l2.length c2) := (blk_cell HY2.out 3).trans rfl;clear hb2))
   go_ret2
   exact ⟨_, rfl, HN2.out, HB2.out, HK2.out⟩
end Go.Proofs.Ytgdecbliegelmaa.Q

namespace Go.Proofs.Ytgdecbliegelmaa.Q
open Go.RowKit Go.Proofs.YtgdecbliegelmaaW.PrintWords Go.Proofs.YtgdecbliegelmaaW.PrintLast Go.Proofs.YtgdecbliegelmaaW.PrintMore
attribute [local go_sem] max2_int min2_int max_two min_two max_three min_three max_four min_four   -- for this text's walks alone
set_option linter.unusedVariables false
set_option linter.unusedSimpArgs false
/-! ### impl_varsOK: function 117 -/
mutual
def impl_varsOK.l0 : Nat → List (S53) → Int → Int → Option (Bool)
  | 0, _, _, _ => none
  | k + 1, x11, x12, x13 => if x13 < x12 then (if 0 ≤ x13 then (if x13 < (x11.length : Int) then ((impl_varsOK.f k ((rd_T53 x11 x13).f0) ((rd_T53 x11 x13).f1) ((rd_T53 x11 x13).f2) ((rd_T53 x11 x13).f3)).bind fun t106 => (if t106 = true then (impl_varsOK.l0 k x11 x12 (wrap64 (x13 + 1))) else (some false))) else (none)) else (none)) else (some true)
def impl_varsOK.f : Nat → ByteArray → ByteArray → Bool → List (S53) → Option (Bool)
  | 0, _, _, _, _ => none
  | k + 1, a0_0, a0_1, a0_2, l0_3 => (impl_isVar.f a0_0 a0_1 a0_2 l0_3).bind fun t102 => (if t102 = true then ((impl_nameOK.f k a0_1).bind fun t103 => (some t103)) else (impl_varsOK.l0 k l0_3 (l0_3.length : Int) 0))
end
theorem impl_varsOK.mono_l : ∀ k, (∀ y0 y1 y2 y3, LeO (impl_varsOK.f k y0 y1 y2 y3) (impl_varsOK.f (k + 1) y0 y1 y2 y3)) ∧ (∀ y0 y1 y2, LeO (impl_varsOK.l0 k y0 y1 y2) (impl_varsOK.l0 (k + 1) y0 y1 y2))
 | 0 => ⟨fun _ _ _ _ r h => by simp [impl_varsOK.f] at h, fun _ _ _ r h => by simp [impl_varsOK.l0] at h⟩
 | k + 1 => by
  obtain ⟨ih0, ih1⟩ := impl_varsOK.mono_l k
  refine ⟨?_, ?_⟩
  ·intro y0 y1 y2 y3
   unfold impl_varsOK.f
   repeat' first
   | (with_reducible exact ih0 _ _ _ _)
   | (with_reducible exact ih1 _ _ _)
   | (with_reducible exact impl_nameOK.mono _ _)
   | (with_reducible exact LeO.refl _)
   | (with_reducible exact LeO.none _)
   | (with_reducible refine LeO.ite ?_ ?_)
   | (with_reducible refine LeO.bind ?_ (fun _ => ?_))
   | exact ih0 _ _ _ _
   | exact ih1 _ _ _
   | exact impl_nameOK.mono _ _
   | exact LeO.none _
   | refine LeO.ite ?_ ?_
   | refine LeO.bind ?_ (fun _ => ?_)
  ·intro y0 y1 y2
   unfold impl_varsOK.l0
   repeat' first
   | (with_reducible exact ih0 _ _ _ _)
   | (with_reducible exact ih1 _ _ _)
   | (with_reducible exact impl_nameOK.mono _ _)
   | (with_reducible exact LeO.refl _)
   | (with_reducible exact LeO.none _)
   | (with_reducible refine LeO.ite ?_ ?_)
   | (with_reducible refine LeO.bind ?_ (fun _ => ?_))
   | exact ih0 _ _ _ _
   | exact ih1 _ _ _
   | exact impl_nameOK.mono _ _
   | exact LeO.none _
   | refine LeO.ite ?_ ?_
   | refine LeO.bind ?_ (fun _ => ?_)
theorem impl_varsOK.mono : ∀ a0 a1 a2 a3 k, LeO (impl_varsOK.f k a0 a1 a2 a3) (impl_varsOK.f (k + 1) a0 a1 a2 a3) := by
 intro a0 a1 a2 a3 k
 obtain ⟨ih0, ih1⟩ := impl_varsOK.mono_l k
 exact ih0 a0 a1 a2 a3
set_option maxHeartbeats 8000000 in
set_option maxRecDepth 100000 in
theorem impl_varsOK.calls (k : Nat) : ∀ (a0_0 : ByteArray) (a0_1 : ByteArray) (a0_2 : Bool) (A0_3 : Option Addr) (c0_3 : Nat) (l0_3 : List (S53)) (r : Bool) (w : World) (hr0_3 : Kd.C k53 w A0_3 l0_3.length l0_3) (hc0_3 : l0_3.length ≤ c0_3) (h : impl_varsOK.f k a0_0 a0_1 a0_2 l0_3 = some r),
  Calls Try.prog 117 #[.agg #[.string a0_0, .string a0_1, .bool a0_2, .slice A0_3 l0_3.length c0_3]] w fun e w' => e = .returned (.bool r) ∧ Below w.heap.size w w' := by
 induction k using Nat.strongRecOn with
 | _ k ih =>
 intro a0_0 a0_1 a0_2 A0_3 c0_3 l0_3 r w hr0_3 hc0_3 h
 cases k with
 | zero => exact absurd h (by simp [impl_varsOK.f])
 | succ k =>
 simp only [impl_varsOK.f] at h
 have hu53 := Try.underlying53
 have HR0_3 := Aside0.mk hr0_3
 have HC0_3 := Aside0.mk hc0_3
 clear hr0_3 hc0_3
 have HB := Aside0.mk (Below.refl w.heap.size w)
 have H : ((impl_isVar.f a0_0 a0_1 a0_2 l0_3).bind fun t102 => (if t102 = true then ((impl_nameOK.f k a0_1).bind fun t103 => (some t103)) else (impl_varsOK.l0 k l0_3 (l0_3.length : Int) 0))) = some r := h
 clear h
 replace H := Option.bind_eq_some_iff.mp H
 obtain ⟨t102, A20, H⟩ := H
 replace H : (if t102 = true then ((impl_nameOK.f k a0_1).bind fun t103 => (some t103)) else (impl_varsOK.l0 k l0_3 (l0_3.length : Int) 0)) = some r := H
 have A2 := Aside0.mk A20
 clear A20
 by_cases c3 : t102 = true
 ·subst c3
  have H1 : ((impl_nameOK.f k a0_1).bind fun t103 => (some t103)) = some r := by rw [if_pos rfl] at H;exact H
  clear H
  have H := H1
  clear H1
  replace H := Option.bind_eq_some_iff.mp H
  obtain ⟨t103, A40, H⟩ := H
  replace H : (some t103) = some r := H
  have A4 := Aside0.mk A40
  clear A40
  obtain rfl := Option.some.inj H
  go_enter Try.func117, Try.ntmps117
  go_wp2_with (first|((with_reducible refine gate_dst (N := 1) rfl ?_);refine box_event ?hg (N := 1) ?hd (cs := #[.string a0_0, .string a0_1, .bool a0_2, .slice A0_3 l0_3.length c0_3]) (t := 53) ?hr ?_;(case hd => rfl);(case hg => rfl);(case hr => first|(go_simp;done)|(go_simp;rfl));intro gb101 hg w5 hbox hb;have n0_ := Aside0.mk (below_step (by repeat (first|(with_reducible first|exact HB.out|apply below_alloc|apply pw_below_drewN|apply below_drew1)|exact HB.out)) hb);have n1_ := Aside0.mk (hbox);have n2_ := Aside0.mk ((by rw [hg];exact (below_size (by repeat (first|(with_reducible first|exact HB.out|apply below_alloc|apply pw_below_drewN|apply below_drew1)|exact HB.out))) : w.heap.size ≤ gb101));have n3_ := Aside0.mk ((by rw [hg];exact (below_size (by repeat (first|(with_reducible first|exact HB.out|apply below_alloc|apply pw_below_drewN|apply below_drew1)|exact HB.out))) : w.heap.size ≤ gb101));clear HB;have HB := n0_;have BK101 := n1_;have GW101 := n2_;have GE101 := n3_;clear n0_ n1_ n2_ n3_;clear hb hbox hg;have hcz6_0 : w5.cell? ⟨gb101, 0, none⟩ = some (.string a0_0) := (blk_cell BK101.out 0).trans rfl;have hcz6_1 : w5.cell? ⟨gb101, 1, none⟩ = some (.string a0_1) := (blk_cell BK101.out 1).trans rfl;have hcz6_2 : w5.cell? ⟨gb101, 2, none⟩ = some (.bool a0_2) := (blk_cell BK101.out 2).trans rfl;have hcz6_3 : w5.cell? ⟨gb101, 3, none⟩ = some (.slice A0_3 l0_3.length c0_3) := (blk_cell BK101.out 3).trans rfl;have hfz6_0 := blk_frozen BK101.out 0;have hfz6_1 := blk_frozen BK101.out 1;have hfz6_2 := blk_frozen BK101.out 2;have hfz6_3 := blk_frozen BK101.out 3)|((with_reducible refine gate_callee (f := 118) rfl ?_);refine goesL_ (some 6) rfl rfl Try.func118 (by kernel_rfl) rfl #[.agg #[.string a0_0, .string a0_1, .bool a0_2, .slice A0_3 l0_3.length c0_3]] rfl (by (try simp only [List.map_toArray, List.map_cons, List.map_nil]);first|done|rfl|(simp only [List.length_drop, List.length_take];rfl)) ?_;(with_reducible refine (impl_isVar.calls a0_0 a0_1 a0_2 _ _ l0_3 true _ ?side1 ?side2 A2.out).mono ?_);(case side1 => repeat (first|exact (Kd.C_below HR0_3.out HB.out)|(with_reducible refine Kd.C_alloc ?_ _)|(with_reducible refine Kd.C_drewN ?_ _)|(with_reducible refine Kd.C_drew ?_)));(case side2 => exact HC0_3.out);rintro e w7 ⟨rfl, hb⟩;refine ⟨_, rfl, ?_⟩;have n0_ := Aside0.mk (blk_below (g := gb101) (o := .cells #[.string a0_0, .string a0_1, .bool a0_2, .slice A0_3 l0_3.length c0_3] 53 (0, 0)) (by (with_reducible repeat (first|refine blk_drewN ?_ _|refine blk_drew ?_|refine blk_alloc ?_ _));exact BK101.out) hb);have n1_ := Aside0.mk (below_step (by repeat (first|(with_reducible first|exact HB.out|apply below_alloc|apply pw_below_drewN|apply below_drew1|refine below_set ?_ GE101.out)|exact HB.out)) hb);clear BK101;clear HB;have BK101 := n0_;have HB := n1_;clear n0_ n1_;(try clear hb);(try clear hb2);(try clear hk);(try clear hi);have hcz8_0 : w7.cell? ⟨gb101, 0, none⟩ = some (.string a0_0) := (blk_cell BK101.out 0).trans rfl;have hcz8_1 : w7.cell? ⟨gb101, 1, none⟩ = some (.string a0_1) := (blk_cell BK101.out 1).trans rfl;have hcz8_2 : w7.cell? ⟨gb101, 2, none⟩ = some (.bool a0_2) := (blk_cell BK101.out 2).trans rfl;have hcz8_3 : w7.cell? ⟨gb101, 3, none⟩ = some (.slice A0_3 l0_3.length c0_3) := (blk_cell BK101.out 3).trans rfl;have hfz8_0 := blk_frozen BK101.out 0;have hfz8_1 := blk_frozen BK101.out 1;have hfz8_2 := blk_frozen BK101.out 2;have hfz8_3 := blk_frozen BK101.out 3)|((with_reducible refine gate_callee (f := 131) rfl ?_);refine goesL_ (some 9) rfl rfl Try.func131 (by kernel_rfl) rfl #[.string a0_1] rfl (by (try simp only [List.map_toArray, List.map_cons, List.map_nil]);first|done|rfl|(simp only [List.length_drop, List.length_take];rfl)) ?_;(with_reducible refine (impl_nameOK.calls k a0_1 t103 _ A4.out).mono ?_);rintro e w' ⟨rfl, ⟨nd, rfl⟩⟩;refine ⟨_, rfl, ?_⟩))
  go_ret
  exact ⟨by first|rfl|(simp [errW_none, errW_some] <;> rfl)|(simp [*, errW_none, errW_some] <;> rfl), by repeat (first|(with_reducible first|exact HB.out|apply below_alloc|apply pw_below_drewN|apply below_drew1|refine below_set ?_ GE101.out)|exact HB.out)⟩
 ·replace c3 := Bool.eq_false_iff.mpr c3
  subst c3
  have H1 : (impl_varsOK.l0 k l0_3 (l0_3.length : Int) 0) = some r := by rw [if_neg (show ¬ (false = true) by decide)] at H;exact H
  clear H
  have H := H1
  clear H1
  have H' := Aside0.mk H
  clear H
  go_enter Try.func117, Try.ntmps117
  go_wp2_with (first|((with_reducible refine gate_dst (N := 1) rfl ?_);refine box_event ?hg (N := 1) ?hd (cs := #[.string a0_0, .string a0_1, .bool a0_2, .slice A0_3 l0_3.length c0_3]) (t := 53) ?hr ?_;(case hd => rfl);(case hg => rfl);(case hr => first|(go_simp;done)|(go_simp;rfl));intro gb101 hg w9 hbox hb;have n0_ := Aside0.mk (below_step (by repeat (first|(with_reducible first|exact HB.out|apply below_alloc|apply pw_below_drewN|apply below_drew1)|exact HB.out)) hb);have n1_ := Aside0.mk (hbox);have n2_ := Aside0.mk ((by rw [hg];exact (below_size (by repeat (first|(with_reducible first|exact HB.out|apply below_alloc|apply pw_below_drewN|apply below_drew1)|exact HB.out))) : w.heap.size ≤ gb101));have n3_ := Aside0.mk ((by rw [hg];exact (below_size (by repeat (first|(with_reducible first|exact HB.out|apply below_alloc|apply pw_below_drewN|apply below_drew1)|exact HB.out))) : w.heap.size ≤ gb101));clear HB;have HB := n0_;have BK101 := n1_;have GW101 := n2_;have GE101 := n3_;clear n0_ n1_ n2_ n3_;clear hb hbox hg;have hcz10_0 : w9.cell? ⟨gb101, 0, none⟩ = some (.string a0_0) := (blk_cell BK101.out 0).trans rfl;have hcz10_1 : w9.cell? ⟨gb101, 1, none⟩ = some (.string a0_1) := (blk_cell BK101.out 1).trans rfl;have hcz10_2 : w9.cell? ⟨gb101, 2, none⟩ = some (.bool a0_2) := (blk_cell BK101.out 2).trans rfl;have hcz10_3 : w9.cell? ⟨gb101, 3, none⟩ = some (.slice A0_3 l0_3.length c0_3) := (blk_cell BK101.out 3).trans rfl;have hfz10_0 := blk_frozen BK101.out 0;have hfz10_1 := blk_frozen BK101.out 1;have hfz10_2 := blk_frozen BK101.out 2;have hfz10_3 := blk_frozen BK101.out 3)|((with_reducible refine gate_callee (f := 118) rfl ?_);refine goesL_ (some 6) rfl rfl Try.func118 (by kernel_rfl) rfl #[.agg #[.string a0_0, .string a0_1, .bool a0_2, .slice A0_3 l0_3.length c0_3]] rfl (by (try simp only [List.map_toArray, List.map_cons, List.map_nil]);first|done|rfl|(simp only [List.length_drop, List.length_take];rfl)) ?_;(with_reducible refine (impl_isVar.calls a0_0 a0_1 a0_2 _ _ l0_3 false _ ?side1 ?side2 A2.out).mono ?_);(case side1 => repeat (first|exact (Kd.C_below HR0_3.out HB.out)|(with_reducible refine Kd.C_alloc ?_ _)|(with_reducible refine Kd.C_drewN ?_ _)|(with_reducible refine Kd.C_drew ?_)));(case side2 => exact HC0_3.out);rintro e w11 ⟨rfl, hb⟩;refine ⟨_, rfl, ?_⟩;have n0_ := Aside0.mk (blk_below (g := gb101) (o := .cells #[.string a0_0, .string a0_1, .bool a0_2, .slice A0_3 l0_3.length c0_3] 53 (0, 0)) (by (with_reducible repeat (first|refine blk_drewN ?_ _|refine blk_drew ?_|refine blk_alloc ?_ _));exact BK101.out) hb);have n1_ := Aside0.mk (below_step (by repeat (first|(with_reducible first|exact HB.out|apply below_alloc|apply pw_below_drewN|apply below_drew1|refine below_set ?_ GE101.out)|exact HB.out)) hb);clear BK101;clear HB;have BK101 := n0_;have HB := n1_;clear n0_ n1_;(try clear hb);(try clear hb2);(try clear hk);(try clear hi);have hcz12_0 : w11.cell? ⟨gb101, 0, none⟩ = some (.string a0_0) := (blk_cell BK101.out 0).trans rfl;have hcz12_1 : w11.cell? ⟨gb101, 1, none⟩ = some (.string a0_1) := (blk_cell BK101.out 1).trans rfl;have hcz12_2 : w11.cell? ⟨gb101, 2, none⟩ = some (.bool a0_2) := (blk_cell BK101.out 2).trans rfl;have hcz12_3 : w11.cell? ⟨gb101, 3, none⟩ = some (.slice A0_3 l0_3.length c0_3) := (blk_cell BK101.out 3).trans rfl;have hfz12_0 := blk_frozen BK101.out 0;have hfz12_1 := blk_frozen BK101.out 1;have hfz12_2 := blk_frozen BK101.out 2;have hfz12_3 := blk_frozen BK101.out 3))
  go_loopg [13] k (fun kq v13 w' => ∃ (x13_1 : Int), v13 = .int .i64 x13_1 ∧ Aside0 (impl_varsOK.l0 kq l0_3 (l0_3.length : Int) x13_1 = some r) ∧ Aside0 (kq ≤ k) ∧ Aside0 (w'.heap[gb101]? = some (.cells #[.string a0_0, .string a0_1, .bool a0_2, (.slice A0_3 l0_3.length c0_3)] 53 (0, 0))) ∧ Aside0 (Below w.heap.size w w'))
  case atStart => exact ⟨(0), (by first|rfl|(simp;done)|(simp [*];done)), H', ⟨Nat.le_refl _⟩, ⟨by (with_reducible repeat (first|refine blk_drewN ?_ _|refine blk_drew ?_|refine blk_alloc ?_ _));exact BK101.out⟩, ⟨by repeat (first|(with_reducible first|exact HB.out|apply below_alloc|apply pw_below_drewN|apply below_drew1|refine below_set ?_ GE101.out)|exact HB.out)⟩⟩
  case round =>
   clear H'
   try clear c1
   try clear p2
   try clear c3
   try clear c11
   try clear hcz10_0
   try clear hcz10_1
   try clear hcz10_2
   try clear hcz10_3
   try clear hcz12_0
   try clear hcz12_1
   try clear hcz12_2
   try clear hcz12_3
   try clear hcz6_0
   try clear hcz6_1
   try clear hcz6_2
   try clear hcz6_3
   try clear hcz8_0
   try clear hcz8_1
   try clear hcz8_2
   try clear hcz8_3
   try clear hfz10_0
   try clear hfz10_1
   try clear hfz10_2
   try clear hfz10_3
   try clear hfz12_0
   try clear hfz12_1
   try clear hfz12_2
   try clear hfz12_3
   try clear hfz6_0
   try clear hfz6_1
   try clear hfz6_2
   try clear hfz6_3
   try clear hfz8_0
   try clear hfz8_1
   try clear hfz8_2
   try clear hfz8_3
   obtain ⟨x13_1, rfl, HA, HK1, BK101, HB⟩ := hrel
   cases gk with
   | zero => exact absurd HA.out (by simp [impl_varsOK.l0])
   | succ k1 =>
    have H := HA.out
    clear HA
    simp only [impl_varsOK.l0] at H
    by_cases c13 : x13_1 < (l0_3.length : Int)
    ·rw [if_pos c13] at H
     have c13b0 : decide (x13_1 < (l0_3.length : Int)) = true := decide_eq_true c13
     clear c13
     by_cases c14 : 0 ≤ x13_1
     ·rw [if_pos c14] at H
      have c14b0 : decide (0 ≤ x13_1) = true := decide_eq_true c14
      clear c14
      by_cases c15 : x13_1 < (l0_3.length : Int)
      ·rw [if_pos c15] at H
       have c15b0 : decide (x13_1 < (l0_3.length : Int)) = true := decide_eq_true c15
       clear c15
       replace H := Option.bind_eq_some_iff.mp H
       obtain ⟨t106, A160, H⟩ := H
       replace H : (if t106 = true then (impl_varsOK.l0 k1 l0_3 (l0_3.length : Int) (wrap64 (x13_1 + 1))) else (some false)) = some r := H
       have A16 := Aside0.mk A160
       clear A160
       by_cases c17 : t106 = true
       ·subst c17
        have H1 : (impl_varsOK.l0 k1 l0_3 (l0_3.length : Int) (wrap64 (x13_1 + 1))) = some r := by rw [if_pos rfl] at H;exact H
        clear H
        have H := H1
        clear H1
        have H' := Aside0.mk H
        clear H
        have p104 : 0 ≤ (x13_1 : Int) := of_decide_eq_true (by first|(with_reducible assumption)|assumption)
        have q104 : x13_1 < (l0_3.length : Int) := of_decide_eq_true (by first|(with_reducible assumption)|assumption)
        obtain ⟨ad104, A104_3, c104_3, e104, hx104_0, hx104_1, hx104_2, hx104_3, hl104_3, hi104_3⟩ := at_T53 HR0_3.out x13_1 p104 q104
        cases e104
        replace hx104_0 := (HB.out.cell (World.block_lt_of_cell? w _ hx104_0)).trans hx104_0
        replace hx104_1 := (HB.out.cell (World.block_lt_of_cell? w _ hx104_1)).trans hx104_1
        replace hx104_2 := (HB.out.cell (World.block_lt_of_cell? w _ hx104_2)).trans hx104_2
        replace hx104_3 := (HB.out.cell (World.block_lt_of_cell? w _ hx104_3)).trans hx104_3
        have HR104_3 := Aside0.mk hi104_3
        have HC104_3 := Aside0.mk hl104_3
        clear hi104_3 hl104_3
        replace p104 := eq_true p104
        replace q104 := eq_true q104
        go_wp2_with (first|((with_reducible refine gate_dst (N := 4) rfl ?_);refine box_event ?hg (N := 4) ?hd (cs := #[.string (⟨#[]⟩ : ByteArray), .string (⟨#[]⟩ : ByteArray), .bool false, .slice none 0 0]) (t := 53) ?hr ?_;(case hd => rfl);(case hg => rfl);(case hr => first|(go_simp;done)|(go_simp;rfl));intro gb105 hg w18 hbox hb;have n0_ := Aside0.mk (blk_below (g := gb101) (o := .cells #[.string a0_0, .string a0_1, .bool a0_2, .slice (some ad104) l0_3.length c0_3] 53 (0, 0)) (by (with_reducible repeat (first|refine blk_drewN ?_ _|refine blk_drew ?_|refine blk_alloc ?_ _));exact BK101.out) hb);have n1_ := Aside0.mk (below_step (by repeat (first|(with_reducible first|exact HB.out|apply below_alloc|apply pw_below_drewN|apply below_drew1|refine below_set ?_ GE101.out)|exact HB.out)) hb);have n2_ := Aside0.mk (hbox);have n3_ := Aside0.mk ((by rw [hg];exact (below_size (by repeat (first|(with_reducible first|exact HB.out|apply below_alloc|apply pw_below_drewN|apply below_drew1|refine below_set ?_ GE101.out)|exact HB.out))) : w.heap.size ≤ gb105));have n4_ := Aside0.mk ((by rw [hg];exact (below_size (by repeat (first|(with_reducible first|exact HB.out|apply below_alloc|apply pw_below_drewN|apply below_drew1|refine below_set ?_ GE101.out)|exact HB.out))) : w.heap.size ≤ gb105));have n5_ := Aside0.mk ((by rw [hg];exact Nat.ne_of_lt (blk_lt (g := gb101) (o := .cells #[.string a0_0, .string a0_1, .bool a0_2, .slice (some ad104) l0_3.length c0_3] 53 (0, 0)) (by (with_reducible repeat (first|refine blk_drewN ?_ _|refine blk_drew ?_|refine blk_alloc ?_ _));exact BK101.out)) : gb101 ≠ gb105));have n6_ := Aside0.mk ((by rw [hg];exact Nat.ne_of_gt (blk_lt (g := gb101) (o := .cells #[.string a0_0, .string a0_1, .bool a0_2, .slice (some ad104) l0_3.length c0_3] 53 (0, 0)) (by (with_reducible repeat (first|refine blk_drewN ?_ _|refine blk_drew ?_|refine blk_alloc ?_ _));exact BK101.out)) : gb105 ≠ gb101));clear BK101;clear HB;have BK101 := n0_;have HB := n1_;have BK105 := n2_;have GW105 := n3_;have GE105 := n4_;have NB101_105 := n5_;have NB105_101 := n6_;clear n0_ n1_ n2_ n3_ n4_ n5_ n6_;clear hb hbox hg;have hnb19 := NB105_101.out;have hnc19 := NB101_105.out;have hcz20_0 : w18.cell? ⟨gb105, 0, none⟩ = some (.string (⟨#[]⟩ : ByteArray)) := (blk_cell BK105.out 0).trans rfl;have hcz20_1 : w18.cell? ⟨gb105, 1, none⟩ = some (.string (⟨#[]⟩ : ByteArray)) := (blk_cell BK105.out 1).trans rfl;have hcz20_2 : w18.cell? ⟨gb105, 2, none⟩ = some (.bool false) := (blk_cell BK105.out 2).trans rfl;have hcz20_3 : w18.cell? ⟨gb105, 3, none⟩ = some (.slice none 0 0) := (blk_cell BK105.out 3).trans rfl;have hfz20_0 := blk_frozen BK105.out 0;have hfz20_1 := blk_frozen BK105.out 1;have hfz20_2 := blk_frozen BK105.out 2;have hfz20_3 := blk_frozen BK105.out 3)|((with_reducible refine gate_callee (f := 117) rfl ?_);refine goesL_ (some 18) rfl rfl Try.func117 (by kernel_rfl) rfl #[.agg #[.string ((rd_T53 l0_3 x13_1).f0), .string ((rd_T53 l0_3 x13_1).f1), .bool ((rd_T53 l0_3 x13_1).f2), .slice A104_3 ((rd_T53 l0_3 x13_1).f3).length c104_3]] rfl (by (try simp only [List.map_toArray, List.map_cons, List.map_nil]);first|done|rfl|(simp only [List.length_drop, List.length_take];rfl)) ?_;(with_reducible refine (ih k1 (by have := HK1.out;omega) ((rd_T53 l0_3 x13_1).f0) ((rd_T53 l0_3 x13_1).f1) ((rd_T53 l0_3 x13_1).f2) _ _ ((rd_T53 l0_3 x13_1).f3) true _ ?side1 ?side2 A16.out).mono ?_);(case side1 => exact Kd.C_below HR104_3.out (by repeat (first|(with_reducible first|exact HB.out|apply below_alloc|apply pw_below_drewN|apply below_drew1|refine below_set ?_ GE101.out|refine below_set ?_ GE105.out)|exact HB.out)));(case side2 => exact HC104_3.out);rintro e w21 ⟨rfl, hb⟩;refine ⟨_, rfl, ?_⟩;have n0_ := Aside0.mk (blk_below (g := gb101) (o := .cells #[.string a0_0, .string a0_1, .bool a0_2, .slice (some ad104) l0_3.length c0_3] 53 (0, 0)) (by (with_reducible repeat (first|refine blk_drewN ?_ _|refine blk_drew ?_|refine blk_alloc ?_ _));refine blk_far ?_ NB101_105.out _;(with_reducible repeat (first|refine blk_drewN ?_ _|refine blk_drew ?_|refine blk_alloc ?_ _));refine blk_far ?_ NB101_105.out _;(with_reducible repeat (first|refine blk_drewN ?_ _|refine blk_drew ?_|refine blk_alloc ?_ _));refine blk_far ?_ NB101_105.out _;(with_reducible repeat (first|refine blk_drewN ?_ _|refine blk_drew ?_|refine blk_alloc ?_ _));refine blk_far ?_ NB101_105.out _;(with_reducible repeat (first|refine blk_drewN ?_ _|refine blk_drew ?_|refine blk_alloc ?_ _));exact BK101.out) hb);have n1_ := Aside0.mk (blk_below (g := gb105) (o := .cells #[.string ((rd_T53 l0_3 x13_1).f0), .string ((rd_T53 l0_3 x13_1).f1), .bool ((rd_T53 l0_3 x13_1).f2), .slice A104_3 ((rd_T53 l0_3 x13_1).f3).length c104_3] 53 (0, 0)) (by (with_reducible repeat (first|refine blk_drewN ?_ _|refine blk_drew ?_|refine blk_alloc ?_ _));refine blk_put (cs := #[.string ((rd_T53 l0_3 x13_1).f0), .string ((rd_T53 l0_3 x13_1).f1), .bool ((rd_T53 l0_3 x13_1).f2), .slice none 0 0]) ?_ 3 _ rfl;(with_reducible repeat (first|refine blk_drewN ?_ _|refine blk_drew ?_|refine blk_alloc ?_ _));refine blk_put (cs := #[.string ((rd_T53 l0_3 x13_1).f0), .string ((rd_T53 l0_3 x13_1).f1), .bool false, .slice none 0 0]) ?_ 2 _ rfl;(with_reducible repeat (first|refine blk_drewN ?_ _|refine blk_drew ?_|refine blk_alloc ?_ _));refine blk_put (cs := #[.string ((rd_T53 l0_3 x13_1).f0), .string (⟨#[]⟩ : ByteArray), .bool false, .slice none 0 0]) ?_ 1 _ rfl;(with_reducible repeat (first|refine blk_drewN ?_ _|refine blk_drew ?_|refine blk_alloc ?_ _));refine blk_put (cs := #[.string (⟨#[]⟩ : ByteArray), .string (⟨#[]⟩ : ByteArray), .bool false, .slice none 0 0]) ?_ 0 _ rfl;(with_reducible repeat (first|refine blk_drewN ?_ _|refine blk_drew ?_|refine blk_alloc ?_ _));exact BK105.out) hb);have n2_ := Aside0.mk (below_step (by repeat (first|(with_reducible first|exact HB.out|apply below_alloc|apply pw_below_drewN|apply below_drew1|refine below_set ?_ GE101.out|refine below_set ?_ GE105.out)|exact HB.out)) hb);clear BK101;clear BK105;clear HB;have BK101 := n0_;have BK105 := n1_;have HB := n2_;clear n0_ n1_ n2_;(try clear hb);(try clear hb2);(try clear hk);(try clear hi)))
        go_roundg k1
        case measure => have := HK1.out;omega
        case rel => exact ⟨(wrap64 (x13_1 + 1)), (by first|rfl|(simp;done)|(simp [*];done)), H', ⟨by have := HK1.out;omega⟩, ⟨by (with_reducible repeat (first|refine blk_drewN ?_ _|refine blk_drew ?_|refine blk_alloc ?_ _));exact BK101.out⟩, ⟨by repeat (first|(with_reducible first|exact HB.out|apply below_alloc|apply pw_below_drewN|apply below_drew1|refine below_set ?_ GE101.out|refine below_set ?_ GE105.out)|exact HB.out)⟩⟩
       ·replace c17 := Bool.eq_false_iff.mpr c17
        subst c17
        have H1 : (some false) = some r := by rw [if_neg (show ¬ (false = true) by decide)] at H;exact H
        clear H
        have H := H1
        clear H1
        obtain rfl := Option.some.inj H
        have p104 : 0 ≤ (x13_1 : Int) := of_decide_eq_true (by first|(with_reducible assumption)|assumption)
        have q104 : x13_1 < (l0_3.length : Int) := of_decide_eq_true (by first|(with_reducible assumption)|assumption)
        obtain ⟨ad104, A104_3, c104_3, e104, hx104_0, hx104_1, hx104_2, hx104_3, hl104_3, hi104_3⟩ := at_T53 HR0_3.out x13_1 p104 q104
        cases e104
        replace hx104_0 := (HB.out.cell (World.block_lt_of_cell? w _ hx104_0)).trans hx104_0
        replace hx104_1 := (HB.out.cell (World.block_lt_of_cell? w _ hx104_1)).trans hx104_1
        replace hx104_2 := (HB.out.cell (World.block_lt_of_cell? w _ hx104_2)).trans hx104_2
        replace hx104_3 := (HB.out.cell (World.block_lt_of_cell? w _ hx104_3)).trans hx104_3
        have HR104_3 := Aside0.mk hi104_3
        have HC104_3 := Aside0.mk hl104_3
        clear hi104_3 hl104_3
        replace p104 := eq_true p104
        replace q104 := eq_true q104
        go_wp2_with (first|((with_reducible refine gate_dst (N := 4) rfl ?_);refine box_event ?hg (N := 4) ?hd (cs := #[.string (⟨#[]⟩ : ByteArray), .string (⟨#[]⟩ : ByteArray), .bool false, .slice none 0 0]) (t := 53) ?hr ?_;(case hd => rfl);(case hg => rfl);(case hr => first|(go_simp;done)|(go_simp;rfl));intro gb105 hg w22 hbox hb;have n0_ := Aside0.mk (blk_below (g := gb101) (o := .cells #[.string a0_0, .string a0_1, .bool a0_2, .slice (some ad104) l0_3.length c0_3] 53 (0, 0)) (by (with_reducible repeat (first|refine blk_drewN ?_ _|refine blk_drew ?_|refine blk_alloc ?_ _));exact BK101.out) hb);have n1_ := Aside0.mk (below_step (by repeat (first|(with_reducible first|exact HB.out|apply below_alloc|apply pw_below_drewN|apply below_drew1|refine below_set ?_ GE101.out)|exact HB.out)) hb);have n2_ := Aside0.mk (hbox);have n3_ := Aside0.mk ((by rw [hg];exact (below_size (by repeat (first|(with_reducible first|exact HB.out|apply below_alloc|apply pw_below_drewN|apply below_drew1|refine below_set ?_ GE101.out)|exact HB.out))) : w.heap.size ≤ gb105));have n4_ := Aside0.mk ((by rw [hg];exact (below_size (by repeat (first|(with_reducible first|exact HB.out|apply below_alloc|apply pw_below_drewN|apply below_drew1|refine below_set ?_ GE101.out)|exact HB.out))) : w.heap.size ≤ gb105));have n5_ := Aside0.mk ((by rw [hg];exact Nat.ne_of_lt (blk_lt (g := gb101) (o := .cells #[.string a0_0, .string a0_1, .bool a0_2, .slice (some ad104) l0_3.length c0_3] 53 (0, 0)) (by (with_reducible repeat (first|refine blk_drewN ?_ _|refine blk_drew ?_|refine blk_alloc ?_ _));exact BK101.out)) : gb101 ≠ gb105));have n6_ := Aside0.mk ((by rw [hg];exact Nat.ne_of_gt (blk_lt (g := gb101) (o := .cells #[.string a0_0, .string a0_1, .bool a0_2, .slice (some ad104) l0_3.length c0_3] 53 (0, 0)) (by (with_reducible repeat (first|refine blk_drewN ?_ _|refine blk_drew ?_|refine blk_alloc ?_ _));exact BK101.out)) : gb105 ≠ gb101));clear BK101;clear HB;have BK101 := n0_;have HB := n1_;have BK105 := n2_;have GW105 := n3_;have GE105 := n4_;have NB101_105 := n5_;have NB105_101 := n6_;clear n0_ n1_ n2_ n3_ n4_ n5_ n6_;clear hb hbox hg;have hnb23 := NB105_101.out;have hnc23 := NB101_105.out;have hcz24_0 : w22.cell? ⟨gb105, 0, none⟩ = some (.string (⟨#[]⟩ : ByteArray)) := (blk_cell BK105.out 0).trans rfl;have hcz24_1 : w22.cell? ⟨gb105, 1, none⟩ = some (.string (⟨#[]⟩ : ByteArray)) := (blk_cell BK105.out 1).trans rfl;have hcz24_2 : w22.cell? ⟨gb105, 2, none⟩ = some (.bool false) := (blk_cell BK105.out 2).trans rfl;have hcz24_3 : w22.cell? ⟨gb105, 3, none⟩ = some (.slice none 0 0) := (blk_cell BK105.out 3).trans rfl;have hfz24_0 := blk_frozen BK105.out 0;have hfz24_1 := blk_frozen BK105.out 1;have hfz24_2 := blk_frozen BK105.out 2;have hfz24_3 := blk_frozen BK105.out 3)|((with_reducible refine gate_callee (f := 117) rfl ?_);refine goesL_ (some 18) rfl rfl Try.func117 (by kernel_rfl) rfl #[.agg #[.string ((rd_T53 l0_3 x13_1).f0), .string ((rd_T53 l0_3 x13_1).f1), .bool ((rd_T53 l0_3 x13_1).f2), .slice A104_3 ((rd_T53 l0_3 x13_1).f3).length c104_3]] rfl (by (try simp only [List.map_toArray, List.map_cons, List.map_nil]);first|done|rfl|(simp only [List.length_drop, List.length_take];rfl)) ?_;(with_reducible refine (ih k1 (by have := HK1.out;omega) ((rd_T53 l0_3 x13_1).f0) ((rd_T53 l0_3 x13_1).f1) ((rd_T53 l0_3 x13_1).f2) _ _ ((rd_T53 l0_3 x13_1).f3) false _ ?side1 ?side2 A16.out).mono ?_);(case side1 => exact Kd.C_below HR104_3.out (by repeat (first|(with_reducible first|exact HB.out|apply below_alloc|apply pw_below_drewN|apply below_drew1|refine below_set ?_ GE101.out|refine below_set ?_ GE105.out)|exact HB.out)));(case side2 => exact HC104_3.out);rintro e w25 ⟨rfl, hb⟩;refine ⟨_, rfl, ?_⟩;have n0_ := Aside0.mk (blk_below (g := gb101) (o := .cells #[.string a0_0, .string a0_1, .bool a0_2, .slice (some ad104) l0_3.length c0_3] 53 (0, 0)) (by (with_reducible repeat (first|refine blk_drewN ?_ _|refine blk_drew ?_|refine blk_alloc ?_ _));refine blk_far ?_ NB101_105.out _;(with_reducible repeat (first|refine blk_drewN ?_ _|refine blk_drew ?_|refine blk_alloc ?_ _));refine blk_far ?_ NB101_105.out _;(with_reducible repeat (first|refine blk_drewN ?_ _|refine blk_drew ?_|refine blk_alloc ?_ _));refine blk_far ?_ NB101_105.out _;(with_reducible repeat (first|refine blk_drewN ?_ _|refine blk_drew ?_|refine blk_alloc ?_ _));refine blk_far ?_ NB101_105.out _;(with_reducible repeat (first|refine blk_drewN ?_ _|refine blk_drew ?_|refine blk_alloc ?_ _));exact BK101.out) hb);have n1_ := Aside0.mk (blk_below (g := gb105) (o := .cells #[.string ((rd_T53 l0_3 x13_1).f0), .string ((rd_T53 l0_3 x13_1).f1), .bool ((rd_T53 l0_3 x13_1).f2), .slice A104_3 ((rd_T53 l0_3 x13_1).f3).length c104_3] 53 (0, 0)) (by (with_reducible repeat (first|refine blk_drewN ?_ _|refine blk_drew ?_|refine blk_alloc ?_ _));refine blk_put (cs := #[.string ((rd_T53 l0_3 x13_1).f0), .string ((rd_T53 l0_3 x13_1).f1), .bool ((rd_T53 l0_3 x13_1).f2), .slice none 0 0]) ?_ 3 _ rfl;(with_reducible repeat (first|refine blk_drewN ?_ _|refine blk_drew ?_|refine blk_alloc ?_ _));refine blk_put (cs := #[.string ((rd_T53 l0_3 x13_1).f0), .string ((rd_T53 l0_3 x13_1).f1), .bool false, .slice none 0 0]) ?_ 2 _ rfl;(with_reducible repeat (first|refine blk_drewN ?_ _|refine blk_drew ?_|refine blk_alloc ?_ _));refine blk_put (cs := #[.string ((rd_T53 l0_3 x13_1).f0), .string (⟨#[]⟩ : ByteArray), .bool false, .slice none 0 0]) ?_ 1 _ rfl;(with_reducible repeat (first|refine blk_drewN ?_ _|refine blk_drew ?_|refine blk_alloc ?_ _));refine blk_put (cs := #[.string (⟨#[]⟩ : ByteArray), .string (⟨#[]⟩ : ByteArray), .bool false, .slice none 0 0]) ?_ 0 _ rfl;(with_reducible repeat (first|refine blk_drewN ?_ _|refine blk_drew ?_|refine blk_alloc ?_ _));exact BK105.out) hb);have n2_ := Aside0.mk (below_step (by repeat (first|(with_reducible first|exact HB.out|apply below_alloc|apply pw_below_drewN|apply below_drew1|refine below_set ?_ GE101.out|refine below_set ?_ GE105.out)|exact HB.out)) hb);clear BK101;clear BK105;clear HB;have BK101 := n0_;have BK105 := n1_;have HB := n2_;clear n0_ n1_ n2_;(try clear hb);(try clear hb2);(try clear hk);(try clear hi)))
        go_ret
        exact ⟨by first|rfl|(simp [errW_none, errW_some] <;> rfl)|(simp [*, errW_none, errW_some] <;> rfl), by repeat (first|(with_reducible first|exact HB.out|apply below_alloc|apply pw_below_drewN|apply below_drew1|refine below_set ?_ GE101.out|refine below_set ?_ GE105.out)|exact HB.out)⟩
      ·rw [if_neg c15] at H
       exact absurd H (by simp)
     ·rw [if_neg c14] at H
      exact absurd H (by simp)
    ·rw [if_neg c13] at H
     have c13b0 : decide (x13_1 < (l0_3.length : Int)) = false := decide_eq_false c13
     clear c13
     obtain rfl := Option.some.inj H
     go_wp2
     go_ret
     exact ⟨by first|rfl|(simp [errW_none, errW_some] <;> rfl)|(simp [*, errW_none, errW_some] <;> rfl), by repeat (first|(with_reducible first|exact HB.out|apply below_alloc|apply pw_below_drewN|apply below_drew1|refine below_set ?_ GE101.out)|exact HB.out)⟩
end Go.Proofs.Ytgdecbliegelmaa.Q

namespace Go.Proofs.Ytgdecbliegelmaa.Q
open Go.RowKit Go.Proofs.YtgdecbliegelmaaW.PrintWords Go.Proofs.YtgdecbliegelmaaW.PrintLast Go.Proofs.YtgdecbliegelmaaW.PrintMore
attribute [local go_sem] max2_int min2_int max_two min_two max_three min_three max_four min_four   -- for this text's walks alone
set_option linter.unusedVariables false
set_option linter.unusedSimpArgs false
/-! ### impl_patternTree: function 87 -/
def impl_patternTree.f (k : Nat) (a0_0 : ByteArray) (a0_1 : ByteArray) (a0_2 : Bool) (l0_3 : List (S53)) : Option (Bool) := (impl_TreeOK.f k a0_0 a0_1 a0_2 l0_3).bind fun t102 => (if t102 = true then ((impl_varsOK.f k a0_0 a0_1 a0_2 l0_3).bind fun t103 => (some t103)) else (some false))
theorem impl_patternTree.mono : ∀ a0 a1 a2 a3 k, LeO (impl_patternTree.f k a0 a1 a2 a3) (impl_patternTree.f (k + 1) a0 a1 a2 a3) := by
 intro a0 a1 a2 a3 k
 unfold impl_patternTree.f
 repeat' first
   | (with_reducible exact impl_TreeOK.mono _ _ _ _ _)
   | (with_reducible exact impl_varsOK.mono _ _ _ _ _)
   | (with_reducible exact LeO.refl _)
   | (with_reducible exact LeO.none _)
   | (with_reducible refine LeO.ite ?_ ?_)
   | (with_reducible refine LeO.bind ?_ (fun _ => ?_))
   | exact impl_TreeOK.mono _ _ _ _ _
   | exact impl_varsOK.mono _ _ _ _ _
   | exact LeO.none _
   | refine LeO.ite ?_ ?_
   | refine LeO.bind ?_ (fun _ => ?_)
set_option maxHeartbeats 8000000 in
set_option maxRecDepth 100000 in
theorem impl_patternTree.calls (k : Nat) (a0_0 : ByteArray) (a0_1 : ByteArray) (a0_2 : Bool) (A0_3 : Option Addr) (c0_3 : Nat) (l0_3 : List (S53)) (r : Bool) (w : World) (hr0_3 : Kd.C k53 w A0_3 l0_3.length l0_3) (hc0_3 : l0_3.length ≤ c0_3) (h : impl_patternTree.f k a0_0 a0_1 a0_2 l0_3 = some r) :
  Calls Try.prog 87 #[.agg #[.string a0_0, .string a0_1, .bool a0_2, .slice A0_3 l0_3.length c0_3]] w fun e w' => e = .returned (.bool r) ∧ Below w.heap.size w w' := by
 have hu53 := Try.underlying53
 have HR0_3 := Aside0.mk hr0_3
 have HC0_3 := Aside0.mk hc0_3
 clear hr0_3 hc0_3
 have HB := Aside0.mk (Below.refl w.heap.size w)
 have H : ((impl_TreeOK.f k a0_0 a0_1 a0_2 l0_3).bind fun t102 => (if t102 = true then ((impl_varsOK.f k a0_0 a0_1 a0_2 l0_3).bind fun t103 => (some t103)) else (some false))) = some r := h
 clear h
 replace H := Option.bind_eq_some_iff.mp H
 obtain ⟨t102, A20, H⟩ := H
 replace H : (if t102 = true then ((impl_varsOK.f k a0_0 a0_1 a0_2 l0_3).bind fun t103 => (some t103)) else (some false)) = some r := H
 have A2 := Aside0.mk A20
 clear A20
 by_cases c3 : t102 = true
 ·subst c3
  have H1 : ((impl_varsOK.f k a0_0 a0_1 a0_2 l0_3).bind fun t103 => (some t103)) = some r := by rw [if_pos rfl] at H;exact H
  clear H
  have H := H1
  clear H1
  replace H := Option.bind_eq_some_iff.mp H
  obtain ⟨t103, A40, H⟩ := H
  replace H : (some t103) = some r := H
  have A4 := Aside0.mk A40
  clear A40
  obtain rfl := Option.some.inj H
  go_enter Try.func87, Try.ntmps87
  go_wp2_with (first|((with_reducible refine gate_dst (N := 1) rfl ?_);refine box_event ?hg (N := 1) ?hd (cs := #[.string a0_0, .string a0_1, .bool a0_2, .slice A0_3 l0_3.length c0_3]) (t := 53) ?hr ?_;(case hd => rfl);(case hg => rfl);(case hr => first|(go_simp;done)|(go_simp;rfl));intro gb101 hg w5 hbox hb;have n0_ := Aside0.mk (below_step (by repeat (first|(with_reducible first|exact HB.out|apply below_alloc|apply pw_below_drewN|apply below_drew1)|exact HB.out)) hb);have n1_ := Aside0.mk (hbox);have n2_ := Aside0.mk ((by rw [hg];exact (below_size (by repeat (first|(with_reducible first|exact HB.out|apply below_alloc|apply pw_below_drewN|apply below_drew1)|exact HB.out))) : w.heap.size ≤ gb101));have n3_ := Aside0.mk ((by rw [hg];exact (below_size (by repeat (first|(with_reducible first|exact HB.out|apply below_alloc|apply pw_below_drewN|apply below_drew1)|exact HB.out))) : w.heap.size ≤ gb101));clear HB;have HB := n0_;have BK101 := n1_;have GW101 := n2_;have GE101 := n3_;clear n0_ n1_ n2_ n3_;clear hb hbox hg;have hcz6_0 : w5.cell? ⟨gb101, 0, none⟩ = some (.string a0_0) := (blk_cell BK101.out 0).trans rfl;have hcz6_1 : w5.cell? ⟨gb101, 1, none⟩ = some (.string a0_1) := (blk_cell BK101.out 1).trans rfl;have hcz6_2 : w5.cell? ⟨gb101, 2, none⟩ = some (.bool a0_2) := (blk_cell BK101.out 2).trans rfl;have hcz6_3 : w5.cell? ⟨gb101, 3, none⟩ = some (.slice A0_3 l0_3.length c0_3) := (blk_cell BK101.out 3).trans rfl;have hfz6_0 := blk_frozen BK101.out 0;have hfz6_1 := blk_frozen BK101.out 1;have hfz6_2 := blk_frozen BK101.out 2;have hfz6_3 := blk_frozen BK101.out 3)|((with_reducible refine gate_callee (f := 76) rfl ?_);refine goesL_ (some 4) rfl rfl Try.func76 (by kernel_rfl) rfl #[.agg #[.string a0_0, .string a0_1, .bool a0_2, .slice A0_3 l0_3.length c0_3]] rfl (by (try simp only [List.map_toArray, List.map_cons, List.map_nil]);first|done|rfl|(simp only [List.length_drop, List.length_take];rfl)) ?_;(with_reducible refine (impl_TreeOK.calls k a0_0 a0_1 a0_2 _ _ l0_3 true _ ?side1 ?side2 A2.out).mono ?_);(case side1 => repeat (first|exact (Kd.C_below HR0_3.out HB.out)|(with_reducible refine Kd.C_alloc ?_ _)|(with_reducible refine Kd.C_drewN ?_ _)|(with_reducible refine Kd.C_drew ?_)));(case side2 => exact HC0_3.out);rintro e w7 ⟨rfl, hb⟩;refine ⟨_, rfl, ?_⟩;have n0_ := Aside0.mk (blk_below (g := gb101) (o := .cells #[.string a0_0, .string a0_1, .bool a0_2, .slice A0_3 l0_3.length c0_3] 53 (0, 0)) (by (with_reducible repeat (first|refine blk_drewN ?_ _|refine blk_drew ?_|refine blk_alloc ?_ _));exact BK101.out) hb);have n1_ := Aside0.mk (below_step (by repeat (first|(with_reducible first|exact HB.out|apply below_alloc|apply pw_below_drewN|apply below_drew1|refine below_set ?_ GE101.out)|exact HB.out)) hb);clear BK101;clear HB;have BK101 := n0_;have HB := n1_;clear n0_ n1_;(try clear hb);(try clear hb2);(try clear hk);(try clear hi);have hcz8_0 : w7.cell? ⟨gb101, 0, none⟩ = some (.string a0_0) := (blk_cell BK101.out 0).trans rfl;have hcz8_1 : w7.cell? ⟨gb101, 1, none⟩ = some (.string a0_1) := (blk_cell BK101.out 1).trans rfl;have hcz8_2 : w7.cell? ⟨gb101, 2, none⟩ = some (.bool a0_2) := (blk_cell BK101.out 2).trans rfl;have hcz8_3 : w7.cell? ⟨gb101, 3, none⟩ = some (.slice A0_3 l0_3.length c0_3) := (blk_cell BK101.out 3).trans rfl;have hfz8_0 := blk_frozen BK101.out 0;have hfz8_1 := blk_frozen BK101.out 1;have hfz8_2 := blk_frozen BK101.out 2;have hfz8_3 := blk_frozen BK101.out 3)|(go_at_call 117;(with_reducible refine (impl_varsOK.calls k a0_0 a0_1 a0_2 _ _ l0_3 t103 _ ?side1 ?side2 A4.out).mono ?_);(case side1 => repeat (first|exact (Kd.C_below HR0_3.out HB.out)|(with_reducible refine Kd.C_alloc ?_ _)|(with_reducible refine Kd.C_drewN ?_ _)|(with_reducible refine Kd.C_drew ?_)));(case side2 => exact HC0_3.out);rintro e w9 ⟨rfl, hb⟩;have n0_ := Aside0.mk (blk_below (g := gb101) (o := .cells #[.string a0_0, .string a0_1, .bool a0_2, .slice A0_3 l0_3.length c0_3] 53 (0, 0)) (by (with_reducible repeat (first|refine blk_drewN ?_ _|refine blk_drew ?_|refine blk_alloc ?_ _));exact BK101.out) hb);have n1_ := Aside0.mk (below_step (by repeat (first|(with_reducible first|exact HB.out|apply below_alloc|apply pw_below_drewN|apply below_drew1|refine below_set ?_ GE101.out)|exact HB.out)) hb);clear BK101;clear HB;have BK101 := n0_;have HB := n1_;clear n0_ n1_;(try clear hb);(try clear hb2);(try clear hk);(try clear hi)))
  go_ret
  exact ⟨by first|rfl|(simp [errW_none, errW_some] <;> rfl)|(simp [*, errW_none, errW_some] <;> rfl), by repeat (first|(with_reducible first|exact HB.out|apply below_alloc|apply pw_below_drewN|apply below_drew1|refine below_set ?_ GE101.out)|exact HB.out)⟩
 ·replace c3 := Bool.eq_false_iff.mpr c3
  subst c3
  have H1 : (some false) = some r := by rw [if_neg (show ¬ (false = true) by decide)] at H;exact H
  clear H
  have H := H1
  clear H1
  obtain rfl := Option.some.inj H
  go_enter Try.func87, Try.ntmps87
  go_wp2_with (first|((with_reducible refine gate_dst (N := 1) rfl ?_);refine box_event ?hg (N := 1) ?hd (cs := #[.string a0_0, .string a0_1, .bool a0_2, .slice A0_3 l0_3.length c0_3]) (t := 53) ?hr ?_;(case hd => rfl);(case hg => rfl);(case hr => first|(go_simp;done)|(go_simp;rfl));intro gb101 hg w10 hbox hb;have n0_ := Aside0.mk (below_step (by repeat (first|(with_reducible first|exact HB.out|apply below_alloc|apply pw_below_drewN|apply below_drew1)|exact HB.out)) hb);have n1_ := Aside0.mk (hbox);have n2_ := Aside0.mk ((by rw [hg];exact (below_size (by repeat (first|(with_reducible first|exact HB.out|apply below_alloc|apply pw_below_drewN|apply below_drew1)|exact HB.out))) : w.heap.size ≤ gb101));have n3_ := Aside0.mk ((by rw [hg];exact (below_size (by repeat (first|(with_reducible first|exact HB.out|apply below_alloc|apply pw_below_drewN|apply below_drew1)|exact HB.out))) : w.heap.size ≤ gb101));clear HB;have HB := n0_;have BK101 := n1_;have GW101 := n2_;have GE101 := n3_;clear n0_ n1_ n2_ n3_;clear hb hbox hg;have hcz11_0 : w10.cell? ⟨gb101, 0, none⟩ = some (.string a0_0) := (blk_cell BK101.out 0).trans rfl;have hcz11_1 : w10.cell? ⟨gb101, 1, none⟩ = some (.string a0_1) := (blk_cell BK101.out 1).trans rfl;have hcz11_2 : w10.cell? ⟨gb101, 2, none⟩ = some (.bool a0_2) := (blk_cell BK101.out 2).trans rfl;have hcz11_3 : w10.cell? ⟨gb101, 3, none⟩ = some (.slice A0_3 l0_3.length c0_3) := (blk_cell BK101.out 3).trans rfl;have hfz11_0 := blk_frozen BK101.out 0;have hfz11_1 := blk_frozen BK101.out 1;have hfz11_2 := blk_frozen BK101.out 2;have hfz11_3 := blk_frozen BK101.out 3)|((with_reducible refine gate_callee (f := 76) rfl ?_);refine goesL_ (some 4) rfl rfl Try.func76 (by kernel_rfl) rfl #[.agg #[.string a0_0, .string a0_1, .bool a0_2, .slice A0_3 l0_3.length c0_3]] rfl (by (try simp only [List.map_toArray, List.map_cons, List.map_nil]);first|done|rfl|(simp only [List.length_drop, List.length_take];rfl)) ?_;(with_reducible refine (impl_TreeOK.calls k a0_0 a0_1 a0_2 _ _ l0_3 false _ ?side1 ?side2 A2.out).mono ?_);(case side1 => repeat (first|exact (Kd.C_below HR0_3.out HB.out)|(with_reducible refine Kd.C_alloc ?_ _)|(with_reducible refine Kd.C_drewN ?_ _)|(with_reducible refine Kd.C_drew ?_)));(case side2 => exact HC0_3.out);rintro e w12 ⟨rfl, hb⟩;refine ⟨_, rfl, ?_⟩;have n0_ := Aside0.mk (blk_below (g := gb101) (o := .cells #[.string a0_0, .string a0_1, .bool a0_2, .slice A0_3 l0_3.length c0_3] 53 (0, 0)) (by (with_reducible repeat (first|refine blk_drewN ?_ _|refine blk_drew ?_|refine blk_alloc ?_ _));exact BK101.out) hb);have n1_ := Aside0.mk (below_step (by repeat (first|(with_reducible first|exact HB.out|apply below_alloc|apply pw_below_drewN|apply below_drew1|refine below_set ?_ GE101.out)|exact HB.out)) hb);clear BK101;clear HB;have BK101 := n0_;have HB := n1_;clear n0_ n1_;(try clear hb);(try clear hb2);(try clear hk);(try clear hi)))
  go_ret
  exact ⟨by first|rfl|(simp [errW_none, errW_some] <;> rfl)|(simp [*, errW_none, errW_some] <;> rfl), by repeat (first|(with_reducible first|exact HB.out|apply below_alloc|apply pw_below_drewN|apply below_drew1|refine below_set ?_ GE101.out)|exact HB.out)⟩
end Go.Proofs.Ytgdecbliegelmaa.Q

/- The walks of impl.each, the closure of impl.Places, impl.Places. -/
namespace Go.Proofs.Ytgdecbliegelmaa.Q
open Go.RowKit Go.Proofs.YtgdecbliegelmaaW.PrintWords Go.Proofs.YtgdecbliegelmaaW.PrintLast Go.Proofs.YtgdecbliegelmaaW.PrintMore
attribute [local go_sem] max2_int min2_int max_two min_two max_three min_three max_four min_four
set_option linter.unusedVariables false
set_option linter.unusedSimpArgs false
theorem R_kt {α : Type} {d : Kd α} {e base : Nat} {w w' : World} {v : Value} {xs : List α} {ts : List Nat} (h : d.R e w base (fun _ => True) v xs) (hb : KT ts w w') (ht : ∀ q, q ∈ e :: d.E → q ∉ ts) : d.R e w' base (fun _ => True) v xs :=
 Kd.R_mono (Kd.R_step (Kd.R_bound h) (fun k hk hlt => hb.2 k hlt (fun q hq cells he => by
  obtain ⟨_, _, _, q2, hq2, cells2, hc2⟩ := hk
  rw [hc2] at he
  injection he with he
  injection he with _ e2
  exact ht q2 hq2 (e2 ▸ hq)))) (fun _ _ => trivial)
theorem S_kt {α : Type} {d : Kd α} {e base : Nat} {w w' : World} {v : Value} {xs : List α} {ts : List Nat} (h : Kd.S d e w base (fun _ => True) v xs) (hb : KT ts w w') (ht : ∀ q, q ∈ e :: d.E → q ∉ ts) : Kd.S d e w' base (fun _ => True) v xs :=
 Kd.S_mono (Kd.S_step (Kd.S_bound h) (fun k hk hlt => hb.2 k hlt (fun q hq cells he => by
  obtain ⟨_, _, _, q2, hq2, cells2, hc2⟩ := hk
  rw [hc2] at he
  injection he with he
  injection he with _ e2
  exact ht q2 hq2 (e2 ▸ hq)))) (fun _ _ => trivial)
abbrev kIJ : Kd (List Int) := Kd.slice 3 (Kd.int .i64)
def impl_PlacesF.f (k : Nat) (nm tx : ByteArray) (lf : Bool) (l : List S53) (nm2 tx2 : ByteArray) (lf2 : Bool) (l2 : List S53) (pl : List Int) (out : List (List Int)) : Option (List (List Int)) :=
  (impl_match.f k nm tx lf l nm2 tx2 lf2 l2 []).bind fun r => if r.2 = true then (if pl.length < 100000000000 then (if out.length < 1000000000000 then some (out ++ [pl]) else none) else none) else some out
theorem impl_PlacesF.mono (a0 a1 : ByteArray) (a2 : Bool) (a3 : List S53) (a4 a5 : ByteArray) (a6 : Bool) (a7 : List S53) (a8 : List Int) (a9 : List (List Int)) (k : Nat) : LeO (impl_PlacesF.f k a0 a1 a2 a3 a4 a5 a6 a7 a8 a9) (impl_PlacesF.f (k + 1) a0 a1 a2 a3 a4 a5 a6 a7 a8 a9) := by
 unfold impl_PlacesF.f
 exact LeO.bind (impl_match.mono _ _ _ _ _ _ _ _ _ _) (fun _ => LeO.refl _)
/-- What the variable out holds, and what lies about it. -/
def OutAt (w0 w : World) (bo : Nat) (out : List (List Int)) : Prop := ∃ vo, w.heap[bo]? = some (.cells #[vo] 69 (0, 0)) ∧ w0.heap.size ≤ bo ∧ Kd.S kIJ 62 w w0.heap.size (fun _ => True) vo out
theorem OutAt.below {w0 w w' : World} {bo : Nat} {out : List (List Int)} (h : OutAt w0 w bo out) (hb : Below w.heap.size w w') : OutAt w0 w' bo out := by
 obtain ⟨vo, h1, h2, h3⟩ := h
 exact ⟨vo, blk_below h1 hb, h2, Kd.S_below h3 hb⟩
theorem OutAt.kt {w0 w w' : World} {bo : Nat} {out : List (List Int)} {ts : List Nat} (h : OutAt w0 w bo out) (hb : KT ts w w') (h1 : 69 ∉ ts) (h2 : 62 ∉ ts) (h3 : 3 ∉ ts) : OutAt w0 w' bo out := by
 obtain ⟨vo, g1, g2, g3⟩ := h
 refine ⟨vo, hb.blk g1 h1, g2, S_kt g3 hb (fun q hq => ?_)⟩
 have : q = 62 ∨ q = 3 := by simpa [Kd.slice, Kd.int, Kd.scalar] using hq
 rcases this with rfl|rfl
 ·exact h2
 ·exact h3
set_option maxHeartbeats 16000000 in
set_option maxRecDepth 100000 in
theorem impl_PlacesF.calls (k : Nat) (nm tx : ByteArray) (lf : Bool) (A : Option Addr) (c : Nat) (l : List S53) (nm2 tx2 : ByteArray) (lf2 : Bool) (A2 : Option Addr) (c2 : Nat) (l2 : List S53) (v : Value) (pl : List Int) (bp bo : Nat) (out rl : List (List Int)) (w0 w : World) (hp : Kd.C k53 w0 A l.length l) (hc : l.length ≤ c) (hp2 : Kd.C k53 w0 A2 l2.length l2) (hc2 : l2.length ≤ c2) (hB : Below w0.heap.size w0 w) (hv : Kd.R (Kd.int .i64) 3 w w0.heap.size (fun _ => True) v pl) (hbp : w.heap[bp]? = some (.cells #[.string nm, .string tx, .bool lf, .slice A l.length c] 53 (0, 0))) (hbo : OutAt w0 w bo out) (h : impl_PlacesF.f k nm tx lf l nm2 tx2 lf2 l2 pl out = some rl) :
  Calls Try.prog 89 #[.agg #[.string nm2, .string tx2, .bool lf2, .slice A2 l2.length c2], v, .pointer (some ⟨bp, 0, none⟩), .pointer (some ⟨bo, 0, none⟩)] w fun e w' => e = .returned (.tuple #[]) ∧ OutAt w0 w' bo rl ∧ Below w0.heap.size w0 w' ∧ KT [62, 69, 151] w w' := by
 have hu53 := Try.underlying53
 unfold impl_PlacesF.f at h
 obtain ⟨Ap, cp, rfl⟩ := Kd.R_slice hv
 have HP := Aside0.mk hp
 have HC := Aside0.mk hc
 have HP2 := Aside0.mk hp2
 have HC2 := Aside0.mk hc2
 have HB := Aside0.mk hB
 have HV := Aside0.mk hv
 have HO := Aside0.mk hbo
 have HBP := Aside0.mk hbp
 have hb0 := blk_lt hbp
 have HB0 : Aside0 (Below w.heap.size w (w.alloc (.cells #[.string nm2, .string tx2, .bool lf2, .slice A2 l2.length c2] 53))) := ⟨below_alloc (Below.refl _ _) _⟩
 have hx10 : w.cell? ⟨bp, 0, none⟩ = some (.string nm) := (blk_cell hbp 0).trans rfl
 have hx11 : w.cell? ⟨bp, 1, none⟩ = some (.string tx) := (blk_cell hbp 1).trans rfl
 have hx12 : w.cell? ⟨bp, 2, none⟩ = some (.bool lf) := (blk_cell hbp 2).trans rfl
 have hx13 : w.cell? ⟨bp, 3, none⟩ = some (.slice A l.length c) := (blk_cell hbp 3).trans rfl
 clear hp hc hp2 hc2 hB hv hbo hbp
 obtain ⟨⟨rm, b⟩, ht, h⟩ := Option.bind_eq_some_iff.mp h
 have HT := Aside0.mk ht
 clear ht
 cases b with
 | false =>
  simp only [Bool.false_eq_true, if_false, Option.some.injEq] at h
  obtain rfl := h
  go_enter Try.func89, Try.ntmps89
  go_wp2_with (first|(go_at_call 90;(with_reducible refine (impl_match.calls k nm tx lf A c l nm2 tx2 lf2 A2 c2 l2 _ [] rm false w0 _ HP.out HC.out HP2.out HC2.out (below_step HB.out HB0.out) (Kd.N_nil _ _ _ _ _) HT.out).mono ?_);rintro e w2 ⟨v2, rfl, hn2, hb2, hk2⟩;have HB2 := Aside0.mk hb2;have HK2 := Aside0.mk ((KT.of_below HB0.out).trans hk2);have HO2 := Aside0.mk ((HO.out.below HB0.out).kt hk2 (by decide) (by decide) (by decide));clear hn2 hb2 hk2))
  first|go_end0|((try simp only [Exit.inBlock, Exit.then]);refine bodyPost_ret (results_none rfl _ _ _) rfl ?_)
  exact ⟨rfl, HO2.out, HB2.out, HK2.out.mono (by decide)⟩
 | true =>
  simp only [if_true] at h
  by_cases c1 : pl.length < 100000000000
  ·rw [if_pos c1] at h
   by_cases c2_ : out.length < 1000000000000
   ·rw [if_pos c2_] at h
    simp only [Option.some.injEq] at h
    obtain rfl := h
    have HL1 := Aside0.mk c1
    have HL2 := Aside0.mk c2_
    clear c1 c2_
    go_enter Try.func89, Try.ntmps89
    go_wp2_with (first|(go_at_call 90;(with_reducible refine (impl_match.calls k nm tx lf A c l nm2 tx2 lf2 A2 c2 l2 _ [] rm true w0 _ HP.out HC.out HP2.out HC2.out (below_step HB.out HB0.out) (Kd.N_nil _ _ _ _ _) HT.out).mono ?_);rintro e w2 ⟨v2, rfl, hn2, hb2, hk2⟩;have HB2 := Aside0.mk hb2;have HK2 := Aside0.mk ((KT.of_below HB0.out).trans hk2);have HO2 := Aside0.mk ((HO.out.below HB0.out).kt hk2 (by decide) (by decide) (by decide));have HV2 := Aside0.mk (R_kt (Kd.R_below HV.out HB0.out) hk2 (by simp [Kd.int, Kd.scalar]));clear hn2 hb2 hk2))
    have HB1 : Aside0 (Below w0.heap.size w0 w2.drew) := ⟨below_drew1 HB2.out⟩
    have HK1 : Aside0 (KT [151] w w2.drew) := ⟨HK2.out.below (below_drew (Below.refl _ _))⟩
    have HV1 := Aside0.mk (Kd.R_drew HV2.out)
    obtain ⟨vo, go1, go2, go3⟩ := HO2.out
    have hbc : w2.cell? ⟨bo, 0, none⟩ = some vo := (blk_cell go1 0).trans rfl
    have HG1 := Aside0.mk (blk_drew go1)
    have HG2 := Aside0.mk go2
    have HS1 := Aside0.mk (Kd.S_drew go3)
    clear go1 go2 go3 HO2
    refine start_ (n := 7) (S := fun w' => w'.cell? ⟨bo, 0, none⟩ = some vo) (ds := [5, 6]) #[false, false, false, false, false, false, false] (by kernel_rfl) rfl rfl (hbc) (fun hHeld => ?_)
    generalize w2.drew = W1 at HB1 HK1 HV1 HG1 HS1 hHeld ⊢;have HC0 := Aside0.mk hHeld;clear hbc
    refine pure_ (i := 2) (N := some 17) (v := ?_) (a' := ?_) #[false, false, true, false, false, false, false] rfl rfl (by kernel_rfl) (fun _ _ _ h => h) (Or.inl ⟨by rfl, ?_⟩) ?_ ?_
    rotate_left
    ·intro w'
     go_simp
     with_reducible rfl
    rotate_left
    ·simp only [Act.put, List.setIfInBounds_toArray, List.set_cons_zero, List.set_cons_succ, i64_w, i32_w]
     rfl
    refine take_ (i := 0) (N := some 15) (v := ?_) (a' := ?_) #[true, false, true, false, false, false, false] rfl rfl (by kernel_rfl) (fun _ _ _ h => h) (Or.inl ⟨by rfl, ?_⟩) hHeld ?_ ?_
    rotate_left
    ·intro w' s0
     go_simp
     with_reducible rfl
    rotate_left
    ·simp only [Act.put, List.setIfInBounds_toArray, List.set_cons_zero, List.set_cons_succ, i64_w, i32_w]
     rfl
    refine one_ (i := 1) (N := some 16) #[true, true, true, false, false, false, false] rfl rfl (by kernel_rfl) (by decide) (fun K hK => ?_)
    refine value_ (w1 := ?_) (v := ?_) (by rfl) rfl ?_ ?_
    rotate_left 2
    ·go_simp
     constructor
     ·rfl
     ·rfl
    refine hK.out _ _ ((Below.cell (below_alloc (Below.refl _ _) _) (World.block_lt_of_cell? _ _ hHeld)).trans hHeld) (fun hHeld => ?_)
    clear hK K
    refine norm_ (a' := ?_) ?_ ?_
    rotate_left
    ·show Act.put _ (some 16) _ = _
     simp only [Act.put, List.setIfInBounds_toArray, List.set_cons_zero, List.set_cons_succ, i64_w, i32_w]
     rfl
    refine one_ (i := 3) (N := some 18) #[true, true, true, true, false, false, false] rfl rfl (by kernel_rfl) (by decide) (fun K hK => ?_)
    refine Kd.R_append_rows_step (Kd.int .i64) (w0 := W1) W1.heap.size (by rfl) (.tmp 16) (.tmp 17) 62 3 (.int .i64 0) 8 rfl Try.underlying62 info3 rfl (by decide) (by omega) (.slice (some ⟨W1.heap.size, 0, none⟩) 0 0) [] pl Ap pl.length cp (fun _ => True) (fun _ => False) rfl rfl ?nO ?nF (fun _ _ hk => hk) (fun _ hk => hk.elim) (fun _ _ => trivial) ?nB ?nS ?nL ?_
    (case nO => exact R_empty_ (Nat.le_refl _))
    (case nF => exact (Kd.C_below (Kd.R_reads' HV1.out).2.2 (below_alloc (Below.refl _ _) _)))
    (case nB => exact below_alloc (Below.refl _ _) _)
    (case nS => simp)
    (case nL => have := HL1.out;simp;omega)
    intro v5 w5 ho5 hb5 _ _
    simp only [List.nil_append] at ho5
    obtain ⟨A5, c5, rfl⟩ := Kd.R_slice ho5
    have HR5 := Aside0.mk ho5
    have HB5 := Aside0.mk hb5
    clear ho5 hb5
    refine hK.out _ _ ((HB5.out.cell (World.block_lt_of_cell? _ _ HC0.out)).trans HC0.out) (fun hHeld => ?_)
    clear hK K
    refine norm_ (a' := ?_) ?_ ?_
    rotate_left
    ·show Act.put _ (some 18) _ = _
     simp only [Act.put, List.setIfInBounds_toArray, List.set_cons_zero, List.set_cons_succ, i64_w, i32_w]
     rfl
    refine one_ (i := 4) (N := some 19) #[true, true, true, true, true, false, false] rfl rfl (by kernel_rfl) (by decide) (fun K hK => ?_)
    refine value_ (w1 := ?_) (v := ?_) (by rfl) rfl ?_ ?_
    rotate_left 2
    ·go_simp
     constructor
     ·rfl
     ·rfl
    refine hK.out _ _ ((Below.cell (below_alloc (Below.refl _ _) _) (World.block_lt_of_cell? _ _ hHeld)).trans hHeld) (fun hHeld => ?_)
    clear hK K
    refine norm_ (a' := ?_) ?_ ?_
    rotate_left
    ·show Act.put _ (some 19) _ = _
     simp only [Act.put, List.setIfInBounds_toArray, List.set_cons_zero, List.set_cons_succ, i64_w, i32_w]
     rfl
    refine last_ (i := 5) (N := some 20) #[true, true, true, true, true, true, false] rfl rfl (by kernel_rfl) (by decide) (fun K hK => ?_)
    refine Kd.S_append_step kIJ (w0 := w0) w0.heap.size (by rfl) (.tmp 15) (.tmp 19) 69 62 (.slice none 0 0) 24 rfl Try.underlying69 info62 rfl (by decide) (by omega) vo out pl [.slice A5 pl.length c5] (fun _ => True) (fun k => W1.heap.size ≤ k) rfl (by first|(go_simp;done)|(go_simp;rfl)) ?mP (fun k hk => ⟨trivial, ?mE⟩) (fun _ _ => trivial) ?mO ?mB ?mS ?mL ?_
    (case mP => exact ⟨.slice A5 pl.length c5, rfl, Kd.R_mono (ok := fun k => True ∧ W1.heap.size ≤ k) (Kd.R_lower (Kd.R_mono (Kd.R_bound HR5.out) (fun k hk => ⟨trivial, hk.2.1⟩)) HB1.out.size) (fun k hk => hk.2)⟩)
    (case mE => exact fun e_ => absurd (Kd.S_lt HS1.out k e_.symm) (by omega))
    (case mO => exact Kd.S_mono (Kd.S_below (Kd.S_bound HS1.out) HB5.out) (fun k hk => ⟨trivial, by have := hk.2.2.1;omega⟩))
    (case mB => exact below_step HB1.out HB5.out)
    (case mS => exact (below_step HB1.out HB5.out).size)
    (case mL => have := HL2.out;omega)
    intro v7 w7 ho7 hb7 hg7 _
    have hbo7 := blk_grown (blk_below HG1.out HB5.out) hg7 (fun e_ => by obtain ⟨cells, hcl⟩ := Kd.S_typed HS1.out _ e_.symm;have hX := HG1.out;rw [hX] at hcl;injection hcl with hcl;injection hcl with _ e2;exact absurd e2 (by decide))
    have hfz7 := blk_frozen hbo7 0
    have hbc7 : w7.cell? ⟨bo, 0, none⟩ = some vo := (blk_cell hbo7 0).trans rfl
    have HK7 : Aside0 (KT [62, 69, 151] w w7) := ⟨((HK1.out.below HB5.out).mono (by decide)).grown hg7 (fun q hq => by obtain ⟨cells, hcl⟩ := Kd.S_typed (Kd.S_below HS1.out HB5.out) q hq;exact ⟨62, by simp, cells, hcl⟩)⟩
    obtain ⟨A7, c7, rfl⟩ := Kd.S_slice ho7
    have HO9 : Aside0 (OutAt w0 (w7.setCell ⟨bo, 0, none⟩ (.slice A7 (out ++ [pl]).length c7)) bo (out ++ [pl])) := ⟨_, blk_put hbo7 0 _ rfl, HG2.out, Kd.S_set ho7 hbo7 (by simp [Kd.slice, Kd.int, Kd.scalar]) 0 _⟩
    have HB9 : Aside0 (Below w0.heap.size w0 (w7.setCell ⟨bo, 0, none⟩ (.slice A7 (out ++ [pl]).length c7))) := ⟨below_set hb7 HG2.out⟩
    have HK9 : Aside0 (KT [62, 69, 151] w (w7.setCell ⟨bo, 0, none⟩ (.slice A7 (out ++ [pl]).length c7))) := ⟨HK7.out.trans (KT.set hbo7 (by decide) _)⟩
    rw [show (out ++ [pl]).length = out.length + 1 from by simp] at HO9 HB9 HK9
    clear ho7 hb7 hg7
    refine hK.out _ _ ?_
    clear hK K
    refine norm_ (a' := ?_) ?_ ?_
    rotate_left
    ·show Act.put _ (some 20) _ = _
     simp only [Act.put, List.setIfInBounds_toArray, List.set_cons_zero, List.set_cons_succ, i64_w, i32_w]
     rfl
    refine last_ (i := 6) (N := none) #[true, true, true, true, true, true, true] rfl rfl (by kernel_rfl) (by decide) (fun K hK => ?_)
    refine skip_ (w1 := ?_) (by rfl) rfl ?_ ?_
    rotate_left
    ·go_simp
     rfl
    refine hK.out _ _ ?_
    clear hK K
    refine done_ (by kernel_rfl) ?_
    go_wp2
    first|go_end0|((try simp only [Exit.inBlock, Exit.then]);refine bodyPost_ret (results_none rfl _ _ _) rfl ?_)
    exact ⟨rfl, HO9.out, HB9.out, HK9.out⟩
   ·rw [if_neg c2_] at h
    exact absurd h (by simp)
  ·rw [if_neg c1] at h
   exact absurd h (by simp)
theorem R_of_owns {base n : Nat} {w : World} {v : Value} {xs : List Int} (h : w.ownsRow base 3 1 v n (xs.map (Value.int .i64))) (hn : n = xs.length) : (Kd.int .i64).R 3 w base (fun _ => True) v xs := by
 subst hn
 refine ⟨fun _ _ => trivial, _, h, by simp [Kd.int, Kd.scalar], fun j p hj => ?_⟩
 show ((xs.map (Value.int .i64)).drop (j * 1)).take 1 = [Value.int .i64 p]
 have hlt := (List.getElem?_eq_some_iff.1 hj).1
 have he := (List.getElem?_eq_some_iff.1 hj).2
 rw [Nat.mul_one, List.drop_eq_getElem_cons (by simpa using hlt)]
 simp [he]
theorem cells_of_C {w : World} {A : Option Addr} {xs : List Int} (h : (Kd.int .i64).C w A xs.length xs) : ∀ b, A = some b → ∀ j u, (xs.map (Value.int .i64))[j]? = some u → w.cell? (b.add j) = some u := by
 rintro b rfl j u hu
 obtain ⟨hj, he⟩ := List.getElem?_eq_some_iff.1 hu
 have hj' : j < xs.length := by simpa using hj
 obtain ⟨ad, e, hc⟩ := Kd.at_int h (j : Int) (by omega) (by omega)
 cases e
 rw [Int.toNat_natCast] at hc
 rw [hc, ← he]
 simp [rd, List.getD_eq_getElem?_getD, List.getElem?_eq_getElem hj']
theorem none_of_C {w : World} {A : Option Addr} {xs : List Int} (h : (Kd.int .i64).C w A xs.length xs) : A = none → xs.length = 0 ∧ xs.length = 0 := by
 rintro rfl
 rcases Nat.eq_zero_or_pos xs.length with h0|h0
 ·exact ⟨h0, h0⟩
 ·obtain ⟨ad, e, _⟩ := h.2.2 h0
  cases e
theorem cell_new1 (W : World) (u0 : Value) (t : Nat) : ∀ j u, ([u0] : List Value)[j]? = some u → (W.alloc (.cells #[u0] t)).cell? (Addr.add ⟨W.heap.size, 0, none⟩ j) = some u := by
 intro j u hu
 rcases j with _|j
 ·simp only [List.getElem?_cons_zero, Option.some.injEq] at hu
  subst hu
  have := blk_cell (blk_new W (.cells #[u0] t)) 0
  simpa [Addr.add] using this
 ·simp at hu
mutual
def impl_each.l0 : Nat → ByteArray → ByteArray → Bool → List S53 → List S53 → List Int → Int → List (List Int) → Option (List (List Int))
  | 0, _, _, _, _, _, _, _, _ => none
  | k + 1, nm, tx, lf, l, l2, pl, i, out => if i < (l2.length : Int) then (if 0 ≤ i then (if pl.length < 100000000000 then ((impl_each.f k nm tx lf l (rd_T53 l2 i).f0 (rd_T53 l2 i).f1 (rd_T53 l2 i).f2 (rd_T53 l2 i).f3 (pl ++ [i]) out).bind fun o => impl_each.l0 k nm tx lf l l2 pl (wrap64 (i + 1)) o) else none) else none) else some out
def impl_each.f : Nat → ByteArray → ByteArray → Bool → List S53 → ByteArray → ByteArray → Bool → List S53 → List Int → List (List Int) → Option (List (List Int))
  | 0, _, _, _, _, _, _, _, _, _, _ => none
  | k + 1, nm, tx, lf, l, nm2, tx2, lf2, l2, pl, out => (impl_PlacesF.f k nm tx lf l nm2 tx2 lf2 l2 pl out).bind fun o => impl_each.l0 k nm tx lf l l2 pl 0 o
end
theorem impl_each.mono_l : ∀ k, (∀ y0 y1 y2 y3 y4 y5 y6 y7 y8 y9, LeO (impl_each.f k y0 y1 y2 y3 y4 y5 y6 y7 y8 y9) (impl_each.f (k + 1) y0 y1 y2 y3 y4 y5 y6 y7 y8 y9)) ∧ (∀ y0 y1 y2 y3 y4 y5 y6 y7, LeO (impl_each.l0 k y0 y1 y2 y3 y4 y5 y6 y7) (impl_each.l0 (k + 1) y0 y1 y2 y3 y4 y5 y6 y7))
 | 0 => ⟨fun _ _ _ _ _ _ _ _ _ _ r h => by simp [impl_each.f] at h, fun _ _ _ _ _ _ _ _ r h => by simp [impl_each.l0] at h⟩
 | k + 1 => by
  obtain ⟨ih0, ih1⟩ := impl_each.mono_l k
  refine ⟨?_, ?_⟩
  ·intro y0 y1 y2 y3 y4 y5 y6 y7 y8 y9
   unfold impl_each.f
   exact LeO.bind (impl_PlacesF.mono _ _ _ _ _ _ _ _ _ _ _) (fun _ => ih1 _ _ _ _ _ _ _ _)
  ·intro y0 y1 y2 y3 y4 y5 y6 y7
   unfold impl_each.l0
   refine LeO.ite (LeO.ite (LeO.ite (LeO.bind (ih0 _ _ _ _ _ _ _ _ _ _) (fun _ => ih1 _ _ _ _ _ _ _ _)) (LeO.refl _)) (LeO.refl _)) (LeO.refl _)
theorem impl_each.mono (a0 a1 : ByteArray) (a2 : Bool) (a3 : List S53) (a4 a5 : ByteArray) (a6 : Bool) (a7 : List S53) (a8 : List Int) (a9 : List (List Int)) (k : Nat) : LeO (impl_each.f k a0 a1 a2 a3 a4 a5 a6 a7 a8 a9) (impl_each.f (k + 1) a0 a1 a2 a3 a4 a5 a6 a7 a8 a9) := (impl_each.mono_l k).1 a0 a1 a2 a3 a4 a5 a6 a7 a8 a9
set_option maxHeartbeats 16000000 in
set_option maxRecDepth 100000 in
theorem impl_each.calls (k : Nat) : ∀ (nm tx : ByteArray) (lf : Bool) (A : Option Addr) (c : Nat) (l : List S53) (nm2 tx2 : ByteArray) (lf2 : Bool) (A2 : Option Addr) (c2 : Nat) (l2 : List S53) (v : Value) (pl : List Int) (bp bo : Nat) (out rl : List (List Int)) (w0 w : World) (hp : Kd.C k53 w0 A l.length l) (hc : l.length ≤ c) (hp2 : Kd.C k53 w0 A2 l2.length l2) (hc2 : l2.length ≤ c2) (hB : Below w0.heap.size w0 w) (hv : Kd.R (Kd.int .i64) 3 w w0.heap.size (fun _ => True) v pl) (hbp : w.heap[bp]? = some (.cells #[.string nm, .string tx, .bool lf, .slice A l.length c] 53 (0, 0))) (hbo : OutAt w0 w bo out) (h : impl_each.f k nm tx lf l nm2 tx2 lf2 l2 pl out = some rl),
  Calls Try.prog 88 #[.agg #[.string nm2, .string tx2, .bool lf2, .slice A2 l2.length c2], v, .func (.func 89) #[] #[.pointer (some ⟨bp, 0, none⟩), .pointer (some ⟨bo, 0, none⟩)]] w fun e w' => e = .returned (.tuple #[]) ∧ OutAt w0 w' bo rl ∧ Below w0.heap.size w0 w' ∧ KT [62, 69, 151] w w' := by
 induction k using Nat.strongRecOn with
 | _ k ih =>
 intro nm tx lf A c l nm2 tx2 lf2 A2 c2 l2 v pl bp bo out rl w0 w hp hc hp2 hc2 hB hv hbp hbo h
 cases k with
 | zero => exact absurd h (by simp [impl_each.f])
 | succ k =>
 simp only [impl_each.f] at h
 have hu53 := Try.underlying53
 obtain ⟨Ap, cp, rfl⟩ := Kd.R_slice hv
 have HP := Aside0.mk hp
 have HC := Aside0.mk hc
 have HP2 := Aside0.mk hp2
 have HC2 := Aside0.mk hc2
 have HB := Aside0.mk hB
 have HV := Aside0.mk hv
 have HO := Aside0.mk hbo
 have HBP := Aside0.mk hbp
 have HB0 : Aside0 (Below w.heap.size w (w.alloc (.cells #[.string nm2, .string tx2, .bool lf2, .slice A2 l2.length c2] 53))) := ⟨below_alloc (Below.refl _ _) _⟩
 have HX0 := Aside0.mk (blk_new w (.cells #[.string nm2, .string tx2, .bool lf2, .slice A2 l2.length c2] 53))
 clear hp hc hp2 hc2 hB hv hbo hbp
 obtain ⟨o1, ht, h⟩ := Option.bind_eq_some_iff.mp h
 have HT := Aside0.mk ht
 have H' := Aside0.mk h
 clear ht h
 go_enter Try.func88, Try.ntmps88
 go_wp2_with (first|(go_at_call 89;(with_reducible refine (impl_PlacesF.calls k nm tx lf A c l nm2 tx2 lf2 A2 c2 l2 _ pl bp bo out o1 w0 _ HP.out HC.out HP2.out HC2.out (below_step HB.out HB0.out) (Kd.R_below HV.out HB0.out) (blk_below HBP.out HB0.out) (HO.out.below HB0.out) HT.out).mono ?_);rintro e w2 ⟨rfl, ho2, hb2, hk2⟩;have HO2 := Aside0.mk ho2;have HB2 := Aside0.mk hb2;have HK2 := Aside0.mk ((KT.of_below HB0.out).trans hk2);have HX2 := Aside0.mk (hk2.blk HX0.out (by decide));have hx3 : w2.cell? ⟨w.heap.size, 3, none⟩ = some (.slice A2 l2.length c2) := (blk_cell HX2.out 3).trans rfl;clear ho2 hb2 hk2))
 clear hx3
 go_loopg [6, 7, 15] k (fun kq v6 v7 v15 w' => ∃ (i : Int) (ou : List (List Int)), v15 = .int .i64 i ∧ Aside0 (OutAt w0 w' bo ou) ∧ Aside0 (impl_each.l0 kq nm tx lf l l2 pl i ou = some rl) ∧ Aside0 (kq ≤ k) ∧ Aside0 (Below w0.heap.size w0 w') ∧ Aside0 (KT [62, 69, 151] w w'))
 case atStart => exact ⟨0, o1, rfl, HO2, H', ⟨Nat.le_refl _⟩, HB2, HK2⟩
 case round =>
  clear H' HO2 HB2 HK2 HX2 HX0 HB0 HT HO HB
  obtain ⟨i, ou, rfl, HO, HA, HK1, HB, HK⟩ := hrel
  cases gk with
  | zero => exact absurd HA.out (by simp [impl_each.l0])
  | succ k1 =>
   have H := HA.out
   clear HA
   simp only [impl_each.l0] at H
   by_cases c5 : i < (l2.length : Int)
   ·rw [if_pos c5] at H
    have c5b : decide (i < (l2.length : Int)) = true := decide_eq_true c5
    by_cases c6 : 0 ≤ i
    ·rw [if_pos c6] at H
     by_cases c7 : pl.length < 100000000000
     ·rw [if_pos c7] at H
      obtain ⟨o2, ht, H⟩ := Option.bind_eq_some_iff.mp H
      have HT2 := Aside0.mk ht
      have H' := Aside0.mk H
      have HLIM := Aside0.mk c7
      clear ht H
      obtain ⟨ad, A3, c3, e, hy0, hy1, hy2, hy3, hl3, hi3⟩ := at_T53 HP2.out i c6 c5
      cases e
      replace hy0 := (HB.out.cell (World.block_lt_of_cell? w0 _ hy0)).trans hy0
      replace hy1 := (HB.out.cell (World.block_lt_of_cell? w0 _ hy1)).trans hy1
      replace hy2 := (HB.out.cell (World.block_lt_of_cell? w0 _ hy2)).trans hy2
      replace hy3 := (HB.out.cell (World.block_lt_of_cell? w0 _ hy3)).trans hy3
      have HK3 := Aside0.mk hi3
      have HC3 := Aside0.mk hl3
      have p0 := eq_true c6
      have p1 := eq_true c5
      have HVr := Aside0.mk (R_kt HV.out HK.out (by simp [Kd.int, Kd.scalar]))
      have hcap := (Kd.R_reads' HV.out).2.1
      have hcap2 : (pl.length ≤ cp) = True := eq_true hcap
      have hcap3 : decide ((pl.length : Int) ≤ (cp : Int)) = true := decide_eq_true (by omega)
      have hcap4 : ((pl.length : Int) ≤ (cp : Int)) = True := eq_true (by omega)
      have hcap5 : (cp < pl.length) = False := eq_false (by omega)
      have hcap6 : ((cp : Int) < (pl.length : Int)) = False := eq_false (by omega)
      clear hi3 hl3 c5 c6 c7 hcap
      go_upto_region 5 with (fail)
      have HBk : Aside0 (Below wr.heap.size wr (wr.alloc (.cells #[.string (rd_T53 l2 i).f0, .string (rd_T53 l2 i).f1, .bool (rd_T53 l2 i).f2, .slice A3 (rd_T53 l2 i).f3.length c3] 53)).drew) := ⟨below_drew1 (below_alloc (Below.refl _ _) _)⟩
      have HXk := blk_new wr (.cells #[.string (rd_T53 l2 i).f0, .string (rd_T53 l2 i).f1, .bool (rd_T53 l2 i).f2, .slice A3 (rd_T53 l2 i).f3.length c3] 53)
      have hz0 := (blk_cell HXk 0)
      have hz1 := (blk_cell HXk 1)
      have hz2 := (blk_cell HXk 2)
      have hz3 := (blk_cell HXk 3)
      obtain ⟨i0, hin, hiz, his, hib⟩ := info_parts info3
      refine start_ (n := 12) (S := fun w' => w'.cell? ⟨wr.heap.size, 0, none⟩ = some (.string (rd_T53 l2 i).f0) ∧ w'.cell? ⟨wr.heap.size, 1, none⟩ = some (.string (rd_T53 l2 i).f1) ∧ w'.cell? ⟨wr.heap.size, 2, none⟩ = some (.bool (rd_T53 l2 i).f2) ∧ w'.cell? ⟨wr.heap.size, 3, none⟩ = some (.slice A3 (rd_T53 l2 i).f3.length c3)) (ds := [11]) #[false, false, false, false, false, false, false, false, false, false, false, false] (by kernel_rfl) rfl rfl ⟨hz0, hz1, hz2, hz3⟩ (fun hHeld => ?_)
      have HBw : Aside0 (Below w0.heap.size w0 ((wr.alloc (.cells #[.string (rd_T53 l2 i).f0, .string (rd_T53 l2 i).f1, .bool (rd_T53 l2 i).f2, .slice A3 (rd_T53 l2 i).f3.length c3] 53)).drew)) := ⟨below_step HB.out HBk.out⟩;have HKw : Aside0 (KT [62, 69, 151] w ((wr.alloc (.cells #[.string (rd_T53 l2 i).f0, .string (rd_T53 l2 i).f1, .bool (rd_T53 l2 i).f2, .slice A3 (rd_T53 l2 i).f3.length c3] 53)).drew)) := ⟨HK.out.below HBk.out⟩;have HVw := Aside0.mk (Kd.R_below HVr.out HBk.out);have HOw := Aside0.mk (HO.out.below HBk.out);have HPw := Aside0.mk (HKw.out.blk HBP.out (by decide));clear HBk HXk HVr hy0 hy1 hy2 hy3 hz0 hz1 hz2 hz3;generalize (wr.alloc (.cells #[.string (rd_T53 l2 i).f0, .string (rd_T53 l2 i).f1, .bool (rd_T53 l2 i).f2, .slice A3 (rd_T53 l2 i).f3.length c3] 53)).drew = W1 at HBw HKw HVw HOw HPw hHeld ⊢;have HC0 := Aside0.mk hHeld.1;have HC1 := Aside0.mk hHeld.2.1;have HC2_ := Aside0.mk hHeld.2.2.1;have HC3_ := Aside0.mk hHeld.2.2.2
      refine pure_ (i := 1) (N := some 21) (v := ?_) (a' := ?_) #[false, true, false, false, false, false, false, false, false, false, false, false] rfl rfl (by kernel_rfl) (fun _ _ _ h => h) (Or.inl ⟨by rfl, ?_⟩) ?_ ?_
      rotate_left
      ·intro w'
       go_simp
       with_reducible rfl
      rotate_left
      ·simp only [Act.put, List.setIfInBounds_toArray, List.set_cons_zero, List.set_cons_succ, i64_w, i32_w]
       rfl
      refine pure_ (i := 2) (N := some 22) (v := ?_) (a' := ?_) #[false, true, true, false, false, false, false, false, false, false, false, false] rfl rfl (by kernel_rfl) (fun _ _ _ h => h) (Or.inl ⟨by rfl, ?_⟩) ?_ ?_
      rotate_left
      ·intro w'
       go_simp
       with_reducible rfl
      rotate_left
      ·simp only [Act.put, List.setIfInBounds_toArray, List.set_cons_zero, List.set_cons_succ, i64_w, i32_w]
       rfl
      refine pure_ (i := 3) (N := some 23) (v := ?_) (a' := ?_) #[false, true, true, true, false, false, false, false, false, false, false, false] rfl rfl (by kernel_rfl) (fun _ _ _ h => h) (Or.inl ⟨by rfl, ?_⟩) ?_ ?_
      rotate_left
      ·intro w'
       go_simp
       with_reducible rfl
      rotate_left
      ·simp only [Act.put, List.setIfInBounds_toArray, List.set_cons_zero, List.set_cons_succ, i64_w, i32_w]
       rfl
      refine pure_ (i := 4) (N := some 24) (v := ?_) (a' := ?_) #[false, true, true, true, true, false, false, false, false, false, false, false] rfl rfl (by kernel_rfl) (fun _ _ _ h => h) (Or.inl ⟨by rfl, ?_⟩) ?_ ?_
      rotate_left
      ·intro w'
       go_simp
       with_reducible rfl
      rotate_left
      ·simp only [Act.put, List.setIfInBounds_toArray, List.set_cons_zero, List.set_cons_succ, i64_w, i32_w]
       rfl
      refine pure_ (i := 5) (N := some 25) (v := ?_) (a' := ?_) #[false, true, true, true, true, true, false, false, false, false, false, false] rfl rfl (by kernel_rfl) (fun _ _ _ h => h) (Or.inl ⟨by rfl, ?_⟩) ?_ ?_
      rotate_left
      ·intro w'
       go_simp
       with_reducible rfl
      rotate_left
      ·simp only [Act.put, List.setIfInBounds_toArray, List.set_cons_zero, List.set_cons_succ, i64_w, i32_w]
       rfl
      refine pure_ (i := 6) (N := some 26) (v := ?_) (a' := ?_) #[false, true, true, true, true, true, true, false, false, false, false, false] rfl rfl (by kernel_rfl) (fun _ _ _ h => h) (Or.inl ⟨by rfl, ?_⟩) ?_ ?_
      rotate_left
      ·intro w'
       go_simp
       with_reducible rfl
      rotate_left
      ·simp only [Act.put, List.setIfInBounds_toArray, List.set_cons_zero, List.set_cons_succ, i64_w, i32_w]
       rfl
      refine pure_ (i := 7) (N := some 27) (v := ?_) (a' := ?_) #[false, true, true, true, true, true, true, true, false, false, false, false] rfl rfl (by kernel_rfl) (fun _ _ _ h => h) (Or.inl ⟨by rfl, ?_⟩) ?_ ?_
      rotate_left
      ·intro w'
       go_simp
       with_reducible rfl
      rotate_left
      ·simp only [Act.put, List.setIfInBounds_toArray, List.set_cons_zero, List.set_cons_succ, i64_w, i32_w]
       rfl
      refine pure_ (i := 10) (N := some 30) (v := ?_) (a' := ?_) #[false, true, true, true, true, true, true, true, false, false, true, false] rfl rfl (by kernel_rfl) (fun _ _ _ h => h) (Or.inl ⟨by rfl, ?_⟩) ?_ ?_
      rotate_left
      ·intro w'
       go_simp
       with_reducible rfl
      rotate_left
      ·simp only [Act.put, List.setIfInBounds_toArray, List.set_cons_zero, List.set_cons_succ, i64_w, i32_w]
       rfl
      refine take_ (i := 0) (N := some 20) (v := ?_) (a' := ?_) #[true, true, true, true, true, true, true, true, false, false, true, false] rfl rfl (by kernel_rfl) (fun _ _ _ h => h) (Or.inl ⟨by rfl, ?_⟩) hHeld ?_ ?_
      rotate_left
      ·rintro w' ⟨s0, s1, s2, s3⟩
       go_simp
       with_reducible rfl
      rotate_left
      ·simp only [Act.put, List.setIfInBounds_toArray, List.set_cons_zero, List.set_cons_succ, i64_w, i32_w]
       rfl
      refine one_ (i := 8) (N := some 28) #[true, true, true, true, true, true, true, true, true, false, true, false] rfl rfl (by kernel_rfl) (by decide) (fun K hK => ?_)
      refine value_ (w1 := ?_) (v := ?_) (by rfl) rfl ?_ ?_
      rotate_left 2
      ·go_simp
       constructor
       ·rfl
       ·rfl
      refine hK.out _ _ ⟨((below_alloc (Below.refl _ _) _).cell (World.block_lt_of_cell? _ _ hHeld.1)).trans hHeld.1, ((below_alloc (Below.refl _ _) _).cell (World.block_lt_of_cell? _ _ hHeld.2.1)).trans hHeld.2.1, ((below_alloc (Below.refl _ _) _).cell (World.block_lt_of_cell? _ _ hHeld.2.2.1)).trans hHeld.2.2.1, ((below_alloc (Below.refl _ _) _).cell (World.block_lt_of_cell? _ _ hHeld.2.2.2)).trans hHeld.2.2.2⟩ (fun hHeld => ?_)
      clear hK K
      refine norm_ (a' := ?_) ?_ ?_
      rotate_left
      ·show Act.put _ (some 28) _ = _
       simp only [Act.put, List.setIfInBounds_toArray, List.set_cons_zero, List.set_cons_succ, i64_w, i32_w]
       rfl
      refine one_ (i := 9) (N := some 29) #[true, true, true, true, true, true, true, true, true, true, true, false] rfl rfl (by kernel_rfl) (by decide) (fun K hK => ?_)
      refine step_append_grows (by rfl) (.tmp 26) (.tmp 28) 62 (by rfl) 3 i0 (.int .i64 0) 1 8 Try.underlying62 hin hiz his hib rfl (by decide) Ap pl.length pl.length (pl.map (Value.int .i64)) (by rfl) ?nN ?nL ?nH ⟨W1.heap.size, 0, none⟩ 1 1 [.int .i64 i] (by rfl) rfl ?nC ?nO ?nF ?nM ?nB ?_
      (case nN => exact none_of_C (Kd.R_reads' HVw.out).2.2)
      (case nL => simp)
      (case nH => exact cells_of_C (Kd.C_below (Kd.R_reads' HVw.out).2.2 (below_alloc (Below.refl _ _) _)))
      (case nC => exact cell_new1 W1 _ 3)
      (case nO => simp [Value.oneCell'])
      (case nF => omega)
      (case nM => have := HLIM.out;simp only [maxLen];omega)
      (case nB => have := HLIM.out;omega)
      intro v5 w5 ho5 hg5
      have HB5 := Aside0.mk (below_step (below_alloc (Below.refl W1.heap.size W1) (.cells #[.int .i64 i] 3)) (below_of_grown_none hg5))
      have HR5 := Aside0.mk (R_of_owns (xs := pl ++ [i]) (by simpa using ho5) (by simp))
      clear ho5 hg5
      refine hK.out _ _ ⟨(HB5.out.cell (World.block_lt_of_cell? _ _ HC0.out)).trans HC0.out, (HB5.out.cell (World.block_lt_of_cell? _ _ HC1.out)).trans HC1.out, (HB5.out.cell (World.block_lt_of_cell? _ _ HC2_.out)).trans HC2_.out, (HB5.out.cell (World.block_lt_of_cell? _ _ HC3_.out)).trans HC3_.out⟩ (fun hHeld => ?_)
      clear hK K
      refine norm_ (a' := ?_) ?_ ?_
      rotate_left
      ·show Act.put _ (some 29) _ = _
       simp only [Act.put, List.setIfInBounds_toArray, List.set_cons_zero, List.set_cons_succ, i64_w, i32_w]
       rfl
      refine last_ (i := 11) (N := some 31) #[true, true, true, true, true, true, true, true, true, true, true, true] rfl rfl (by kernel_rfl) (by decide) (fun K hK => ?_)
      refine goes_ Try.func88 (by kernel_rfl) rfl #[.agg #[.string (rd_T53 l2 i).f0, .string (rd_T53 l2 i).f1, .bool (rd_T53 l2 i).f2, .slice A3 (rd_T53 l2 i).f3.length c3], v5, .func (.func 89) #[] #[.pointer (some ⟨bp, 0, none⟩), .pointer (some ⟨bo, 0, none⟩)]] (by rfl) rfl rfl (by simp only [List.map_toArray, List.map_cons, List.map_nil];rfl) ?_
      with_reducible refine (ih k1 (by have := HK1.out;omega) nm tx lf A c l _ _ _ A3 c3 _ v5 (pl ++ [i]) bp bo ou o2 w0 _ HP.out HC.out HK3.out HC3.out (below_step HBw.out HB5.out) (Kd.R_lower HR5.out (Nat.le_trans HBw.out.size (by simp))) (blk_below HPw.out HB5.out) (HOw.out.below HB5.out) HT2.out).mono ?_
      rintro e w8 ⟨rfl, ho8, hb8, hk8⟩
      refine ⟨_, rfl, ?_⟩
      have HO8 := Aside0.mk ho8
      have HB8 := Aside0.mk hb8
      have HK8 := Aside0.mk ((HKw.out.below HB5.out).trans hk8)
      clear ho8 hb8 hk8
      refine hK.out _ _ ?_
      clear hK K
      refine norm_ (a' := ?_) ?_ ?_
      rotate_left
      ·show Act.put _ (some 31) _ = _
       simp only [Act.put, List.setIfInBounds_toArray, List.set_cons_zero, List.set_cons_succ, i64_w, i32_w]
       rfl
      refine done_ (by kernel_rfl) ?_
      go_wp2
      go_roundg k1
      case measure => have := HK1.out;omega
      case rel => exact ⟨wrap64 (i + 1), o2, rfl, HO8, H', ⟨by have := HK1.out;omega⟩, HB8, HK8⟩
     ·rw [if_neg c7] at H
      exact absurd H (by simp)
    ·rw [if_neg c6] at H
     exact absurd H (by simp)
   ·rw [if_neg c5] at H
    have c5b : decide (i < (l2.length : Int)) = false := decide_eq_false c5
    simp only [Option.some.injEq] at H
    obtain rfl := H
    clear c5
    go_wp2
    first|go_end0|((try simp only [Exit.inBlock, Exit.then]);refine bodyPost_ret (results_none rfl _ _ _) rfl ?_)
    exact ⟨rfl, HO.out, HB.out, HK.out⟩
theorem OutAt.new {w0 W : World} (h : w0.heap.size ≤ W.heap.size) : OutAt w0 (W.alloc (.cells #[.slice none 0 0] 69)) W.heap.size [] := ⟨_, blk_new _ _, h, Kd.S_nil _ _ _ _ _⟩
def impl_Places.f (k : Nat) (nm tx : ByteArray) (lf : Bool) (l : List S53) (nm2 tx2 : ByteArray) (lf2 : Bool) (l2 : List S53) : Option (List (List Int) × Int) := (impl_patternTree.f k nm tx lf l).bind fun t => if t = true then ((impl_TreeOK.f k nm2 tx2 lf2 l2).bind fun t2 => if t2 = true then ((impl_each.f k nm tx lf l nm2 tx2 lf2 l2 [] []).bind fun r => some (r, 0)) else some ([], 1)) else some ([], 1)
theorem impl_Places.mono : ∀ a0 a1 a2 a3 a4 a5 a6 a7 k, LeO (impl_Places.f k a0 a1 a2 a3 a4 a5 a6 a7) (impl_Places.f (k + 1) a0 a1 a2 a3 a4 a5 a6 a7) := by
 intro a0 a1 a2 a3 a4 a5 a6 a7 k
 unfold impl_Places.f
 refine LeO.bind (impl_patternTree.mono _ _ _ _ _) (fun t => LeO.ite (LeO.bind (impl_TreeOK.mono _ _ _ _ _) (fun t => LeO.ite (LeO.bind (impl_each.mono _ _ _ _ _ _ _ _ _ _ _) (fun _ => LeO.refl _)) (LeO.refl _))) (LeO.refl _))
set_option maxHeartbeats 8000000 in
set_option maxRecDepth 100000 in
theorem impl_Places.calls (k : Nat) (nm tx : ByteArray) (lf : Bool) (A : Option Addr) (c : Nat) (l : List S53) (nm2 tx2 : ByteArray) (lf2 : Bool) (A2 : Option Addr) (c2 : Nat) (l2 : List S53) (r1 : List (List Int)) (r2 : Int) (w : World) (hp : Kd.C k53 w A l.length l) (hc : l.length ≤ c) (hp2 : Kd.C k53 w A2 l2.length l2) (hc2 : l2.length ≤ c2) (h : impl_Places.f k nm tx lf l nm2 tx2 lf2 l2 = some (r1, r2)) :
  Calls Try.prog 48 #[.agg #[.string nm, .string tx, .bool lf, .slice A l.length c], .agg #[.string nm2, .string tx2, .bool lf2, .slice A2 l2.length c2]] w fun e w' => ∃ v' : Value, e = .returned (.tuple #[v', .int .i64 r2]) ∧ Kd.S kIJ 62 w' w.heap.size (fun _ => True) v' r1 ∧ Below w.heap.size w w' := by
 have hu53 := Try.underlying53
 have hu69 := Try.underlying69
 unfold impl_Places.f at h
 have HP := Aside0.mk hp
 have HC := Aside0.mk hc
 have HP2 := Aside0.mk hp2
 have HC2 := Aside0.mk hc2
 have HB0 : Aside0 (Below w.heap.size w ((w.alloc (.cells #[.string nm, .string tx, .bool lf, .slice A l.length c] 53)).alloc (.cells #[.string nm2, .string tx2, .bool lf2, .slice A2 l2.length c2] 53))) := ⟨below_alloc (below_alloc (Below.refl _ _) _) _⟩
 have HX1 : Aside0 (((w.alloc (.cells #[.string nm, .string tx, .bool lf, .slice A l.length c] 53)).alloc (.cells #[.string nm2, .string tx2, .bool lf2, .slice A2 l2.length c2] 53)).heap[w.heap.size]? = some (.cells #[.string nm, .string tx, .bool lf, .slice A l.length c] 53 (0, 0))) := ⟨blk_alloc (blk_new _ _) _⟩
 have HX2 : Aside0 (((w.alloc (.cells #[.string nm, .string tx, .bool lf, .slice A l.length c] 53)).alloc (.cells #[.string nm2, .string tx2, .bool lf2, .slice A2 l2.length c2] 53)).heap[w.heap.size + 1]? = some (.cells #[.string nm2, .string tx2, .bool lf2, .slice A2 l2.length c2] 53 (0, 0))) := ⟨by simpa using blk_new (w.alloc (.cells #[.string nm, .string tx, .bool lf, .slice A l.length c] 53)) (.cells #[.string nm2, .string tx2, .bool lf2, .slice A2 l2.length c2] 53)⟩
 clear hp hc hp2 hc2
 obtain ⟨t, ht, h⟩ := Option.bind_eq_some_iff.mp h
 have HT := Aside0.mk ht
 clear ht
 cases t with
 | false =>
  simp only [Bool.false_eq_true, if_false, Option.some.injEq, Prod.mk.injEq] at h
  obtain ⟨rfl, rfl⟩ := h
  go_enter Try.func48, Try.ntmps48
  go_wp2_with (first|(go_at_call 87;(with_reducible refine (impl_patternTree.calls k nm tx lf A c l false _ (Kd.C_below HP.out HB0.out) HC.out HT.out).mono ?_);rintro e w2 ⟨rfl, hb2⟩;have HB := Aside0.mk (below_step HB0.out hb2);clear hb2))
  go_ret2
  exact ⟨_, rfl, Kd.S_nil _ _ _ _ _, HB.out⟩
 | true =>
  simp only [if_true] at h
  obtain ⟨t2, ht2, h⟩ := Option.bind_eq_some_iff.mp h
  have HT2 := Aside0.mk ht2
  clear ht2
  cases t2 with
  | false =>
   simp only [Bool.false_eq_true, if_false, Option.some.injEq, Prod.mk.injEq] at h
   obtain ⟨rfl, rfl⟩ := h
   go_enter Try.func48, Try.ntmps48
   go_wp2_with (first
    | (go_at_call 87;(with_reducible refine (impl_patternTree.calls k nm tx lf A c l true _ (Kd.C_below HP.out HB0.out) HC.out HT.out).mono ?_);rintro e w2 ⟨rfl, hb2⟩;have HB := Aside0.mk (below_step HB0.out hb2);have HY2 := Aside0.mk (blk_below HX2.out hb2);have hx20 : w2.cell? ⟨w.heap.size + 1, 0, none⟩ = some (.string nm2) := (blk_cell HY2.out 0).trans rfl;have hx21 : w2.cell? ⟨w.heap.size + 1, 1, none⟩ = some (.string tx2) := (blk_cell HY2.out 1).trans rfl;have hx22 : w2.cell? ⟨w.heap.size + 1, 2, none⟩ = some (.bool lf2) := (blk_cell HY2.out 2).trans rfl;have hx23 : w2.cell? ⟨w.heap.size + 1, 3, none⟩ = some (.slice A2 l2.length c2) := (blk_cell HY2.out 3).trans rfl;clear hb2)
    | (go_at_call 76;(with_reducible refine (impl_TreeOK.calls k nm2 tx2 lf2 A2 c2 l2 false _ (Kd.C_below HP2.out HB.out) HC2.out HT2.out).mono ?_);rintro e w3 ⟨rfl, hb3⟩;have HB3 := Aside0.mk (below_step HB.out hb3);clear hb3))
   go_ret2
   exact ⟨_, rfl, Kd.S_nil _ _ _ _ _, HB3.out⟩
  | true =>
   simp only [if_true] at h
   obtain ⟨rl, hv, h⟩ := Option.bind_eq_some_iff.mp h
   simp only [Option.some.injEq, Prod.mk.injEq] at h
   obtain ⟨rfl, rfl⟩ := h
   have HV := Aside0.mk hv
   clear hv
   go_enter Try.func48, Try.ntmps48
   go_wp2_with (first
    | (go_at_call 87;(with_reducible refine (impl_patternTree.calls k nm tx lf A c l true _ (Kd.C_below HP.out HB0.out) HC.out HT.out).mono ?_);rintro e w2 ⟨rfl, hb2⟩;have HB := Aside0.mk (below_step HB0.out hb2);have HY1 := Aside0.mk (blk_below HX1.out hb2);have HY2 := Aside0.mk (blk_below HX2.out hb2);have hx20 : w2.cell? ⟨w.heap.size + 1, 0, none⟩ = some (.string nm2) := (blk_cell HY2.out 0).trans rfl;have hx21 : w2.cell? ⟨w.heap.size + 1, 1, none⟩ = some (.string tx2) := (blk_cell HY2.out 1).trans rfl;have hx22 : w2.cell? ⟨w.heap.size + 1, 2, none⟩ = some (.bool lf2) := (blk_cell HY2.out 2).trans rfl;have hx23 : w2.cell? ⟨w.heap.size + 1, 3, none⟩ = some (.slice A2 l2.length c2) := (blk_cell HY2.out 3).trans rfl;clear hb2)
    | (go_at_call 76;(with_reducible refine (impl_TreeOK.calls k nm2 tx2 lf2 A2 c2 l2 true _ (Kd.C_below HP2.out HB.out) HC2.out HT2.out).mono ?_);rintro e w3 ⟨rfl, hb3⟩;have HB3 := Aside0.mk (below_step HB.out hb3);have HZ1 := Aside0.mk (blk_below HY1.out hb3);have HZ2 := Aside0.mk (blk_below HY2.out hb3);have hlt1 := blk_lt HZ1.out;have hlt2 := blk_lt HZ2.out;clear hx20 hx21 hx22 hx23;have hx10 : w3.cell? ⟨w.heap.size, 0, none⟩ = some (.string nm) := (blk_cell HZ1.out 0).trans rfl;have hx11 : w3.cell? ⟨w.heap.size, 1, none⟩ = some (.string tx) := (blk_cell HZ1.out 1).trans rfl;have hx12 : w3.cell? ⟨w.heap.size, 2, none⟩ = some (.bool lf) := (blk_cell HZ1.out 2).trans rfl;have hx13 : w3.cell? ⟨w.heap.size, 3, none⟩ = some (.slice A l.length c) := (blk_cell HZ1.out 3).trans rfl;have hx20 : w3.cell? ⟨w.heap.size + 1, 0, none⟩ = some (.string nm2) := (blk_cell HZ2.out 0).trans rfl;have hx21 : w3.cell? ⟨w.heap.size + 1, 1, none⟩ = some (.string tx2) := (blk_cell HZ2.out 1).trans rfl;have hx22 : w3.cell? ⟨w.heap.size + 1, 2, none⟩ = some (.bool lf2) := (blk_cell HZ2.out 2).trans rfl;have hx23 : w3.cell? ⟨w.heap.size + 1, 3, none⟩ = some (.slice A2 l2.length c2) := (blk_cell HZ2.out 3).trans rfl;clear hb3)
    | (go_at_call 88;(with_reducible refine (impl_each.calls k nm tx lf A c l nm2 tx2 lf2 A2 c2 l2 _ [] w.heap.size w3.heap.size [] rl w _ HP.out HC.out HP2.out HC2.out (below_alloc HB3.out _) (Kd.R_nil _ _ _ _ _) (blk_alloc HZ1.out _) (OutAt.new HB3.out.size) HV.out).mono ?_);rintro e w5 ⟨rfl, ho5, hb5, hk5⟩;obtain ⟨vo5, go1, go2, go3⟩ := ho5;have HS5 := Aside0.mk go3;have HB5 := Aside0.mk hb5;have hbc5 : w5.cell? ⟨w3.heap.size, 0, none⟩ = some vo5 := (blk_cell go1 0).trans rfl;clear go1 go2 go3 hb5 hk5))
   go_ret2
   exact ⟨_, rfl, HS5.out, HB5.out⟩
end Go.Proofs.Ytgdecbliegelmaa.Q

/- Patterns, plainly: variables, matching, places; spec and program agree. -/
namespace Go.Proofs.Ytgdecbliegelmaa.Q
open Go.RowKit Go.Proofs.YtgdecbliegelmaaW.PrintWords
set_option linter.unusedVariables false
def isV (t : S53) : Bool := if t.f2 = true then t.f0.toList == ([86, 97, 114] : List UInt8) else false
theorem var_s (t : S53) : spec_l11Var.f t.f0 t.f1 t.f2 t.f3 = some (isV t) := by
 unfold spec_l11Var.f isV
 split <;> rfl
theorem var_i (t : S53) : impl_isVar.f t.f0 t.f1 t.f2 t.f3 = some (isV t) := by
 unfold impl_isVar.f isV
 split <;> rfl
/-- Every variable has a name. -/
def VO : S53 → Bool
  | ⟨a, b, c, l⟩ => if isV ⟨a, b, c, l⟩ = true then NmB b else (l.attach.all fun x => VO x.1)
termination_by t => SizeOf.sizeOf t
decreasing_by
  have := List.sizeOf_lt_of_mem x.2
  simp
  omega
theorem VO_eq (t : S53) : VO t = if isV t = true then NmB t.f1 else t.f3.all VO := by
 obtain ⟨a, b, c, l⟩ := t
 unfold VO
 split
 ·rfl
 ·simp
theorem vo_i (t : S53) (ht : FitI t) : Ev (fun k => impl_varsOK.f k t.f0 t.f1 t.f2 t.f3) (VO t) := by
 induction t using ind53 with
 | h t ih =>
 obtain ⟨b3, bk⟩ := ht.inv
 have loop : ∀ d i, i + d = t.f3.length → Ev (fun k => impl_varsOK.l0 k t.f3 (t.f3.length : Int) (i : Int)) ((t.f3.drop i).all VO) := by
  intro d
  induction d with
  | zero =>
   intro i hi
   rw [List.drop_eq_nil_of_le (by omega)]
   refine Ev.step (fun k => by rw [impl_varsOK.l0]) ?_
   exact Ev.neg (by omega) (Ev.now _)
  | succ d ihd =>
   intro i hi
   have hlt : i < t.f3.length := by omega
   have hk := ih t.f3[i] (List.getElem_mem hlt) (bk _ (List.getElem_mem hlt))
   rw [all_drop_cons _ _ _ hlt]
   refine Ev.step (fun k => by rw [impl_varsOK.l0]) ?_
   refine Ev.pos (by omega) (Ev.pos (by omega) (Ev.pos (by omega) ?_))
   rw [rd53 _ _ hlt]
   refine Ev.bind hk ?_
   cases h : VO t.f3[i]
   ·exact Ev.neg (by simp) (Ev.now _)
   ·refine Ev.pos rfl ?_
    rw [pt_wrap (x := (i : Int) + 1) (by omega) (by omega), Bool.true_and]
    exact ihd (i + 1) (by omega)
 rw [VO_eq]
 refine Ev.step (fun k => by rw [impl_varsOK.f]) ?_
 simp only [var_i, Option.bind_some]
 cases h : isV t
 ·refine Ev.neg (by simp) ?_
  rw [if_neg (by simp)]
  exact loop t.f3.length 0 (by omega)
 ·refine Ev.pos rfl ?_
  rw [if_pos rfl]
  exact Ev.bind (name_i t.f1) (Ev.now _)
theorem at_s (l : List ByteArray) (x : ByteArray) (hl : l.length ≤ 9223372036854775806) : ∃ r, Ev (fun k => spec_l03At.f k l x) r := by
 have loop : ∀ d i, i + d = l.length → ∃ r, Ev (fun k => spec_l03At.l0 k l x (i : Int)) r := by
  intro d
  induction d with
  | zero =>
   intro i hi
   exact ⟨_, Ev.step (fun k => by rw [spec_l03At.l0]) (Ev.neg (by omega) (Ev.now _))⟩
  | succ d ihd =>
   intro i hi
   by_cases h : (rdOf ByteArray.empty l (i : Int)).toList = x.toList
   ·exact ⟨_, Ev.step (fun k => by rw [spec_l03At.l0]) (Ev.pos (by omega) (Ev.pos (by omega) (Ev.pos h (Ev.now _))))⟩
   ·obtain ⟨r, hr⟩ := ihd (i + 1) (by omega)
    refine ⟨r, Ev.step (fun k => by rw [spec_l03At.l0]) (Ev.pos (by omega) (Ev.pos (by omega) (Ev.neg h ?_)))⟩
    rw [pt_wrap (x := (i : Int) + 1) (by omega) (by omega)]
    exact hr
 exact loop l.length 0 (by omega)
theorem vo_s (t : S53) (ht : FitI t) : ∀ list : List ByteArray, list.length + Nn t ≤ 1000000 → ∃ rl, Ev (fun k => spec_l11Vars.f k t.f0 t.f1 t.f2 t.f3 list) (rl, VO t) ∧ rl.length ≤ list.length + Nn t := by
 induction t using ind53 with
 | h t ih =>
 intro list hn
 obtain ⟨b3, bk⟩ := ht.inv
 rw [Nn_eq] at hn ⊢
 have loop : ∀ d i (list : List ByteArray), i + d = t.f3.length → list.length + ((t.f3.drop i).map Nn).sum ≤ 1000000 → ∃ rl, Ev (fun k => spec_l11Vars.l0 k t.f3 (i : Int) list true) (rl, (t.f3.drop i).all VO) ∧ rl.length ≤ list.length + ((t.f3.drop i).map Nn).sum := by
  intro d
  induction d with
  | zero =>
   intro i list hi hn
   rw [List.drop_eq_nil_of_le (by omega)]
   refine ⟨list, ?_, by simp⟩
   refine Ev.step (fun k => by rw [spec_l11Vars.l0]) ?_
   refine Ev.neg (by omega) ?_
   exact Ev.now _
  | succ d ihd =>
   intro i list hi hn
   have hlt : i < t.f3.length := by omega
   rw [sum_drop_cons _ _ _ hlt] at hn ⊢
   rw [all_drop_cons _ _ _ hlt]
   obtain ⟨rl, hr, hl⟩ := ih t.f3[i] (List.getElem_mem hlt) (bk _ (List.getElem_mem hlt)) list (by omega)
   cases h : VO t.f3[i] with
   | false =>
    rw [h] at hr
    refine ⟨rl, Ev.step (fun k => by rw [spec_l11Vars.l0]) (Ev.pos (by omega) (Ev.pos rfl (Ev.pos (by omega) ?_))), by omega⟩
    rw [rd53 _ _ hlt]
    refine Ev.bind hr ?_
    refine Ev.step (fun k => by rw [spec_l11Vars.l0]) ?_
    by_cases c : wrap64 ((i : Int) + 1) < (t.f3.length : Int)
    ·exact Ev.pos c (Ev.neg (by simp) (Ev.now _))
    ·exact Ev.neg c (Ev.now _)
   | true =>
    rw [h] at hr
    obtain ⟨rl2, hr2, hl2⟩ := ihd (i + 1) rl (by omega) (by omega)
    refine ⟨rl2, Ev.step (fun k => by rw [spec_l11Vars.l0]) (Ev.pos (by omega) (Ev.pos rfl (Ev.pos (by omega) ?_))), by omega⟩
    rw [rd53 _ _ hlt]
    refine Ev.bind hr ?_
    rw [pt_wrap (x := (i : Int) + 1) (by omega) (by omega), Bool.true_and]
    exact hr2
 rw [VO_eq]
 cases h : isV t with
 | false =>
  obtain ⟨rl, hr, hl⟩ := loop t.f3.length 0 list (by omega) (by simpa using (show list.length + (t.f3.map Nn).sum ≤ 1000000 by omega))
  refine ⟨rl, Ev.step (fun k => by rw [spec_l11Vars.f]) ?_, by simp at hl;omega⟩
  simp only [var_s, Option.bind_some, h]
  refine Ev.neg (by simp) ?_
  rw [if_neg (by simp)]
  exact hr
 | true =>
  obtain ⟨i, hi⟩ := at_s list t.f1 (by omega)
  rw [if_pos rfl]
  by_cases c : i < 0
  ·refine ⟨list ++ [t.f1], Ev.step (fun k => by rw [spec_l11Vars.f]) ?_, by simp⟩
   simp only [var_s, Option.bind_some, h]
   exact Ev.pos trivial (Ev.bind hi (Ev.bind (name_s t.f1) (Ev.pos c (Ev.pos (by omega) (Ev.now _)))))
  ·refine ⟨list, Ev.step (fun k => by rw [spec_l11Vars.f]) ?_, by omega⟩
   simp only [var_s, Option.bind_some, h]
   exact Ev.pos trivial (Ev.bind hi (Ev.bind (name_s t.f1) (Ev.neg c (Ev.now _))))
end Go.Proofs.Ytgdecbliegelmaa.Q

