/- J1: parts of the proof of FnExactPlaces, joined. -/
import Derived.Test.YtgdecbliegelmaaJ0
set_option linter.unnecessarySimpa false
set_option linter.unusedSimpArgs false
set_option linter.unusedVariables false
namespace Go.Proofs.Ytgdecbliegelmaa.Q
open Go.RowKit Go.Proofs.YtgdecbliegelmaaW.PrintWords Go.Proofs.YtgdecbliegelmaaW.PrintLast Go.Proofs.YtgdecbliegelmaaW.PrintMore
attribute [local go_sem] max2_int min2_int max_two min_two max_three min_three max_four min_four   -- for this text's walks alone
set_option linter.unusedVariables false
set_option linter.unusedSimpArgs false
/-! ### spec_l01Right: function 107 -/
mutual
def spec_l01Right.j0 : Nat → Bool → ByteArray → ByteArray → Bool → List (S53) → Option (Bool)
  | 0, _, _, _, _, _ => none
  | k + 1, x33, x102000, x102001, x102002, x102003 => if x33 = true then (some false) else (spec_l01Right.l0 k 0 x102000 x102001 x102002 x102003)
def spec_l01Right.l0 : Nat → Int → ByteArray → ByteArray → Bool → List (S53) → Option (Bool)
  | 0, _, _, _, _, _ => none
  | k + 1, x3, x102000, x102001, x102002, x102003 => if x3 < (x102003.length : Int) then (if 0 ≤ x3 then ((spec_l01Right.f k ((rd_T53 x102003 x3).f0) ((rd_T53 x102003 x3).f1) ((rd_T53 x102003 x3).f2) ((rd_T53 x102003 x3).f3)).bind fun t104 => (if t104 = true then (spec_l01Right.l0 k (wrap64 (x3 + 1)) x102000 x102001 x102002 x102003) else (some false))) else (none)) else (some true)
def spec_l01Right.f : Nat → ByteArray → ByteArray → Bool → List (S53) → Option (Bool)
  | 0, _, _, _, _ => none
  | k + 1, a0_0, a0_1, a0_2, l0_3 => (spec_l01Name.f k a0_0).bind fun t102 => (if t102 = true then (if a0_2 = true then (if (l0_3.length : Int) > 0 then (spec_l01Right.j0 k true a0_0 a0_1 a0_2 l0_3) else (if (a0_1.size : Int) > 200 then (spec_l01Right.j0 k true a0_0 a0_1 a0_2 l0_3) else (spec_l01Right.j0 k false a0_0 a0_1 a0_2 l0_3))) else (spec_l01Right.j0 k (a0_1.toList != ([] : List UInt8)) a0_0 a0_1 a0_2 l0_3)) else (spec_l01Right.j0 k true a0_0 a0_1 a0_2 l0_3))
end
theorem spec_l01Right.mono_l : ∀ k, (∀ y0 y1 y2 y3, LeO (spec_l01Right.f k y0 y1 y2 y3) (spec_l01Right.f (k + 1) y0 y1 y2 y3)) ∧ (∀ y0 y1 y2 y3 y4, LeO (spec_l01Right.j0 k y0 y1 y2 y3 y4) (spec_l01Right.j0 (k + 1) y0 y1 y2 y3 y4)) ∧ (∀ y0 y1 y2 y3 y4, LeO (spec_l01Right.l0 k y0 y1 y2 y3 y4) (spec_l01Right.l0 (k + 1) y0 y1 y2 y3 y4))
 | 0 => ⟨fun _ _ _ _ r h => by simp [spec_l01Right.f] at h, fun _ _ _ _ _ r h => by simp [spec_l01Right.j0] at h, fun _ _ _ _ _ r h => by simp [spec_l01Right.l0] at h⟩
 | k + 1 => by
  obtain ⟨ih0, ih1, ih2⟩ := spec_l01Right.mono_l k
  refine ⟨?_, ?_, ?_⟩
  ·intro y0 y1 y2 y3
   unfold spec_l01Right.f
   repeat' first
   | (with_reducible exact ih0 _ _ _ _)
   | (with_reducible exact ih1 _ _ _ _ _)
   | (with_reducible exact ih2 _ _ _ _ _)
   | (with_reducible exact spec_l01Name.mono _ _)
   | (with_reducible exact LeO.refl _)
   | (with_reducible exact LeO.none _)
   | (with_reducible refine LeO.ite ?_ ?_)
   | (with_reducible refine LeO.bind ?_ (fun _ => ?_))
   | exact ih0 _ _ _ _
   | exact ih1 _ _ _ _ _
   | exact ih2 _ _ _ _ _
   | exact spec_l01Name.mono _ _
   | exact LeO.none _
   | refine LeO.ite ?_ ?_
   | refine LeO.bind ?_ (fun _ => ?_)
  ·intro y0 y1 y2 y3 y4
   unfold spec_l01Right.j0
   repeat' first
   | (with_reducible exact ih0 _ _ _ _)
   | (with_reducible exact ih1 _ _ _ _ _)
   | (with_reducible exact ih2 _ _ _ _ _)
   | (with_reducible exact spec_l01Name.mono _ _)
   | (with_reducible exact LeO.refl _)
   | (with_reducible exact LeO.none _)
   | (with_reducible refine LeO.ite ?_ ?_)
   | (with_reducible refine LeO.bind ?_ (fun _ => ?_))
   | exact ih0 _ _ _ _
   | exact ih1 _ _ _ _ _
   | exact ih2 _ _ _ _ _
   | exact spec_l01Name.mono _ _
   | exact LeO.none _
   | refine LeO.ite ?_ ?_
   | refine LeO.bind ?_ (fun _ => ?_)
  ·intro y0 y1 y2 y3 y4
   unfold spec_l01Right.l0
   repeat' first
   | (with_reducible exact ih0 _ _ _ _)
   | (with_reducible exact ih1 _ _ _ _ _)
   | (with_reducible exact ih2 _ _ _ _ _)
   | (with_reducible exact spec_l01Name.mono _ _)
   | (with_reducible exact LeO.refl _)
   | (with_reducible exact LeO.none _)
   | (with_reducible refine LeO.ite ?_ ?_)
   | (with_reducible refine LeO.bind ?_ (fun _ => ?_))
   | exact ih0 _ _ _ _
   | exact ih1 _ _ _ _ _
   | exact ih2 _ _ _ _ _
   | exact spec_l01Name.mono _ _
   | exact LeO.none _
   | refine LeO.ite ?_ ?_
   | refine LeO.bind ?_ (fun _ => ?_)
theorem spec_l01Right.mono : ∀ a0 a1 a2 a3 k, LeO (spec_l01Right.f k a0 a1 a2 a3) (spec_l01Right.f (k + 1) a0 a1 a2 a3) := by
 intro a0 a1 a2 a3 k
 obtain ⟨ih0, ih1, ih2⟩ := spec_l01Right.mono_l k
 exact ih0 a0 a1 a2 a3
set_option maxHeartbeats 8000000 in
set_option maxRecDepth 100000 in
theorem spec_l01Right.calls (k : Nat) : ∀ (a0_0 : ByteArray) (a0_1 : ByteArray) (a0_2 : Bool) (A0_3 : Option Addr) (c0_3 : Nat) (l0_3 : List (S53)) (r : Bool) (w : World) (hr0_3 : Kd.C k53 w A0_3 l0_3.length l0_3) (hc0_3 : l0_3.length ≤ c0_3) (h : spec_l01Right.f k a0_0 a0_1 a0_2 l0_3 = some r),
  Calls Try.prog 107 #[.agg #[.string a0_0, .string a0_1, .bool a0_2, .slice A0_3 l0_3.length c0_3]] w fun e w' => e = .returned (.bool r) ∧ Below w.heap.size w w' := by
 induction k using Nat.strongRecOn with
 | _ k ih =>
 intro a0_0 a0_1 a0_2 A0_3 c0_3 l0_3 r w hr0_3 hc0_3 h
 cases k with
 | zero => exact absurd h (by simp [spec_l01Right.f])
 | succ k =>
 simp only [spec_l01Right.f] at h
 have hu53 := Try.underlying53
 have HR0_3 := Aside0.mk hr0_3
 have HC0_3 := Aside0.mk hc0_3
 clear hr0_3 hc0_3
 have HB := Aside0.mk (Below.refl w.heap.size w)
 have H : ((spec_l01Name.f k a0_0).bind fun t102 => (if t102 = true then (if a0_2 = true then (if (l0_3.length : Int) > 0 then (spec_l01Right.j0 k true a0_0 a0_1 a0_2 l0_3) else (if (a0_1.size : Int) > 200 then (spec_l01Right.j0 k true a0_0 a0_1 a0_2 l0_3) else (spec_l01Right.j0 k false a0_0 a0_1 a0_2 l0_3))) else (spec_l01Right.j0 k (a0_1.toList != ([] : List UInt8)) a0_0 a0_1 a0_2 l0_3)) else (spec_l01Right.j0 k true a0_0 a0_1 a0_2 l0_3))) = some r := h
 clear h
 have HC2 := Aside0.mk H
 clear H
 go_enter Try.func107, Try.ntmps107
 go_upto_region 1 with (first|((with_reducible refine gate_dst (N := 1) rfl ?_);(try (refine gate_guard (by rfl) ?_;dsimp only));refine box_event ?hg (N := 1) ?hd (cs := #[.string a0_0, .string a0_1, .bool a0_2, .slice A0_3 l0_3.length c0_3]) (t := 53) ?hr ?_;(case hd => rfl);(case hg => rfl);(case hr => first|(go_simp;done)|(go_simp;rfl));intro gb101 hg w3 hbox hb;have n0_ := Aside0.mk (below_step (by repeat (first|(with_reducible first|exact HB.out|apply below_alloc|apply pw_below_drewN|apply below_drew1)|exact HB.out)) hb);have n1_ := Aside0.mk (hbox);have n2_ := Aside0.mk ((by rw [hg];exact (below_size (by repeat (first|(with_reducible first|exact HB.out|apply below_alloc|apply pw_below_drewN|apply below_drew1)|exact HB.out))) : w.heap.size ≤ gb101));have n3_ := Aside0.mk ((by rw [hg];exact (below_size (by repeat (first|(with_reducible first|exact HB.out|apply below_alloc|apply pw_below_drewN|apply below_drew1)|exact HB.out))) : w.heap.size ≤ gb101));clear HB;have HB := n0_;have BK101 := n1_;have GW101 := n2_;have GE101 := n3_;clear n0_ n1_ n2_ n3_;clear hb hbox hg))
 (try simp only [Act.put, List.setIfInBounds_toArray, List.set_cons_zero, List.set_cons_succ])
 go_cut [33] (fun v33 wc => ∃ (kq : Nat) (x33_1 : Bool), v33 = .bool x33_1 ∧ Aside0 (spec_l01Right.j0 kq x33_1 a0_0 a0_1 a0_2 l0_3 = some r) ∧ Aside0 (kq ≤ k) ∧ Aside0 (wc.heap[gb101]? = some (.cells #[.string a0_0, .string a0_1, .bool a0_2, (.slice A0_3 l0_3.length c0_3)] 53 (0, 0))) ∧ Aside0 (Below w.heap.size w wc))
 case first =>
  have H := HC2.out
  clear HC2
  replace H := Option.bind_eq_some_iff.mp H
  obtain ⟨t102, A40, H⟩ := H
  replace H : (if t102 = true then (if a0_2 = true then (if (l0_3.length : Int) > 0 then (spec_l01Right.j0 k true a0_0 a0_1 a0_2 l0_3) else (if (a0_1.size : Int) > 200 then (spec_l01Right.j0 k true a0_0 a0_1 a0_2 l0_3) else (spec_l01Right.j0 k false a0_0 a0_1 a0_2 l0_3))) else (spec_l01Right.j0 k (a0_1.toList != ([] : List UInt8)) a0_0 a0_1 a0_2 l0_3)) else (spec_l01Right.j0 k true a0_0 a0_1 a0_2 l0_3)) = some r := H
  have A4 := Aside0.mk A40
  clear A40
  by_cases c5 : t102 = true
  ·subst c5
   have H1 : (if a0_2 = true then (if (l0_3.length : Int) > 0 then (spec_l01Right.j0 k true a0_0 a0_1 a0_2 l0_3) else (if (a0_1.size : Int) > 200 then (spec_l01Right.j0 k true a0_0 a0_1 a0_2 l0_3) else (spec_l01Right.j0 k false a0_0 a0_1 a0_2 l0_3))) else (spec_l01Right.j0 k (a0_1.toList != ([] : List UInt8)) a0_0 a0_1 a0_2 l0_3)) = some r := by rw [if_pos rfl] at H;exact H
   clear H
   have H := H1
   clear H1
   by_cases c6 : a0_2 = true
   ·subst c6
    have H1 : (if (l0_3.length : Int) > 0 then (spec_l01Right.j0 k true a0_0 a0_1 true l0_3) else (if (a0_1.size : Int) > 200 then (spec_l01Right.j0 k true a0_0 a0_1 true l0_3) else (spec_l01Right.j0 k false a0_0 a0_1 true l0_3))) = some r := by rw [if_pos rfl] at H;exact H
    clear H
    have H := H1
    clear H1
    by_cases c7 : (l0_3.length : Int) > 0
    ·rw [if_pos c7] at H
     have c7b0 : decide (0 < (l0_3.length : Int)) = true := decide_eq_true c7
     have c7b1 : decide (0 < l0_3.length) = true := decide_eq_true (by omega)
     clear c7
     (first|rw [c7b0]|(simp only [i64_w, i32_w];rw [c7b0])|skip)
     have H' := Aside0.mk H
     clear H
     have hcz8_0 : w3.cell? ⟨gb101, 0, none⟩ = some (.string a0_0) := (blk_cell BK101.out 0).trans rfl
     have hcz8_1 : w3.cell? ⟨gb101, 1, none⟩ = some (.string a0_1) := (blk_cell BK101.out 1).trans rfl
     have hcz8_2 : w3.cell? ⟨gb101, 2, none⟩ = some (.bool true) := (blk_cell BK101.out 2).trans rfl
     have hcz8_3 : w3.cell? ⟨gb101, 3, none⟩ = some (.slice A0_3 l0_3.length c0_3) := (blk_cell BK101.out 3).trans rfl
     have hfz8_0 := blk_frozen BK101.out 0
     have hfz8_1 := blk_frozen BK101.out 1
     have hfz8_2 := blk_frozen BK101.out 2
     have hfz8_3 := blk_frozen BK101.out 3
     go_wp2_with (first|((with_reducible refine gate_callee (f := 130) rfl ?_);refine goesL_ (some 6) rfl rfl Try.func130 (by kernel_rfl) rfl #[.string a0_0] rfl (by (try simp only [List.map_toArray, List.map_cons, List.map_nil]);first|done|rfl|(simp only [List.length_drop, List.length_take];rfl)) ?_;(with_reducible refine (spec_l01Name.calls k a0_0 true _ A4.out).mono ?_);rintro e w' ⟨rfl, ⟨nd, rfl⟩⟩;refine ⟨_, rfl, ?_⟩))
     go_meet
     case rel => exact ⟨_, (true), (by first|rfl|(simp;done)|(simp [*];done)|(simp;exact Go.Proofs.YtgdecbliegelmaaX.isEmpty_bne _)), H', ⟨by first|omega|exact Nat.le_refl _⟩, ⟨by (with_reducible repeat (first|refine blk_drewN ?_ _|refine blk_drew ?_|refine blk_alloc ?_ _));exact BK101.out⟩, ⟨by repeat (first|(with_reducible first|exact HB.out|apply below_alloc|apply pw_below_drewN|apply below_drew1|refine below_set ?_ GE101.out)|exact HB.out)⟩⟩
    ·rw [if_neg c7] at H
     have c7b0 : decide (0 < (l0_3.length : Int)) = false := decide_eq_false c7
     have c7b1 : decide (0 < l0_3.length) = false := decide_eq_false (by omega)
     clear c7
     (first|rw [c7b0]|(simp only [i64_w, i32_w];rw [c7b0])|skip)
     by_cases c9 : (a0_1.size : Int) > 200
     ·rw [if_pos c9] at H
      have c9b0 : decide (200 < (a0_1.size : Int)) = true := decide_eq_true c9
      have c9b1 : decide (200 < a0_1.size) = true := decide_eq_true (by omega)
      clear c9
      have H' := Aside0.mk H
      clear H
      have hcz10_0 : w3.cell? ⟨gb101, 0, none⟩ = some (.string a0_0) := (blk_cell BK101.out 0).trans rfl
      have hcz10_1 : w3.cell? ⟨gb101, 1, none⟩ = some (.string a0_1) := (blk_cell BK101.out 1).trans rfl
      have hcz10_2 : w3.cell? ⟨gb101, 2, none⟩ = some (.bool true) := (blk_cell BK101.out 2).trans rfl
      have hcz10_3 : w3.cell? ⟨gb101, 3, none⟩ = some (.slice A0_3 l0_3.length c0_3) := (blk_cell BK101.out 3).trans rfl
      have hfz10_0 := blk_frozen BK101.out 0
      have hfz10_1 := blk_frozen BK101.out 1
      have hfz10_2 := blk_frozen BK101.out 2
      have hfz10_3 := blk_frozen BK101.out 3
      go_wp2_with (first|((with_reducible refine gate_callee (f := 130) rfl ?_);refine goesL_ (some 6) rfl rfl Try.func130 (by kernel_rfl) rfl #[.string a0_0] rfl (by (try simp only [List.map_toArray, List.map_cons, List.map_nil]);first|done|rfl|(simp only [List.length_drop, List.length_take];rfl)) ?_;(with_reducible refine (spec_l01Name.calls k a0_0 true _ A4.out).mono ?_);rintro e w' ⟨rfl, ⟨nd, rfl⟩⟩;refine ⟨_, rfl, ?_⟩))
      go_meet
      case rel => exact ⟨_, (true), (by first|rfl|(simp;done)|(simp [*];done)|(simp;exact Go.Proofs.YtgdecbliegelmaaX.isEmpty_bne _)), H', ⟨by first|omega|exact Nat.le_refl _⟩, ⟨by (with_reducible repeat (first|refine blk_drewN ?_ _|refine blk_drew ?_|refine blk_alloc ?_ _));exact BK101.out⟩, ⟨by repeat (first|(with_reducible first|exact HB.out|apply below_alloc|apply pw_below_drewN|apply below_drew1|refine below_set ?_ GE101.out)|exact HB.out)⟩⟩
     ·rw [if_neg c9] at H
      have c9b0 : decide (200 < (a0_1.size : Int)) = false := decide_eq_false c9
      have c9b1 : decide (200 < a0_1.size) = false := decide_eq_false (by omega)
      clear c9
      have H' := Aside0.mk H
      clear H
      have hcz11_0 : w3.cell? ⟨gb101, 0, none⟩ = some (.string a0_0) := (blk_cell BK101.out 0).trans rfl
      have hcz11_1 : w3.cell? ⟨gb101, 1, none⟩ = some (.string a0_1) := (blk_cell BK101.out 1).trans rfl
      have hcz11_2 : w3.cell? ⟨gb101, 2, none⟩ = some (.bool true) := (blk_cell BK101.out 2).trans rfl
      have hcz11_3 : w3.cell? ⟨gb101, 3, none⟩ = some (.slice A0_3 l0_3.length c0_3) := (blk_cell BK101.out 3).trans rfl
      have hfz11_0 := blk_frozen BK101.out 0
      have hfz11_1 := blk_frozen BK101.out 1
      have hfz11_2 := blk_frozen BK101.out 2
      have hfz11_3 := blk_frozen BK101.out 3
      go_wp2_with (first|((with_reducible refine gate_callee (f := 130) rfl ?_);refine goesL_ (some 6) rfl rfl Try.func130 (by kernel_rfl) rfl #[.string a0_0] rfl (by (try simp only [List.map_toArray, List.map_cons, List.map_nil]);first|done|rfl|(simp only [List.length_drop, List.length_take];rfl)) ?_;(with_reducible refine (spec_l01Name.calls k a0_0 true _ A4.out).mono ?_);rintro e w' ⟨rfl, ⟨nd, rfl⟩⟩;refine ⟨_, rfl, ?_⟩))
      go_meet
      case rel => exact ⟨_, (false), (by first|rfl|(simp;done)|(simp [*];done)|(simp;exact Go.Proofs.YtgdecbliegelmaaX.isEmpty_bne _)), H', ⟨by first|omega|exact Nat.le_refl _⟩, ⟨by (with_reducible repeat (first|refine blk_drewN ?_ _|refine blk_drew ?_|refine blk_alloc ?_ _));exact BK101.out⟩, ⟨by repeat (first|(with_reducible first|exact HB.out|apply below_alloc|apply pw_below_drewN|apply below_drew1|refine below_set ?_ GE101.out)|exact HB.out)⟩⟩
   ·replace c6 := Bool.eq_false_iff.mpr c6
    subst c6
    have H1 : (spec_l01Right.j0 k (a0_1.toList != ([] : List UInt8)) a0_0 a0_1 false l0_3) = some r := by rw [if_neg (show ¬ (false = true) by decide)] at H;exact H
    clear H
    have H := H1
    clear H1
    have H' := Aside0.mk H
    clear H
    have hcz12_0 : w3.cell? ⟨gb101, 0, none⟩ = some (.string a0_0) := (blk_cell BK101.out 0).trans rfl
    have hcz12_1 : w3.cell? ⟨gb101, 1, none⟩ = some (.string a0_1) := (blk_cell BK101.out 1).trans rfl
    have hcz12_2 : w3.cell? ⟨gb101, 2, none⟩ = some (.bool false) := (blk_cell BK101.out 2).trans rfl
    have hcz12_3 : w3.cell? ⟨gb101, 3, none⟩ = some (.slice A0_3 l0_3.length c0_3) := (blk_cell BK101.out 3).trans rfl
    have hfz12_0 := blk_frozen BK101.out 0
    have hfz12_1 := blk_frozen BK101.out 1
    have hfz12_2 := blk_frozen BK101.out 2
    have hfz12_3 := blk_frozen BK101.out 3
    go_wp2_with (first|((with_reducible refine gate_callee (f := 130) rfl ?_);refine goesL_ (some 6) rfl rfl Try.func130 (by kernel_rfl) rfl #[.string a0_0] rfl (by (try simp only [List.map_toArray, List.map_cons, List.map_nil]);first|done|rfl|(simp only [List.length_drop, List.length_take];rfl)) ?_;(with_reducible refine (spec_l01Name.calls k a0_0 true _ A4.out).mono ?_);rintro e w' ⟨rfl, ⟨nd, rfl⟩⟩;refine ⟨_, rfl, ?_⟩))
    go_meet
    case rel => exact ⟨_, ((a0_1.toList != ([] : List UInt8))), (by first|rfl|(simp;done)|(simp [*];done)|(simp;exact Go.Proofs.YtgdecbliegelmaaX.isEmpty_bne _)), H', ⟨by first|omega|exact Nat.le_refl _⟩, ⟨by (with_reducible repeat (first|refine blk_drewN ?_ _|refine blk_drew ?_|refine blk_alloc ?_ _));exact BK101.out⟩, ⟨by repeat (first|(with_reducible first|exact HB.out|apply below_alloc|apply pw_below_drewN|apply below_drew1|refine below_set ?_ GE101.out)|exact HB.out)⟩⟩
  ·replace c5 := Bool.eq_false_iff.mpr c5
   subst c5
   have H1 : (spec_l01Right.j0 k true a0_0 a0_1 a0_2 l0_3) = some r := by rw [if_neg (show ¬ (false = true) by decide)] at H;exact H
   clear H
   have H := H1
   clear H1
   have H' := Aside0.mk H
   clear H
   have hcz13_0 : w3.cell? ⟨gb101, 0, none⟩ = some (.string a0_0) := (blk_cell BK101.out 0).trans rfl
   have hcz13_1 : w3.cell? ⟨gb101, 1, none⟩ = some (.string a0_1) := (blk_cell BK101.out 1).trans rfl
   have hcz13_2 : w3.cell? ⟨gb101, 2, none⟩ = some (.bool a0_2) := (blk_cell BK101.out 2).trans rfl
   have hcz13_3 : w3.cell? ⟨gb101, 3, none⟩ = some (.slice A0_3 l0_3.length c0_3) := (blk_cell BK101.out 3).trans rfl
   have hfz13_0 := blk_frozen BK101.out 0
   have hfz13_1 := blk_frozen BK101.out 1
   have hfz13_2 := blk_frozen BK101.out 2
   have hfz13_3 := blk_frozen BK101.out 3
   go_wp2_with (first|((with_reducible refine gate_callee (f := 130) rfl ?_);refine goesL_ (some 6) rfl rfl Try.func130 (by kernel_rfl) rfl #[.string a0_0] rfl (by (try simp only [List.map_toArray, List.map_cons, List.map_nil]);first|done|rfl|(simp only [List.length_drop, List.length_take];rfl)) ?_;(with_reducible refine (spec_l01Name.calls k a0_0 false _ A4.out).mono ?_);rintro e w' ⟨rfl, ⟨nd, rfl⟩⟩;refine ⟨_, rfl, ?_⟩))
   go_meet
   case rel => exact ⟨_, (true), (by first|rfl|(simp;done)|(simp [*];done)|(simp;exact Go.Proofs.YtgdecbliegelmaaX.isEmpty_bne _)), H', ⟨by first|omega|exact Nat.le_refl _⟩, ⟨by (with_reducible repeat (first|refine blk_drewN ?_ _|refine blk_drew ?_|refine blk_alloc ?_ _));exact BK101.out⟩, ⟨by repeat (first|(with_reducible first|exact HB.out|apply below_alloc|apply pw_below_drewN|apply below_drew1|refine below_set ?_ GE101.out)|exact HB.out)⟩⟩
 case rest =>
  clear HC2
  try clear c1
  try clear p2
  try clear c5
  try clear c6
  try clear c7
  try clear c7b0
  try clear c7b1
  try clear c9
  try clear c9b0
  try clear c9b1
  try clear c10
  try clear c13
  try clear hcz10_0
  try clear hcz10_1
  try clear hcz10_2
  try clear hcz10_3
  try clear hcz11_0
  try clear hcz11_1
  try clear hcz11_2
  try clear hcz11_3
  try clear hcz12_0
  try clear hcz12_1
  try clear hcz12_2
  try clear hcz12_3
  try clear hcz13_0
  try clear hcz13_1
  try clear hcz13_2
  try clear hcz13_3
  try clear hcz8_0
  try clear hcz8_1
  try clear hcz8_2
  try clear hcz8_3
  try clear hfz10_0
  try clear hfz10_1
  try clear hfz10_2
  try clear hfz10_3
  try clear hfz11_0
  try clear hfz11_1
  try clear hfz11_2
  try clear hfz11_3
  try clear hfz12_0
  try clear hfz12_1
  try clear hfz12_2
  try clear hfz12_3
  try clear hfz13_0
  try clear hfz13_1
  try clear hfz13_2
  try clear hfz13_3
  try clear hfz8_0
  try clear hfz8_1
  try clear hfz8_2
  try clear hfz8_3
  obtain ⟨kq, x33_1, rfl, HA, HJ1, BK101, HB⟩ := hcut
  cases kq with
  | zero => exact absurd HA.out (by simp [spec_l01Right.j0])
  | succ kj1 =>
   have H := HA.out
   clear HA
   simp only [spec_l01Right.j0] at H
   by_cases c14 : x33_1 = true
   ·subst c14
    have H1 : (some false) = some r := by rw [if_pos rfl] at H;exact H
    clear H
    have H := H1
    clear H1
    obtain rfl := Option.some.inj H
    go_wp2
    go_ret
    exact ⟨by first|rfl|(simp [errW_none, errW_some] <;> rfl)|(simp [*, errW_none, errW_some] <;> rfl), by repeat (first|(with_reducible first|exact HB.out|apply below_alloc|apply pw_below_drewN|apply below_drew1|refine below_set ?_ GE101.out)|exact HB.out)⟩
   ·replace c14 := Bool.eq_false_iff.mpr c14
    subst c14
    have H1 : (spec_l01Right.l0 kj1 0 a0_0 a0_1 a0_2 l0_3) = some r := by rw [if_neg (show ¬ (false = true) by decide)] at H;exact H
    clear H
    have H := H1
    clear H1
    have H' := Aside0.mk H
    clear H
    go_wp2
    go_loopg [3] kj1 (fun kq v3 w' => ∃ (x3_2 : Int), v3 = .int .i64 x3_2 ∧ Aside0 (spec_l01Right.l0 kq x3_2 a0_0 a0_1 a0_2 l0_3 = some r) ∧ Aside0 (kq ≤ kj1) ∧ Aside0 (w'.heap[gb101]? = some (.cells #[.string a0_0, .string a0_1, .bool a0_2, (.slice A0_3 l0_3.length c0_3)] 53 (0, 0))) ∧ Aside0 (Below w.heap.size w w'))
    case atStart => exact ⟨(0), (by first|rfl|(simp;done)|(simp [*];done)|(simp;exact Go.Proofs.YtgdecbliegelmaaX.isEmpty_bne _)), H', ⟨Nat.le_refl _⟩, ⟨by (with_reducible repeat (first|refine blk_drewN ?_ _|refine blk_drew ?_|refine blk_alloc ?_ _));exact BK101.out⟩, ⟨by repeat (first|(with_reducible first|exact HB.out|apply below_alloc|apply pw_below_drewN|apply below_drew1|refine below_set ?_ GE101.out)|exact HB.out)⟩⟩
    case round =>
     clear H'
     try clear c1
     try clear p2
     try clear c5
     try clear c6
     try clear c7
     try clear c7b0
     try clear c7b1
     try clear c9
     try clear c9b0
     try clear c9b1
     try clear c10
     try clear c13
     try clear c14
     try clear hcz10_0
     try clear hcz10_1
     try clear hcz10_2
     try clear hcz10_3
     try clear hcz11_0
     try clear hcz11_1
     try clear hcz11_2
     try clear hcz11_3
     try clear hcz12_0
     try clear hcz12_1
     try clear hcz12_2
     try clear hcz12_3
     try clear hcz13_0
     try clear hcz13_1
     try clear hcz13_2
     try clear hcz13_3
     try clear hcz8_0
     try clear hcz8_1
     try clear hcz8_2
     try clear hcz8_3
     try clear hfz10_0
     try clear hfz10_1
     try clear hfz10_2
     try clear hfz10_3
     try clear hfz11_0
     try clear hfz11_1
     try clear hfz11_2
     try clear hfz11_3
     try clear hfz12_0
     try clear hfz12_1
     try clear hfz12_2
     try clear hfz12_3
     try clear hfz13_0
     try clear hfz13_1
     try clear hfz13_2
     try clear hfz13_3
     try clear hfz8_0
     try clear hfz8_1
     try clear hfz8_2
     try clear hfz8_3
     try clear p2
     obtain ⟨x3_2, rfl, HA, HK2, BK101, HB⟩ := hrel
     cases gk with
     | zero => exact absurd HA.out (by simp [spec_l01Right.l0])
     | succ k2 =>
      have H := HA.out
      clear HA
      simp only [spec_l01Right.l0] at H
      by_cases c15 : x3_2 < (l0_3.length : Int)
      ·rw [if_pos c15] at H
       have c15b0 : decide (x3_2 < (l0_3.length : Int)) = true := decide_eq_true c15
       clear c15
       by_cases c16 : 0 ≤ x3_2
       ·rw [if_pos c16] at H
        have c16b0 : decide (0 ≤ x3_2) = true := decide_eq_true c16
        clear c16
        replace H := Option.bind_eq_some_iff.mp H
        obtain ⟨t104, A170, H⟩ := H
        replace H : (if t104 = true then (spec_l01Right.l0 k2 (wrap64 (x3_2 + 1)) a0_0 a0_1 a0_2 l0_3) else (some false)) = some r := H
        have A17 := Aside0.mk A170
        clear A170
        by_cases c18 : t104 = true
        ·subst c18
         have H1 : (spec_l01Right.l0 k2 (wrap64 (x3_2 + 1)) a0_0 a0_1 a0_2 l0_3) = some r := by rw [if_pos rfl] at H;exact H
         clear H
         have H := H1
         clear H1
         have H' := Aside0.mk H
         clear H
         have hcz19_0 : wr.cell? ⟨gb101, 0, none⟩ = some (.string a0_0) := (blk_cell BK101.out 0).trans rfl
         have hcz19_1 : wr.cell? ⟨gb101, 1, none⟩ = some (.string a0_1) := (blk_cell BK101.out 1).trans rfl
         have hcz19_2 : wr.cell? ⟨gb101, 2, none⟩ = some (.bool a0_2) := (blk_cell BK101.out 2).trans rfl
         have hcz19_3 : wr.cell? ⟨gb101, 3, none⟩ = some (.slice A0_3 l0_3.length c0_3) := (blk_cell BK101.out 3).trans rfl
         have hfz19_0 := blk_frozen BK101.out 0
         have hfz19_1 := blk_frozen BK101.out 1
         have hfz19_2 := blk_frozen BK101.out 2
         have hfz19_3 := blk_frozen BK101.out 3
         have p103 : 0 ≤ (x3_2 : Int) := of_decide_eq_true (by first|(with_reducible assumption)|assumption)
         have q103 : x3_2 < (l0_3.length : Int) := of_decide_eq_true (by first|(with_reducible assumption)|assumption)
         obtain ⟨ad103, A103_3, c103_3, e103, hx103_0, hx103_1, hx103_2, hx103_3, hl103_3, hi103_3⟩ := at_T53 HR0_3.out x3_2 p103 q103
         cases e103
         replace hx103_0 := (HB.out.cell (World.block_lt_of_cell? w _ hx103_0)).trans hx103_0
         replace hx103_1 := (HB.out.cell (World.block_lt_of_cell? w _ hx103_1)).trans hx103_1
         replace hx103_2 := (HB.out.cell (World.block_lt_of_cell? w _ hx103_2)).trans hx103_2
         replace hx103_3 := (HB.out.cell (World.block_lt_of_cell? w _ hx103_3)).trans hx103_3
         have HR103_3 := Aside0.mk hi103_3
         have HC103_3 := Aside0.mk hl103_3
         clear hi103_3 hl103_3
         replace p103 := eq_true p103
         replace q103 := eq_true q103
         go_wp2_with (first|((with_reducible refine gate_callee (f := 107) rfl ?_);refine goesL_ (some 46) rfl rfl Try.func107 (by kernel_rfl) rfl #[.agg #[.string ((rd_T53 l0_3 x3_2).f0), .string ((rd_T53 l0_3 x3_2).f1), .bool ((rd_T53 l0_3 x3_2).f2), .slice A103_3 ((rd_T53 l0_3 x3_2).f3).length c103_3]] rfl (by (try simp only [List.map_toArray, List.map_cons, List.map_nil]);first|done|rfl|(simp only [List.length_drop, List.length_take];rfl)) ?_;(with_reducible refine (ih k2 (by have := HJ1.out;have := HK2.out;omega) ((rd_T53 l0_3 x3_2).f0) ((rd_T53 l0_3 x3_2).f1) ((rd_T53 l0_3 x3_2).f2) _ _ ((rd_T53 l0_3 x3_2).f3) true _ ?side1 ?side2 A17.out).mono ?_);(case side1 => repeat (first|exact (Kd.C_below HR103_3.out HB.out)|(with_reducible refine Kd.C_alloc ?_ _)|(with_reducible refine Kd.C_drewN ?_ _)|(with_reducible refine Kd.C_drew ?_)));(case side2 => exact HC103_3.out);rintro e w20 ⟨rfl, hb⟩;refine ⟨_, rfl, ?_⟩;have n0_ := Aside0.mk (blk_below (g := gb101) (o := .cells #[.string a0_0, .string a0_1, .bool a0_2, .slice (some ad103) l0_3.length c0_3] 53 (0, 0)) (by (with_reducible repeat (first|refine blk_drewN ?_ _|refine blk_drew ?_|refine blk_alloc ?_ _));exact BK101.out) hb);have n1_ := Aside0.mk (below_step (by repeat (first|(with_reducible first|exact HB.out|apply below_alloc|apply pw_below_drewN|apply below_drew1|refine below_set ?_ GE101.out)|exact HB.out)) hb);clear BK101;clear HB;have BK101 := n0_;have HB := n1_;clear n0_ n1_;(try clear hb);(try clear hb2);(try clear hk);(try clear hi)))
         go_roundg k2
         case measure => have := HJ1.out;have := HK2.out;omega
         case rel => exact ⟨(wrap64 (x3_2 + 1)), (by first|rfl|(simp;done)|(simp [*];done)|(simp;exact Go.Proofs.YtgdecbliegelmaaX.isEmpty_bne _)), H', ⟨by have := HJ1.out;have := HK2.out;omega⟩, ⟨by (with_reducible repeat (first|refine blk_drewN ?_ _|refine blk_drew ?_|refine blk_alloc ?_ _));exact BK101.out⟩, ⟨by repeat (first|(with_reducible first|exact HB.out|apply below_alloc|apply pw_below_drewN|apply below_drew1|refine below_set ?_ GE101.out)|exact HB.out)⟩⟩
        ·replace c18 := Bool.eq_false_iff.mpr c18
         subst c18
         have H1 : (some false) = some r := by rw [if_neg (show ¬ (false = true) by decide)] at H;exact H
         clear H
         have H := H1
         clear H1
         obtain rfl := Option.some.inj H
         have hcz21_0 : wr.cell? ⟨gb101, 0, none⟩ = some (.string a0_0) := (blk_cell BK101.out 0).trans rfl
         have hcz21_1 : wr.cell? ⟨gb101, 1, none⟩ = some (.string a0_1) := (blk_cell BK101.out 1).trans rfl
         have hcz21_2 : wr.cell? ⟨gb101, 2, none⟩ = some (.bool a0_2) := (blk_cell BK101.out 2).trans rfl
         have hcz21_3 : wr.cell? ⟨gb101, 3, none⟩ = some (.slice A0_3 l0_3.length c0_3) := (blk_cell BK101.out 3).trans rfl
         have hfz21_0 := blk_frozen BK101.out 0
         have hfz21_1 := blk_frozen BK101.out 1
         have hfz21_2 := blk_frozen BK101.out 2
         have hfz21_3 := blk_frozen BK101.out 3
         have p103 : 0 ≤ (x3_2 : Int) := of_decide_eq_true (by first|(with_reducible assumption)|assumption)
         have q103 : x3_2 < (l0_3.length : Int) := of_decide_eq_true (by first|(with_reducible assumption)|assumption)
         obtain ⟨ad103, A103_3, c103_3, e103, hx103_0, hx103_1, hx103_2, hx103_3, hl103_3, hi103_3⟩ := at_T53 HR0_3.out x3_2 p103 q103
         cases e103
         replace hx103_0 := (HB.out.cell (World.block_lt_of_cell? w _ hx103_0)).trans hx103_0
         replace hx103_1 := (HB.out.cell (World.block_lt_of_cell? w _ hx103_1)).trans hx103_1
         replace hx103_2 := (HB.out.cell (World.block_lt_of_cell? w _ hx103_2)).trans hx103_2
         replace hx103_3 := (HB.out.cell (World.block_lt_of_cell? w _ hx103_3)).trans hx103_3
         have HR103_3 := Aside0.mk hi103_3
         have HC103_3 := Aside0.mk hl103_3
         clear hi103_3 hl103_3
         replace p103 := eq_true p103
         replace q103 := eq_true q103
         go_wp2_with (first|((with_reducible refine gate_callee (f := 107) rfl ?_);refine goesL_ (some 46) rfl rfl Try.func107 (by kernel_rfl) rfl #[.agg #[.string ((rd_T53 l0_3 x3_2).f0), .string ((rd_T53 l0_3 x3_2).f1), .bool ((rd_T53 l0_3 x3_2).f2), .slice A103_3 ((rd_T53 l0_3 x3_2).f3).length c103_3]] rfl (by (try simp only [List.map_toArray, List.map_cons, List.map_nil]);first|done|rfl|(simp only [List.length_drop, List.length_take];rfl)) ?_;(with_reducible refine (ih k2 (by have := HJ1.out;have := HK2.out;omega) ((rd_T53 l0_3 x3_2).f0) ((rd_T53 l0_3 x3_2).f1) ((rd_T53 l0_3 x3_2).f2) _ _ ((rd_T53 l0_3 x3_2).f3) false _ ?side1 ?side2 A17.out).mono ?_);(case side1 => repeat (first|exact (Kd.C_below HR103_3.out HB.out)|(with_reducible refine Kd.C_alloc ?_ _)|(with_reducible refine Kd.C_drewN ?_ _)|(with_reducible refine Kd.C_drew ?_)));(case side2 => exact HC103_3.out);rintro e w22 ⟨rfl, hb⟩;refine ⟨_, rfl, ?_⟩;have n0_ := Aside0.mk (blk_below (g := gb101) (o := .cells #[.string a0_0, .string a0_1, .bool a0_2, .slice (some ad103) l0_3.length c0_3] 53 (0, 0)) (by (with_reducible repeat (first|refine blk_drewN ?_ _|refine blk_drew ?_|refine blk_alloc ?_ _));exact BK101.out) hb);have n1_ := Aside0.mk (below_step (by repeat (first|(with_reducible first|exact HB.out|apply below_alloc|apply pw_below_drewN|apply below_drew1|refine below_set ?_ GE101.out)|exact HB.out)) hb);clear BK101;clear HB;have BK101 := n0_;have HB := n1_;clear n0_ n1_;(try clear hb);(try clear hb2);(try clear hk);(try clear hi)))
         go_ret
         exact ⟨by first|rfl|(simp [errW_none, errW_some] <;> rfl)|(simp [*, errW_none, errW_some] <;> rfl), by repeat (first|(with_reducible first|exact HB.out|apply below_alloc|apply pw_below_drewN|apply below_drew1|refine below_set ?_ GE101.out)|exact HB.out)⟩
       ·rw [if_neg c16] at H
        exact absurd H (by simp)
      ·rw [if_neg c15] at H
       have c15b0 : decide (x3_2 < (l0_3.length : Int)) = false := decide_eq_false c15
       clear c15
       obtain rfl := Option.some.inj H
       have hcz23_0 : wr.cell? ⟨gb101, 0, none⟩ = some (.string a0_0) := (blk_cell BK101.out 0).trans rfl
       have hcz23_1 : wr.cell? ⟨gb101, 1, none⟩ = some (.string a0_1) := (blk_cell BK101.out 1).trans rfl
       have hcz23_2 : wr.cell? ⟨gb101, 2, none⟩ = some (.bool a0_2) := (blk_cell BK101.out 2).trans rfl
       have hcz23_3 : wr.cell? ⟨gb101, 3, none⟩ = some (.slice A0_3 l0_3.length c0_3) := (blk_cell BK101.out 3).trans rfl
       have hfz23_0 := blk_frozen BK101.out 0
       have hfz23_1 := blk_frozen BK101.out 1
       have hfz23_2 := blk_frozen BK101.out 2
       have hfz23_3 := blk_frozen BK101.out 3
       go_wp2
       go_ret
       exact ⟨by first|rfl|(simp [errW_none, errW_some] <;> rfl)|(simp [*, errW_none, errW_some] <;> rfl), by repeat (first|(with_reducible first|exact HB.out|apply below_alloc|apply pw_below_drewN|apply below_drew1|refine below_set ?_ GE101.out)|exact HB.out)⟩
end Go.Proofs.Ytgdecbliegelmaa.Q

namespace Go.Proofs.Ytgdecbliegelmaa.Q
open Go.RowKit Go.Proofs.YtgdecbliegelmaaW.PrintWords Go.Proofs.YtgdecbliegelmaaW.PrintLast Go.Proofs.YtgdecbliegelmaaW.PrintMore
attribute [local go_sem] max2_int min2_int max_two min_two max_three min_three max_four min_four   -- for this text's walks alone
set_option linter.unusedVariables false
set_option linter.unusedSimpArgs false
/-! ### spec_TreeOK: function 73 -/
def spec_TreeOK.f (k : Nat) (a0_0 : ByteArray) (a0_1 : ByteArray) (a0_2 : Bool) (l0_3 : List (S53)) : Option (Bool) := (spec_l01Room.f k a0_0 a0_1 a0_2 l0_3 1000 60).bind fun t102 => (if t102 ≥ 0 then ((spec_l01Right.f k a0_0 a0_1 a0_2 l0_3).bind fun t103 => (some t103)) else (some false))
theorem spec_TreeOK.mono : ∀ a0 a1 a2 a3 k, LeO (spec_TreeOK.f k a0 a1 a2 a3) (spec_TreeOK.f (k + 1) a0 a1 a2 a3) := by
 intro a0 a1 a2 a3 k
 unfold spec_TreeOK.f
 repeat' first
   | (with_reducible exact spec_l01Right.mono _ _ _ _ _)
   | (with_reducible exact spec_l01Room.mono _ _ _ _ _ _ _)
   | (with_reducible exact LeO.refl _)
   | (with_reducible exact LeO.none _)
   | (with_reducible refine LeO.ite ?_ ?_)
   | (with_reducible refine LeO.bind ?_ (fun _ => ?_))
   | exact spec_l01Right.mono _ _ _ _ _
   | exact spec_l01Room.mono _ _ _ _ _ _ _
   | exact LeO.none _
   | refine LeO.ite ?_ ?_
   | refine LeO.bind ?_ (fun _ => ?_)
set_option maxHeartbeats 8000000 in
set_option maxRecDepth 100000 in
theorem spec_TreeOK.calls (k : Nat) (a0_0 : ByteArray) (a0_1 : ByteArray) (a0_2 : Bool) (A0_3 : Option Addr) (c0_3 : Nat) (l0_3 : List (S53)) (r : Bool) (w : World) (hr0_3 : Kd.C k53 w A0_3 l0_3.length l0_3) (hc0_3 : l0_3.length ≤ c0_3) (h : spec_TreeOK.f k a0_0 a0_1 a0_2 l0_3 = some r) :
  Calls Try.prog 73 #[.agg #[.string a0_0, .string a0_1, .bool a0_2, .slice A0_3 l0_3.length c0_3]] w fun e w' => e = .returned (.bool r) ∧ Below w.heap.size w w' := by
 have hu53 := Try.underlying53
 have HR0_3 := Aside0.mk hr0_3
 have HC0_3 := Aside0.mk hc0_3
 clear hr0_3 hc0_3
 have HB := Aside0.mk (Below.refl w.heap.size w)
 have H : ((spec_l01Room.f k a0_0 a0_1 a0_2 l0_3 1000 60).bind fun t102 => (if t102 ≥ 0 then ((spec_l01Right.f k a0_0 a0_1 a0_2 l0_3).bind fun t103 => (some t103)) else (some false))) = some r := h
 clear h
 replace H := Option.bind_eq_some_iff.mp H
 obtain ⟨t102, A20, H⟩ := H
 replace H : (if t102 ≥ 0 then ((spec_l01Right.f k a0_0 a0_1 a0_2 l0_3).bind fun t103 => (some t103)) else (some false)) = some r := H
 have A2 := Aside0.mk A20
 clear A20
 by_cases c3 : t102 ≥ 0
 ·rw [if_pos c3] at H
  have c3b0 : decide (0 ≤ t102) = true := decide_eq_true c3
  clear c3
  replace H := Option.bind_eq_some_iff.mp H
  obtain ⟨t103, A40, H⟩ := H
  replace H : (some t103) = some r := H
  have A4 := Aside0.mk A40
  clear A40
  obtain rfl := Option.some.inj H
  go_enter Try.func73, Try.ntmps73
  go_wp2_with (first|((with_reducible refine gate_dst (N := 1) rfl ?_);refine box_event ?hg (N := 1) ?hd (cs := #[.string a0_0, .string a0_1, .bool a0_2, .slice A0_3 l0_3.length c0_3]) (t := 53) ?hr ?_;(case hd => rfl);(case hg => rfl);(case hr => first|(go_simp;done)|(go_simp;rfl));intro gb101 hg w5 hbox hb;have n0_ := Aside0.mk (below_step (by repeat (first|(with_reducible first|exact HB.out|apply below_alloc|apply pw_below_drewN|apply below_drew1)|exact HB.out)) hb);have n1_ := Aside0.mk (hbox);have n2_ := Aside0.mk ((by rw [hg];exact (below_size (by repeat (first|(with_reducible first|exact HB.out|apply below_alloc|apply pw_below_drewN|apply below_drew1)|exact HB.out))) : w.heap.size ≤ gb101));have n3_ := Aside0.mk ((by rw [hg];exact (below_size (by repeat (first|(with_reducible first|exact HB.out|apply below_alloc|apply pw_below_drewN|apply below_drew1)|exact HB.out))) : w.heap.size ≤ gb101));clear HB;have HB := n0_;have BK101 := n1_;have GW101 := n2_;have GE101 := n3_;clear n0_ n1_ n2_ n3_;clear hb hbox hg;have hcz6_0 : w5.cell? ⟨gb101, 0, none⟩ = some (.string a0_0) := (blk_cell BK101.out 0).trans rfl;have hcz6_1 : w5.cell? ⟨gb101, 1, none⟩ = some (.string a0_1) := (blk_cell BK101.out 1).trans rfl;have hcz6_2 : w5.cell? ⟨gb101, 2, none⟩ = some (.bool a0_2) := (blk_cell BK101.out 2).trans rfl;have hcz6_3 : w5.cell? ⟨gb101, 3, none⟩ = some (.slice A0_3 l0_3.length c0_3) := (blk_cell BK101.out 3).trans rfl;have hfz6_0 := blk_frozen BK101.out 0;have hfz6_1 := blk_frozen BK101.out 1;have hfz6_2 := blk_frozen BK101.out 2;have hfz6_3 := blk_frozen BK101.out 3)|((with_reducible refine gate_callee (f := 106) rfl ?_);refine goesL_ (some 4) rfl rfl Try.func106 (by kernel_rfl) rfl #[.agg #[.string a0_0, .string a0_1, .bool a0_2, .slice A0_3 l0_3.length c0_3], .int .i64 1000, .int .i64 60] rfl (by (try simp only [List.map_toArray, List.map_cons, List.map_nil]);first|done|rfl|(simp only [List.length_drop, List.length_take];rfl)) ?_;(with_reducible refine (spec_l01Room.calls k a0_0 a0_1 a0_2 _ _ l0_3 1000 60 t102 _ ?side1 ?side2 A2.out).mono ?_);(case side1 => repeat (first|exact (Kd.C_below HR0_3.out HB.out)|(with_reducible refine Kd.C_alloc ?_ _)|(with_reducible refine Kd.C_drewN ?_ _)|(with_reducible refine Kd.C_drew ?_)));(case side2 => exact HC0_3.out);rintro e w7 ⟨rfl, hb⟩;refine ⟨_, rfl, ?_⟩;have n0_ := Aside0.mk (blk_below (g := gb101) (o := .cells #[.string a0_0, .string a0_1, .bool a0_2, .slice A0_3 l0_3.length c0_3] 53 (0, 0)) (by (with_reducible repeat (first|refine blk_drewN ?_ _|refine blk_drew ?_|refine blk_alloc ?_ _));exact BK101.out) hb);have n1_ := Aside0.mk (below_step (by repeat (first|(with_reducible first|exact HB.out|apply below_alloc|apply pw_below_drewN|apply below_drew1|refine below_set ?_ GE101.out)|exact HB.out)) hb);clear BK101;clear HB;have BK101 := n0_;have HB := n1_;clear n0_ n1_;(try clear hb);(try clear hb2);(try clear hk);(try clear hi);have hcz8_0 : w7.cell? ⟨gb101, 0, none⟩ = some (.string a0_0) := (blk_cell BK101.out 0).trans rfl;have hcz8_1 : w7.cell? ⟨gb101, 1, none⟩ = some (.string a0_1) := (blk_cell BK101.out 1).trans rfl;have hcz8_2 : w7.cell? ⟨gb101, 2, none⟩ = some (.bool a0_2) := (blk_cell BK101.out 2).trans rfl;have hcz8_3 : w7.cell? ⟨gb101, 3, none⟩ = some (.slice A0_3 l0_3.length c0_3) := (blk_cell BK101.out 3).trans rfl;have hfz8_0 := blk_frozen BK101.out 0;have hfz8_1 := blk_frozen BK101.out 1;have hfz8_2 := blk_frozen BK101.out 2;have hfz8_3 := blk_frozen BK101.out 3)|(go_at_call 107;(with_reducible refine (spec_l01Right.calls k a0_0 a0_1 a0_2 _ _ l0_3 t103 _ ?side1 ?side2 A4.out).mono ?_);(case side1 => repeat (first|exact (Kd.C_below HR0_3.out HB.out)|(with_reducible refine Kd.C_alloc ?_ _)|(with_reducible refine Kd.C_drewN ?_ _)|(with_reducible refine Kd.C_drew ?_)));(case side2 => exact HC0_3.out);rintro e w9 ⟨rfl, hb⟩;have n0_ := Aside0.mk (blk_below (g := gb101) (o := .cells #[.string a0_0, .string a0_1, .bool a0_2, .slice A0_3 l0_3.length c0_3] 53 (0, 0)) (by (with_reducible repeat (first|refine blk_drewN ?_ _|refine blk_drew ?_|refine blk_alloc ?_ _));exact BK101.out) hb);have n1_ := Aside0.mk (below_step (by repeat (first|(with_reducible first|exact HB.out|apply below_alloc|apply pw_below_drewN|apply below_drew1|refine below_set ?_ GE101.out)|exact HB.out)) hb);clear BK101;clear HB;have BK101 := n0_;have HB := n1_;clear n0_ n1_;(try clear hb);(try clear hb2);(try clear hk);(try clear hi)))
  go_ret
  exact ⟨by first|rfl|(simp [errW_none, errW_some] <;> rfl)|(simp [*, errW_none, errW_some] <;> rfl), by repeat (first|(with_reducible first|exact HB.out|apply below_alloc|apply pw_below_drewN|apply below_drew1|refine below_set ?_ GE101.out)|exact HB.out)⟩
 ·rw [if_neg c3] at H
  have c3b0 : decide (0 ≤ t102) = false := decide_eq_false c3
  clear c3
  obtain rfl := Option.some.inj H
  go_enter Try.func73, Try.ntmps73
  go_wp2_with (first|((with_reducible refine gate_dst (N := 1) rfl ?_);refine box_event ?hg (N := 1) ?hd (cs := #[.string a0_0, .string a0_1, .bool a0_2, .slice A0_3 l0_3.length c0_3]) (t := 53) ?hr ?_;(case hd => rfl);(case hg => rfl);(case hr => first|(go_simp;done)|(go_simp;rfl));intro gb101 hg w10 hbox hb;have n0_ := Aside0.mk (below_step (by repeat (first|(with_reducible first|exact HB.out|apply below_alloc|apply pw_below_drewN|apply below_drew1)|exact HB.out)) hb);have n1_ := Aside0.mk (hbox);have n2_ := Aside0.mk ((by rw [hg];exact (below_size (by repeat (first|(with_reducible first|exact HB.out|apply below_alloc|apply pw_below_drewN|apply below_drew1)|exact HB.out))) : w.heap.size ≤ gb101));have n3_ := Aside0.mk ((by rw [hg];exact (below_size (by repeat (first|(with_reducible first|exact HB.out|apply below_alloc|apply pw_below_drewN|apply below_drew1)|exact HB.out))) : w.heap.size ≤ gb101));clear HB;have HB := n0_;have BK101 := n1_;have GW101 := n2_;have GE101 := n3_;clear n0_ n1_ n2_ n3_;clear hb hbox hg;have hcz11_0 : w10.cell? ⟨gb101, 0, none⟩ = some (.string a0_0) := (blk_cell BK101.out 0).trans rfl;have hcz11_1 : w10.cell? ⟨gb101, 1, none⟩ = some (.string a0_1) := (blk_cell BK101.out 1).trans rfl;have hcz11_2 : w10.cell? ⟨gb101, 2, none⟩ = some (.bool a0_2) := (blk_cell BK101.out 2).trans rfl;have hcz11_3 : w10.cell? ⟨gb101, 3, none⟩ = some (.slice A0_3 l0_3.length c0_3) := (blk_cell BK101.out 3).trans rfl;have hfz11_0 := blk_frozen BK101.out 0;have hfz11_1 := blk_frozen BK101.out 1;have hfz11_2 := blk_frozen BK101.out 2;have hfz11_3 := blk_frozen BK101.out 3)|((with_reducible refine gate_callee (f := 106) rfl ?_);refine goesL_ (some 4) rfl rfl Try.func106 (by kernel_rfl) rfl #[.agg #[.string a0_0, .string a0_1, .bool a0_2, .slice A0_3 l0_3.length c0_3], .int .i64 1000, .int .i64 60] rfl (by (try simp only [List.map_toArray, List.map_cons, List.map_nil]);first|done|rfl|(simp only [List.length_drop, List.length_take];rfl)) ?_;(with_reducible refine (spec_l01Room.calls k a0_0 a0_1 a0_2 _ _ l0_3 1000 60 t102 _ ?side1 ?side2 A2.out).mono ?_);(case side1 => repeat (first|exact (Kd.C_below HR0_3.out HB.out)|(with_reducible refine Kd.C_alloc ?_ _)|(with_reducible refine Kd.C_drewN ?_ _)|(with_reducible refine Kd.C_drew ?_)));(case side2 => exact HC0_3.out);rintro e w12 ⟨rfl, hb⟩;refine ⟨_, rfl, ?_⟩;have n0_ := Aside0.mk (blk_below (g := gb101) (o := .cells #[.string a0_0, .string a0_1, .bool a0_2, .slice A0_3 l0_3.length c0_3] 53 (0, 0)) (by (with_reducible repeat (first|refine blk_drewN ?_ _|refine blk_drew ?_|refine blk_alloc ?_ _));exact BK101.out) hb);have n1_ := Aside0.mk (below_step (by repeat (first|(with_reducible first|exact HB.out|apply below_alloc|apply pw_below_drewN|apply below_drew1|refine below_set ?_ GE101.out)|exact HB.out)) hb);clear BK101;clear HB;have BK101 := n0_;have HB := n1_;clear n0_ n1_;(try clear hb);(try clear hb2);(try clear hk);(try clear hi)))
  go_ret
  exact ⟨by first|rfl|(simp [errW_none, errW_some] <;> rfl)|(simp [*, errW_none, errW_some] <;> rfl), by repeat (first|(with_reducible first|exact HB.out|apply below_alloc|apply pw_below_drewN|apply below_drew1|refine below_set ?_ GE101.out)|exact HB.out)⟩
end Go.Proofs.Ytgdecbliegelmaa.Q

namespace Go.Proofs.Ytgdecbliegelmaa.Q
open Go.RowKit Go.Proofs.YtgdecbliegelmaaW.PrintWords Go.Proofs.YtgdecbliegelmaaW.PrintLast Go.Proofs.YtgdecbliegelmaaW.PrintMore
attribute [local go_sem] max2_int min2_int max_two min_two max_three min_three max_four min_four   -- for this text's walks alone
set_option linter.unusedVariables false
set_option linter.unusedSimpArgs false
/-! ### impl_isLetter: function 138 -/
def impl_isLetter.f (a0 : Int) : Option (Bool) := if a0 ≥ 97 then (if a0 ≤ 122 then (some true) else (if a0 ≥ 65 then (some (decide (a0 ≤ 90))) else (some false))) else (if a0 ≥ 65 then (some (decide (a0 ≤ 90))) else (some false))
set_option maxHeartbeats 8000000 in
set_option maxRecDepth 100000 in
theorem impl_isLetter.calls (a0 : Int) (r : Bool) (w : World) (h : impl_isLetter.f a0 = some r) :
  Calls Try.prog 138 #[.int .u8 a0] w fun e w' => e = .returned (.bool r) ∧ Drawn0 w w' := by
 have H : (if a0 ≥ 97 then (if a0 ≤ 122 then (some true) else (if a0 ≥ 65 then (some (decide (a0 ≤ 90))) else (some false))) else (if a0 ≥ 65 then (some (decide (a0 ≤ 90))) else (some false))) = some r := h
 clear h
 by_cases c2 : a0 ≥ 97
 ·rw [if_pos c2] at H
  have c2b0 : decide (97 ≤ a0) = true := decide_eq_true c2
  clear c2
  by_cases c3 : a0 ≤ 122
  ·rw [if_pos c3] at H
   have c3b0 : decide (a0 ≤ 122) = true := decide_eq_true c3
   clear c3
   obtain rfl := Option.some.inj H
   go_enter Try.func138, Try.ntmps138
   go_wp2
   go_ret
   exact ⟨by first|rfl|(simp;done)|(simp [*];done), by repeat (first|exact Drawn0.refl _|apply Drawn0.step)⟩
  ·rw [if_neg c3] at H
   have c3b0 : decide (a0 ≤ 122) = false := decide_eq_false c3
   clear c3
   by_cases c4 : a0 ≥ 65
   ·rw [if_pos c4] at H
    have c4b0 : decide (65 ≤ a0) = true := decide_eq_true c4
    clear c4
    obtain rfl := Option.some.inj H
    go_enter Try.func138, Try.ntmps138
    go_wp2
    go_ret
    exact ⟨by first|rfl|(simp;done)|(simp [*];done), by repeat (first|exact Drawn0.refl _|apply Drawn0.step)⟩
   ·rw [if_neg c4] at H
    have c4b0 : decide (65 ≤ a0) = false := decide_eq_false c4
    clear c4
    obtain rfl := Option.some.inj H
    go_enter Try.func138, Try.ntmps138
    go_wp2
    go_ret
    exact ⟨by first|rfl|(simp;done)|(simp [*];done), by repeat (first|exact Drawn0.refl _|apply Drawn0.step)⟩
 ·rw [if_neg c2] at H
  have c2b0 : decide (97 ≤ a0) = false := decide_eq_false c2
  clear c2
  by_cases c5 : a0 ≥ 65
  ·rw [if_pos c5] at H
   have c5b0 : decide (65 ≤ a0) = true := decide_eq_true c5
   clear c5
   obtain rfl := Option.some.inj H
   go_enter Try.func138, Try.ntmps138
   go_wp2
   go_ret
   exact ⟨by first|rfl|(simp;done)|(simp [*];done), by repeat (first|exact Drawn0.refl _|apply Drawn0.step)⟩
  ·rw [if_neg c5] at H
   have c5b0 : decide (65 ≤ a0) = false := decide_eq_false c5
   clear c5
   obtain rfl := Option.some.inj H
   go_enter Try.func138, Try.ntmps138
   go_wp2
   go_ret
   exact ⟨by first|rfl|(simp;done)|(simp [*];done), by repeat (first|exact Drawn0.refl _|apply Drawn0.step)⟩
end Go.Proofs.Ytgdecbliegelmaa.Q

namespace Go.Proofs.Ytgdecbliegelmaa.Q
open Go.RowKit Go.Proofs.YtgdecbliegelmaaW.PrintWords Go.Proofs.YtgdecbliegelmaaW.PrintLast Go.Proofs.YtgdecbliegelmaaW.PrintMore
attribute [local go_sem] max2_int min2_int max_two min_two max_three min_three max_four min_four   -- for this text's walks alone
set_option linter.unusedVariables false
set_option linter.unusedSimpArgs false
/-! ### impl_isDigit: function 144 -/
def impl_isDigit.f (a0 : Int) : Option (Bool) := if a0 ≥ 48 then (some (decide (a0 ≤ 57))) else (some false)
set_option maxHeartbeats 8000000 in
set_option maxRecDepth 100000 in
theorem impl_isDigit.calls (a0 : Int) (r : Bool) (w : World) (h : impl_isDigit.f a0 = some r) :
  Calls Try.prog 144 #[.int .u8 a0] w fun e w' => e = .returned (.bool r) ∧ Drawn0 w w' := by
 have H : (if a0 ≥ 48 then (some (decide (a0 ≤ 57))) else (some false)) = some r := h
 clear h
 by_cases c2 : a0 ≥ 48
 ·rw [if_pos c2] at H
  have c2b0 : decide (48 ≤ a0) = true := decide_eq_true c2
  clear c2
  obtain rfl := Option.some.inj H
  go_enter Try.func144, Try.ntmps144
  go_wp2
  go_ret
  exact ⟨by first|rfl|(simp;done)|(simp [*];done), by repeat (first|exact Drawn0.refl _|apply Drawn0.step)⟩
 ·rw [if_neg c2] at H
  have c2b0 : decide (48 ≤ a0) = false := decide_eq_false c2
  clear c2
  obtain rfl := Option.some.inj H
  go_enter Try.func144, Try.ntmps144
  go_wp2
  go_ret
  exact ⟨by first|rfl|(simp;done)|(simp [*];done), by repeat (first|exact Drawn0.refl _|apply Drawn0.step)⟩
end Go.Proofs.Ytgdecbliegelmaa.Q

namespace Go.Proofs.Ytgdecbliegelmaa.Q
open Go.RowKit Go.Proofs.YtgdecbliegelmaaW.PrintWords Go.Proofs.YtgdecbliegelmaaW.PrintLast Go.Proofs.YtgdecbliegelmaaW.PrintMore
attribute [local go_sem] max2_int min2_int max_two min_two max_three min_three max_four min_four   -- for this text's walks alone
set_option linter.unusedVariables false
set_option linter.unusedSimpArgs false
/-! ### impl_inName: function 139 -/
def impl_inName.f (a0 : Int) : Option (Bool) := (impl_isLetter.f a0).bind fun t101 => (if t101 = true then (some true) else ((impl_isDigit.f a0).bind fun t102 => (if t102 = true then (some true) else (some (a0 == 95)))))
set_option maxHeartbeats 8000000 in
set_option maxRecDepth 100000 in
theorem impl_inName.calls (a0 : Int) (r : Bool) (w : World) (h : impl_inName.f a0 = some r) :
  Calls Try.prog 139 #[.int .u8 a0] w fun e w' => e = .returned (.bool r) ∧ Drawn0 w w' := by
 have H : ((impl_isLetter.f a0).bind fun t101 => (if t101 = true then (some true) else ((impl_isDigit.f a0).bind fun t102 => (if t102 = true then (some true) else (some (a0 == 95)))))) = some r := h
 clear h
 replace H := Option.bind_eq_some_iff.mp H
 obtain ⟨t101, A20, H⟩ := H
 replace H : (if t101 = true then (some true) else ((impl_isDigit.f a0).bind fun t102 => (if t102 = true then (some true) else (some (a0 == 95))))) = some r := H
 have A2 := Aside0.mk A20
 clear A20
 by_cases c3 : t101 = true
 ·subst c3
  have H1 : (some true) = some r := by rw [if_pos rfl] at H;exact H
  clear H
  have H := H1
  clear H1
  obtain rfl := Option.some.inj H
  go_enter Try.func139, Try.ntmps139
  go_wp2_with (first|((with_reducible refine gate_callee (f := 138) rfl ?_);refine goesL_ (some 4) rfl rfl Try.func138 (by kernel_rfl) rfl #[.int .u8 a0] rfl (by (try simp only [List.map_toArray, List.map_cons, List.map_nil]);first|done|rfl|(simp only [List.length_drop, List.length_take];rfl)) ?_;(with_reducible refine (impl_isLetter.calls a0 true _ A2.out).mono ?_);rintro e w' ⟨rfl, ⟨nd, rfl⟩⟩;refine ⟨_, rfl, ?_⟩))
  go_ret
  exact ⟨by first|rfl|(simp;done)|(simp [*];done), by repeat (first|exact Drawn0.refl _|apply Drawn0.step)⟩
 ·replace c3 := Bool.eq_false_iff.mpr c3
  subst c3
  have H1 : ((impl_isDigit.f a0).bind fun t102 => (if t102 = true then (some true) else (some (a0 == 95)))) = some r := by rw [if_neg (show ¬ (false = true) by decide)] at H;exact H
  clear H
  have H := H1
  clear H1
  replace H := Option.bind_eq_some_iff.mp H
  obtain ⟨t102, A40, H⟩ := H
  replace H : (if t102 = true then (some true) else (some (a0 == 95))) = some r := H
  have A4 := Aside0.mk A40
  clear A40
  by_cases c5 : t102 = true
  ·subst c5
   have H1 : (some true) = some r := by rw [if_pos rfl] at H;exact H
   clear H
   have H := H1
   clear H1
   obtain rfl := Option.some.inj H
   go_enter Try.func139, Try.ntmps139
   go_wp2_with (first|((with_reducible refine gate_callee (f := 138) rfl ?_);refine goesL_ (some 4) rfl rfl Try.func138 (by kernel_rfl) rfl #[.int .u8 a0] rfl (by (try simp only [List.map_toArray, List.map_cons, List.map_nil]);first|done|rfl|(simp only [List.length_drop, List.length_take];rfl)) ?_;(with_reducible refine (impl_isLetter.calls a0 false _ A2.out).mono ?_);rintro e w' ⟨rfl, ⟨nd, rfl⟩⟩;refine ⟨_, rfl, ?_⟩)|(go_at_call 144;(with_reducible refine (impl_isDigit.calls a0 true _ A4.out).mono ?_);rintro e w' ⟨rfl, ⟨nd, rfl⟩⟩))
   go_ret
   exact ⟨by first|rfl|(simp;done)|(simp [*];done), by repeat (first|exact Drawn0.refl _|apply Drawn0.step)⟩
  ·replace c5 := Bool.eq_false_iff.mpr c5
   subst c5
   have H1 : (some (a0 == 95)) = some r := by rw [if_neg (show ¬ (false = true) by decide)] at H;exact H
   clear H
   have H := H1
   clear H1
   obtain rfl := Option.some.inj H
   go_enter Try.func139, Try.ntmps139
   go_wp2_with (first|((with_reducible refine gate_callee (f := 138) rfl ?_);refine goesL_ (some 4) rfl rfl Try.func138 (by kernel_rfl) rfl #[.int .u8 a0] rfl (by (try simp only [List.map_toArray, List.map_cons, List.map_nil]);first|done|rfl|(simp only [List.length_drop, List.length_take];rfl)) ?_;(with_reducible refine (impl_isLetter.calls a0 false _ A2.out).mono ?_);rintro e w' ⟨rfl, ⟨nd, rfl⟩⟩;refine ⟨_, rfl, ?_⟩)|(go_at_call 144;(with_reducible refine (impl_isDigit.calls a0 false _ A4.out).mono ?_);rintro e w' ⟨rfl, ⟨nd, rfl⟩⟩))
   go_ret
   exact ⟨by first|rfl|(simp;done)|(simp [*];done), by repeat (first|exact Drawn0.refl _|apply Drawn0.step)⟩
end Go.Proofs.Ytgdecbliegelmaa.Q

namespace Go.Proofs.Ytgdecbliegelmaa.Q
open Go.RowKit Go.Proofs.YtgdecbliegelmaaW.PrintWords Go.Proofs.YtgdecbliegelmaaW.PrintLast Go.Proofs.YtgdecbliegelmaaW.PrintMore
attribute [local go_sem] max2_int min2_int max_two min_two max_three min_three max_four min_four   -- for this text's walks alone
set_option linter.unusedVariables false
set_option linter.unusedSimpArgs false
/-! ### impl_nameOK: function 131 -/
mutual
def impl_nameOK.j0 : Nat → ByteArray → Bool → Option (Bool)
  | 0, _, _ => none
  | k + 1, x0, x17 => if x17 = true then (some false) else (impl_nameOK.l0 k x0 0)
def impl_nameOK.l0 : Nat → ByteArray → Int → Option (Bool)
  | 0, _, _ => none
  | k + 1, x0, x3 => if x3 < (x0.size : Int) then (if 0 ≤ x3 then ((impl_inName.f (bt x0 x3)).bind fun t102 => (if t102 = true then (impl_nameOK.l0 k x0 (wrap64 (x3 + 1))) else (some false))) else (none)) else (some true)
end
def impl_nameOK.f (k : Nat) (a0 : ByteArray) : Option (Bool) := if (a0.size : Int) < 1 then (impl_nameOK.j0 k a0 true) else (if (a0.size : Int) > 24 then (impl_nameOK.j0 k a0 true) else (if 0 < (a0.size : Int) then ((impl_isLetter.f (bt a0 0)).bind fun t101 => (impl_nameOK.j0 k a0 (!t101))) else (none)))
theorem impl_nameOK.mono_l : ∀ k, (∀ y0 y1, LeO (impl_nameOK.j0 k y0 y1) (impl_nameOK.j0 (k + 1) y0 y1)) ∧ (∀ y0 y1, LeO (impl_nameOK.l0 k y0 y1) (impl_nameOK.l0 (k + 1) y0 y1))
 | 0 => ⟨fun _ _ r h => by simp [impl_nameOK.j0] at h, fun _ _ r h => by simp [impl_nameOK.l0] at h⟩
 | k + 1 => by
  obtain ⟨ih0, ih1⟩ := impl_nameOK.mono_l k
  refine ⟨?_, ?_⟩
  ·intro y0 y1
   unfold impl_nameOK.j0
   repeat' first
   | (with_reducible exact ih0 _ _)
   | (with_reducible exact ih1 _ _)
   | (with_reducible exact LeO.refl _)
   | (with_reducible exact LeO.none _)
   | (with_reducible refine LeO.ite ?_ ?_)
   | (with_reducible refine LeO.bind ?_ (fun _ => ?_))
   | exact ih0 _ _
   | exact ih1 _ _
   | exact LeO.none _
   | refine LeO.ite ?_ ?_
   | refine LeO.bind ?_ (fun _ => ?_)
  ·intro y0 y1
   unfold impl_nameOK.l0
   repeat' first
   | (with_reducible exact ih0 _ _)
   | (with_reducible exact ih1 _ _)
   | (with_reducible exact LeO.refl _)
   | (with_reducible exact LeO.none _)
   | (with_reducible refine LeO.ite ?_ ?_)
   | (with_reducible refine LeO.bind ?_ (fun _ => ?_))
   | exact ih0 _ _
   | exact ih1 _ _
   | exact LeO.none _
   | refine LeO.ite ?_ ?_
   | refine LeO.bind ?_ (fun _ => ?_)
theorem impl_nameOK.mono : ∀ a0 k, LeO (impl_nameOK.f k a0) (impl_nameOK.f (k + 1) a0) := by
 intro a0 k
 obtain ⟨ih0, ih1⟩ := impl_nameOK.mono_l k
 unfold impl_nameOK.f
 repeat' first
   | (with_reducible exact ih0 _ _)
   | (with_reducible exact ih1 _ _)
   | (with_reducible exact LeO.refl _)
   | (with_reducible exact LeO.none _)
   | (with_reducible refine LeO.ite ?_ ?_)
   | (with_reducible refine LeO.bind ?_ (fun _ => ?_))
   | exact ih0 _ _
   | exact ih1 _ _
   | exact LeO.none _
   | refine LeO.ite ?_ ?_
   | refine LeO.bind ?_ (fun _ => ?_)
set_option maxHeartbeats 8000000 in
set_option maxRecDepth 100000 in
theorem impl_nameOK.calls (k : Nat) (a0 : ByteArray) (r : Bool) (w : World) (h : impl_nameOK.f k a0 = some r) :
  Calls Try.prog 131 #[.string a0] w fun e w' => e = .returned (.bool r) ∧ Drawn0 w w' := by
 have H : (if (a0.size : Int) < 1 then (impl_nameOK.j0 k a0 true) else (if (a0.size : Int) > 24 then (impl_nameOK.j0 k a0 true) else (if 0 < (a0.size : Int) then ((impl_isLetter.f (bt a0 0)).bind fun t101 => (impl_nameOK.j0 k a0 (!t101))) else (none)))) = some r := h
 clear h
 have HC2 := Aside0.mk H
 clear H
 go_enter Try.func131, Try.ntmps131
 go_upto_region 1 with (fail)
 go_cut [17] (fun v17 wc => ∃ (kq : Nat) (x17_1 : Bool), v17 = .bool x17_1 ∧ Aside0 (impl_nameOK.j0 kq a0 x17_1 = some r) ∧ Aside0 (kq ≤ k) ∧ Drawn0 w wc)
 case first =>
  have H := HC2.out
  clear HC2
  by_cases c3 : (a0.size : Int) < 1
  ·rw [if_pos c3] at H
   have c3b0 : decide ((a0.size : Int) < 1) = true := decide_eq_true c3
   have c3b1 : decide (a0.size < 1) = true := decide_eq_true (by omega)
   clear c3
   (first|rw [c3b0]|(simp only [i64_w, i32_w];rw [c3b0])|skip)
   have H' := Aside0.mk H
   clear H
   go_wp2
   go_meet
   case rel => exact ⟨_, (true), (by first|rfl|(simp;done)|(simp [*];done)), H', ⟨by first|omega|exact Nat.le_refl _⟩, by repeat (first|exact Drawn0.refl _|apply Drawn0.step)⟩
  ·rw [if_neg c3] at H
   have c3b0 : decide ((a0.size : Int) < 1) = false := decide_eq_false c3
   have c3b1 : decide (a0.size < 1) = false := decide_eq_false (by omega)
   clear c3
   (first|rw [c3b0]|(simp only [i64_w, i32_w];rw [c3b0])|skip)
   by_cases c4 : (a0.size : Int) > 24
   ·rw [if_pos c4] at H
    have c4b0 : decide (24 < (a0.size : Int)) = true := decide_eq_true c4
    have c4b1 : decide (24 < a0.size) = true := decide_eq_true (by omega)
    clear c4
    have H' := Aside0.mk H
    clear H
    go_wp2
    go_meet
    case rel => exact ⟨_, (true), (by first|rfl|(simp;done)|(simp [*];done)), H', ⟨by first|omega|exact Nat.le_refl _⟩, by repeat (first|exact Drawn0.refl _|apply Drawn0.step)⟩
   ·rw [if_neg c4] at H
    have c4b0 : decide (24 < (a0.size : Int)) = false := decide_eq_false c4
    have c4b1 : decide (24 < a0.size) = false := decide_eq_false (by omega)
    clear c4
    by_cases c5 : 0 < (a0.size : Int)
    ·rw [if_pos c5] at H
     have c5b0 : decide (0 < (a0.size : Int)) = true := decide_eq_true c5
     have c5b1 : decide (0 < a0.size) = true := decide_eq_true (by omega)
     clear c5
     replace H := Option.bind_eq_some_iff.mp H
     obtain ⟨t101, A70, H⟩ := H
     replace H : (impl_nameOK.j0 k a0 (!t101)) = some r := H
     have A7 := Aside0.mk A70
     clear A70
     have H' := Aside0.mk H
     clear H
     have p6 : 0 ≤ (0 : Int) := (by omega)
     have q6 : 0 < a0.size := (by have : (0 : Int) < (a0.size : Int) := of_decide_eq_true (by first|(with_reducible assumption)|assumption);omega)
     have hx6 : ∀ h : 0 < a0.size, ((a0[0]'h).toNat : Int) = bt a0 0 := bt_at a0 0
     clear p6
     have qi6 : (0 < (a0.size : Int)) = True := eq_true (of_decide_eq_true (by first|(with_reducible assumption)|assumption))
     replace q6 := eq_true q6
     go_wp2_with (first|(go_at_call 138;(with_reducible refine (impl_isLetter.calls (bt a0 0) t101 _ A7.out).mono ?_);rintro e w' ⟨rfl, ⟨nd, rfl⟩⟩))
     go_meet
     case rel => exact ⟨_, (!t101), (by first|rfl|(simp;done)|(simp [*];done)), H', ⟨by first|omega|exact Nat.le_refl _⟩, by repeat (first|exact Drawn0.refl _|apply Drawn0.step)⟩
    ·rw [if_neg c5] at H
     exact absurd H (by simp)
 case rest =>
  clear HC2
  try clear c1
  try clear p2
  try clear c3
  try clear c3b0
  try clear c3b1
  try clear c4
  try clear c4b0
  try clear c4b1
  try clear c5
  try clear c5b0
  try clear c5b1
  try clear p6
  try clear q6
  try clear hx6
  try clear qi6
  try clear p6
  try clear q6
  obtain ⟨kq, x17_1, rfl, HA, HJ1, ⟨mc1, rfl⟩⟩ := hcut
  cases kq with
  | zero => exact absurd HA.out (by simp [impl_nameOK.j0])
  | succ kj1 =>
   have H := HA.out
   clear HA
   simp only [impl_nameOK.j0] at H
   by_cases c8 : x17_1 = true
   ·subst c8
    have H1 : (some false) = some r := by rw [if_pos rfl] at H;exact H
    clear H
    have H := H1
    clear H1
    obtain rfl := Option.some.inj H
    go_wp2
    go_ret
    exact ⟨by first|rfl|(simp;done)|(simp [*];done), by repeat (first|exact Drawn0.refl _|apply Drawn0.step)⟩
   ·replace c8 := Bool.eq_false_iff.mpr c8
    subst c8
    have H1 : (impl_nameOK.l0 kj1 a0 0) = some r := by rw [if_neg (show ¬ (false = true) by decide)] at H;exact H
    clear H
    have H := H1
    clear H1
    have H' := Aside0.mk H
    clear H
    go_wp2
    go_loopg [3] kj1 (fun kq v3 w' => ∃ (x3_2 : Int), v3 = .int .i64 x3_2 ∧ Aside0 (impl_nameOK.l0 kq a0 x3_2 = some r) ∧ Aside0 (kq ≤ kj1) ∧ Drawn0 w w')
    case atStart => exact ⟨(0), (by first|rfl|(simp;done)|(simp [*];done)), H', ⟨Nat.le_refl _⟩, by repeat (first|exact Drawn0.refl _|apply Drawn0.step)⟩
    case round =>
     clear H'
     try clear c1
     try clear p2
     try clear c3
     try clear c3b0
     try clear c3b1
     try clear c4
     try clear c4b0
     try clear c4b1
     try clear c5
     try clear c5b0
     try clear c5b1
     try clear p6
     try clear q6
     try clear hx6
     try clear qi6
     try clear c8
     try clear p2
     try clear p6
     try clear q6
     obtain ⟨x3_2, rfl, HA, HK2, ⟨m2, rfl⟩⟩ := hrel
     cases gk with
     | zero => exact absurd HA.out (by simp [impl_nameOK.l0])
     | succ k2 =>
      have H := HA.out
      clear HA
      simp only [impl_nameOK.l0] at H
      by_cases c9 : x3_2 < (a0.size : Int)
      ·rw [if_pos c9] at H
       have c9b0 : decide (x3_2 < (a0.size : Int)) = true := decide_eq_true c9
       clear c9
       by_cases c10 : 0 ≤ x3_2
       ·rw [if_pos c10] at H
        have c10b0 : decide (0 ≤ x3_2) = true := decide_eq_true c10
        clear c10
        replace H := Option.bind_eq_some_iff.mp H
        obtain ⟨t102, A120, H⟩ := H
        replace H : (if t102 = true then (impl_nameOK.l0 k2 a0 (wrap64 (x3_2 + 1))) else (some false)) = some r := H
        have A12 := Aside0.mk A120
        clear A120
        by_cases c13 : t102 = true
        ·subst c13
         have H1 : (impl_nameOK.l0 k2 a0 (wrap64 (x3_2 + 1))) = some r := by rw [if_pos rfl] at H;exact H
         clear H
         have H := H1
         clear H1
         have H' := Aside0.mk H
         clear H
         have p11 : 0 ≤ (x3_2 : Int) := of_decide_eq_true (by first|(with_reducible assumption)|assumption)
         have q11 : x3_2 < (a0.size : Int) := of_decide_eq_true (by first|(with_reducible assumption)|assumption)
         have hx11 := bt_at a0 x3_2
         replace p11 := eq_true p11
         replace q11 := eq_true q11
         go_wp2_with (first|((with_reducible refine gate_callee (f := 139) rfl ?_);refine goesL_ (some 27) rfl rfl Try.func139 (by kernel_rfl) rfl #[.int .u8 (bt a0 x3_2)] rfl (by (try simp only [List.map_toArray, List.map_cons, List.map_nil]);first|done|rfl|(simp only [List.length_drop, List.length_take];rfl)) ?_;(with_reducible refine (impl_inName.calls (bt a0 x3_2) true _ A12.out).mono ?_);rintro e w' ⟨rfl, ⟨nd, rfl⟩⟩;refine ⟨_, rfl, ?_⟩))
         go_roundg k2
         case measure => have := HJ1.out;have := HK2.out;omega
         case rel => exact ⟨(wrap64 (x3_2 + 1)), (by first|rfl|(simp;done)|(simp [*];done)), H', ⟨by have := HJ1.out;have := HK2.out;omega⟩, by repeat (first|exact Drawn0.refl _|apply Drawn0.step)⟩
        ·replace c13 := Bool.eq_false_iff.mpr c13
         subst c13
         have H1 : (some false) = some r := by rw [if_neg (show ¬ (false = true) by decide)] at H;exact H
         clear H
         have H := H1
         clear H1
         obtain rfl := Option.some.inj H
         have p11 : 0 ≤ (x3_2 : Int) := of_decide_eq_true (by first|(with_reducible assumption)|assumption)
         have q11 : x3_2 < (a0.size : Int) := of_decide_eq_true (by first|(with_reducible assumption)|assumption)
         have hx11 := bt_at a0 x3_2
         replace p11 := eq_true p11
         replace q11 := eq_true q11
         go_wp2_with (first|((with_reducible refine gate_callee (f := 139) rfl ?_);refine goesL_ (some 27) rfl rfl Try.func139 (by kernel_rfl) rfl #[.int .u8 (bt a0 x3_2)] rfl (by (try simp only [List.map_toArray, List.map_cons, List.map_nil]);first|done|rfl|(simp only [List.length_drop, List.length_take];rfl)) ?_;(with_reducible refine (impl_inName.calls (bt a0 x3_2) false _ A12.out).mono ?_);rintro e w' ⟨rfl, ⟨nd, rfl⟩⟩;refine ⟨_, rfl, ?_⟩))
         go_ret
         exact ⟨by first|rfl|(simp;done)|(simp [*];done), by repeat (first|exact Drawn0.refl _|apply Drawn0.step)⟩
       ·rw [if_neg c10] at H
        exact absurd H (by simp)
      ·rw [if_neg c9] at H
       have c9b0 : decide (x3_2 < (a0.size : Int)) = false := decide_eq_false c9
       clear c9
       obtain rfl := Option.some.inj H
       go_wp2
       go_ret
       exact ⟨by first|rfl|(simp;done)|(simp [*];done), by repeat (first|exact Drawn0.refl _|apply Drawn0.step)⟩
end Go.Proofs.Ytgdecbliegelmaa.Q

namespace Go.Proofs.Ytgdecbliegelmaa.Q
open Go.RowKit Go.Proofs.YtgdecbliegelmaaW.PrintWords Go.Proofs.YtgdecbliegelmaaW.PrintLast Go.Proofs.YtgdecbliegelmaaW.PrintMore
attribute [local go_sem] max2_int min2_int max_two min_two max_three min_three max_four min_four   -- for this text's walks alone
set_option linter.unusedVariables false
set_option linter.unusedSimpArgs false
/-! ### impl_measure: function 109 -/
mutual
def impl_measure.l0 : Nat → List S53 → Int → Int → Int → Int → Option (Bool × Int × Int)
  | 0, _, _, _, _, _ => none
  | k + 1, l, d, i, n, dp => if i < (l.length : Int) then (if 0 ≤ i then ((impl_measure.f k (rd_T53 l i).f0 (rd_T53 l i).f1 (rd_T53 l i).f2 (rd_T53 l i).f3 (wrap64 (d + 1)) n dp).bind fun r => if r.1 = true then impl_measure.l0 k l d (wrap64 (i + 1)) r.2.1 r.2.2 else some (false, r.2.1, r.2.2)) else none) else some (true, n, dp)
def impl_measure.f : Nat → ByteArray → ByteArray → Bool → List S53 → Int → Int → Int → Option (Bool × Int × Int)
  | 0, _, _, _, _, _, _, _ => none
  | k + 1, nm, tx, lf, l, d, n, dp => if (wrap64 (n + 1)) > 1000 then some (false, wrap64 (n + 1), mx dp d) else (if d > 60 then some (false, wrap64 (n + 1), mx dp d) else ((impl_nameOK.f k nm).bind fun t => if t = true then (if lf = true then (if (l.length : Int) = 0 then some (decide ((tx.size : Int) ≤ 200), wrap64 (n + 1), mx dp d) else some (false, wrap64 (n + 1), mx dp d)) else (if tx.toList = [] then impl_measure.l0 k l d 0 (wrap64 (n + 1)) (mx dp d) else some (false, wrap64 (n + 1), mx dp d))) else some (false, wrap64 (n + 1), mx dp d)))
end
theorem impl_measure.mono_l : ∀ k, (∀ y0 y1 y2 y3 y4 y5 y6, LeO (impl_measure.f k y0 y1 y2 y3 y4 y5 y6) (impl_measure.f (k + 1) y0 y1 y2 y3 y4 y5 y6)) ∧ (∀ y0 y1 y2 y3 y4, LeO (impl_measure.l0 k y0 y1 y2 y3 y4) (impl_measure.l0 (k + 1) y0 y1 y2 y3 y4))
 | 0 => ⟨fun _ _ _ _ _ _ _ r h => by simp [impl_measure.f] at h, fun _ _ _ _ _ r h => by simp [impl_measure.l0] at h⟩
 | k + 1 => by
  obtain ⟨ih0, ih1⟩ := impl_measure.mono_l k
  refine ⟨?_, ?_⟩
  ·intro y0 y1 y2 y3 y4 y5 y6
   unfold impl_measure.f
   repeat' first
   | (with_reducible exact ih0 _ _ _ _ _ _ _)
   | (with_reducible exact ih1 _ _ _ _ _)
   | (with_reducible exact impl_nameOK.mono _ _)
   | (with_reducible exact LeO.refl _)
   | (with_reducible exact LeO.none _)
   | (with_reducible refine LeO.ite ?_ ?_)
   | (with_reducible refine LeO.bind ?_ (fun _ => ?_))
  ·intro y0 y1 y2 y3 y4
   unfold impl_measure.l0
   repeat' first
   | (with_reducible exact ih0 _ _ _ _ _ _ _)
   | (with_reducible exact ih1 _ _ _ _ _)
   | (with_reducible exact LeO.refl _)
   | (with_reducible exact LeO.none _)
   | (with_reducible refine LeO.ite ?_ ?_)
   | (with_reducible refine LeO.bind ?_ (fun _ => ?_))
theorem impl_measure.mono : ∀ a0 a1 a2 a3 a4 a5 a6 k, LeO (impl_measure.f k a0 a1 a2 a3 a4 a5 a6) (impl_measure.f (k + 1) a0 a1 a2 a3 a4 a5 a6) := by
 intro a0 a1 a2 a3 a4 a5 a6 k
 exact (impl_measure.mono_l k).1 a0 a1 a2 a3 a4 a5 a6
def S2 (a b : Nat) : Nat → Prop := fun k => k = a ∨ k = b
/-- What measure leaves: the two numbers, all else as it was. -/
def Meas (gp gq : Nat) (n dp : Int) (w w' : World) : Prop := w'.heap[gp]? = some (.cells #[.int .i64 n] 3 (0, 0)) ∧ w'.heap[gq]? = some (.cells #[.int .i64 dp] 3 (0, 0)) ∧ Below 0 w w' ∧ Kept w w' (S2 gp gq)
theorem meas_set {w : World} {gp gq : Nat} {n dp : Int} {o : Obj} (hp : w.heap[gp]? = some (.cells #[.int .i64 n] 3 (0, 0))) (hq : w.heap[gq]? = some (.cells #[.int .i64 dp] 3 (0, 0))) (hne : gp ≠ gq) (v1 v2 : Int) :
  Meas gp gq v1 v2 w (((w.setCell ⟨gp, 0, none⟩ (.int .i64 v1)).setCell ⟨gq, 0, none⟩ (.int .i64 v2)).alloc o) := by
 have hp1 := hp
 have hq1 := hq
 have hp2 := blk_put hp1 0 (.int .i64 v1) (cs' := #[.int .i64 v1]) rfl
 have hq2 := blk_far hq1 (p := ⟨gp, 0, none⟩) (fun e => hne e.symm) (.int .i64 v1)
 refine ⟨blk_alloc (blk_far hp2 (p := ⟨gq, 0, none⟩) hne _) o, blk_alloc (blk_put hq2 0 _ rfl) o, (((Below.refl 0 w).setCell (Nat.zero_le _) _).setCell (Nat.zero_le _) _).alloc (Nat.zero_le _) o, ?_⟩
 exact Kept.alloc (Kept.setCell (Kept.setCell (Kept.refl w _) (.inl (.inl rfl)) _) (.inl (.inr rfl)) _) o
theorem Meas.drewN {gp gq : Nat} {n dp : Int} {w w' : World} (h : Meas gp gq n dp w w') (m : Nat) : Meas gp gq n dp w (w'.drewN m) := ⟨h.1, h.2.1, pw_below_drewN h.2.2.1 m, h.2.2.2⟩
theorem Meas.then_ {gp gq : Nat} {n dp n1 dp1 : Int} {w w1 w' : World} (h : Meas gp gq n dp w w1) (h' : Meas gp gq n1 dp1 w1 w') : Meas gp gq n1 dp1 w w' :=
 ⟨h'.1, h'.2.1, h.2.2.1.trans h'.2.2.1, h.2.2.2.then_ h'.2.2.2 (fun _ hk => .inl hk)⟩
theorem Meas.below {gp gq : Nat} {n dp : Int} {w w1 w' : World} (h : Meas gp gq n dp w w1) (hb : Below w1.heap.size w1 w') : Meas gp gq n dp w w' :=
 ⟨blk_below h.1 hb, blk_below h.2.1 hb, h.2.2.1.trans (hb.mono (Nat.zero_le _)), h.2.2.2.below hb⟩
theorem at_F53 {w : World} {ok : Nat → Prop} {A : Option Addr} {n : Nat} {xs : List S53} (h : Kd.F k53 w ok A n xs) (i : Int) (h0 : 0 ≤ i) (h1 : i < n) : ∃ ad A3 c3, A = some ad ∧ w.cell? (ad.add (i.toNat * 4)) = some (.string (rd_T53 xs i).f0) ∧ w.cell? ⟨(ad.add (i.toNat * 4)).block, (ad.add (i.toNat * 4)).off + 1, none⟩ = some (.string (rd_T53 xs i).f1) ∧ w.cell? ⟨(ad.add (i.toNat * 4)).block, (ad.add (i.toNat * 4)).off + 2, none⟩ = some (.bool (rd_T53 xs i).f2) ∧ w.cell? ⟨(ad.add (i.toNat * 4)).block, (ad.add (i.toNat * 4)).off + 3, none⟩ = some (.slice A3 (rd_T53 xs i).f3.length c3) ∧ (rd_T53 xs i).f3.length ≤ c3 ∧ Kd.F k53 w ok A3 (rd_T53 xs i).f3.length (rd_T53 xs i).f3 := by
 obtain ⟨ad, c, e, _, hK, hc, _⟩ := Kd.F_get h z53 i h0 h1
 obtain ⟨A3, c3, rfl, l3, g3⟩ := k53_openF hK
 exact ⟨ad, A3, c3, e, hc 0 _ rfl, by rw [← add_field _ _ 1 (by omega)];exact hc 1 _ rfl, by rw [← add_field _ _ 2 (by omega)];exact hc 2 _ rfl, by rw [← add_field _ _ 3 (by omega)];exact hc 3 _ rfl, l3, g3⟩
set_option maxHeartbeats 4000000 in
set_option maxRecDepth 100000 in
theorem impl_measure.calls (k : Nat) : ∀ (nm tx : ByteArray) (lf : Bool) (A : Option Addr) (c : Nat) (l : List S53) (d : Int) (gp gq : Nat) (n dp : Int) (r : Bool) (n' dp' : Int) (w : World) (hr : Kd.F k53 w (fun k => ¬ S2 gp gq k) A l.length l) (hc : l.length ≤ c)
  (hp : w.heap[gp]? = some (.cells #[.int .i64 n] 3 (0, 0))) (hq : w.heap[gq]? = some (.cells #[.int .i64 dp] 3 (0, 0))) (hne : gp ≠ gq) (h : impl_measure.f k nm tx lf l d n dp = some (r, n', dp')),
  Calls Try.prog 109 #[.agg #[.string nm, .string tx, .bool lf, .slice A l.length c], .int .i64 d, .pointer (some ⟨gp, 0, none⟩), .pointer (some ⟨gq, 0, none⟩)] w fun e w' => e = .returned (.bool r) ∧ Meas gp gq n' dp' w w' := by
 induction k using Nat.strongRecOn with
 | _ k ih =>
 intro nm tx lf A c l d gp gq n dp r n' dp' w hr hc hp hq hne h
 cases k with
 | zero => exact absurd h (by simp [impl_measure.f])
 | succ k =>
 simp only [impl_measure.f] at h
 have hu53 := Try.underlying53
 have HR := Aside0.mk hr
 have HC := Aside0.mk hc
 have HP := Aside0.mk hp
 have HQ := Aside0.mk hq
 have hp0 : w.cell? ⟨gp, 0, none⟩ = some (.int .i64 n) := (blk_cell hp 0).trans rfl
 have hp1 := blk_frozen hp 0
 have hq0 : w.cell? ⟨gq, 0, none⟩ = some (.int .i64 dp) := (blk_cell hq 0).trans rfl
 have hq1 := blk_frozen hq 0
 have hlp := blk_lt hp
 have hlq := blk_lt hq
 have HM := Aside0.mk (fun o => meas_set (o := o) hp hq hne (wrap64 (n + 1)) (mx dp d))
 have hmx : (if dp < d then d else dp) = mx dp d := rfl
 clear hr hc hp hq
 by_cases c1 : wrap64 (n + 1) > 1000
 ·rw [if_pos c1] at h
  have c1b : decide (1000 < wrap64 (n + 1)) = true := decide_eq_true c1
  simp only [Option.some.injEq, Prod.mk.injEq] at h
  obtain ⟨rfl, rfl, rfl⟩ := h
  clear c1
  go_enter Try.func109, Try.ntmps109
  go_wp2
  go_ret
  exact ⟨rfl, HM.out _⟩
 rw [if_neg c1] at h
 have c1b : decide (1000 < wrap64 (n + 1)) = false := decide_eq_false c1
 clear c1
 by_cases c2 : d > 60
 ·rw [if_pos c2] at h
  have c2b : decide (60 < d) = true := decide_eq_true c2
  simp only [Option.some.injEq, Prod.mk.injEq] at h
  obtain ⟨rfl, rfl, rfl⟩ := h
  clear c2
  go_enter Try.func109, Try.ntmps109
  go_wp2
  go_ret
  exact ⟨rfl, HM.out _⟩
 rw [if_neg c2] at h
 have c2b : decide (60 < d) = false := decide_eq_false c2
 clear c2
 obtain ⟨t, ht, h⟩ := Option.bind_eq_some_iff.mp h
 have HT := Aside0.mk ht
 clear ht
 cases t with
 | false =>
  simp only [Bool.false_eq_true, if_false, Option.some.injEq, Prod.mk.injEq] at h
  obtain ⟨rfl, rfl, rfl⟩ := h
  go_enter Try.func109, Try.ntmps109
  go_wp2_with (first|(go_at_call 131;(with_reducible refine (impl_nameOK.calls k nm false _ HT.out).mono ?_);rintro e w' ⟨rfl, ⟨nd, rfl⟩⟩))
  go_ret
  exact ⟨rfl, (HM.out _).drewN _⟩
 | true =>
 simp only [if_true] at h
 cases lf with
 | true =>
  simp only [if_true] at h
  by_cases c3 : (l.length : Int) = 0
  ·rw [if_pos c3] at h
   have c3b : ((l.length : Int) == 0) = true := beq_iff_eq.mpr c3
   simp only [Option.some.injEq, Prod.mk.injEq] at h
   obtain ⟨rfl, rfl, rfl⟩ := h
   clear c3
   go_enter Try.func109, Try.ntmps109
   go_wp2_with (first|(go_at_call 131;(with_reducible refine (impl_nameOK.calls k nm true _ HT.out).mono ?_);rintro e w' ⟨rfl, ⟨nd, rfl⟩⟩))
   go_ret
   exact ⟨by first|rfl|simp, (HM.out _).drewN _⟩
  ·rw [if_neg c3] at h
   have c3b : ((l.length : Int) == 0) = false := beq_eq_false_iff_ne.mpr c3
   simp only [Option.some.injEq, Prod.mk.injEq] at h
   obtain ⟨rfl, rfl, rfl⟩ := h
   clear c3
   go_enter Try.func109, Try.ntmps109
   go_wp2_with (first|(go_at_call 131;(with_reducible refine (impl_nameOK.calls k nm true _ HT.out).mono ?_);rintro e w' ⟨rfl, ⟨nd, rfl⟩⟩))
   go_ret
   exact ⟨by first|rfl|simp, (HM.out _).drewN _⟩
 | false =>
 simp only [Bool.false_eq_true, if_false] at h
 by_cases c4 : tx.toList = []
 ·rw [if_pos c4] at h
  have c4b : tx.toList.isEmpty = true := by rw [c4];rfl
  clear c4
  have H' := Aside0.mk h
  clear h
  go_enter Try.func109, Try.ntmps109
  go_wp2_with (first|(go_at_call 131;(with_reducible refine (impl_nameOK.calls k nm true _ HT.out).mono ?_);rintro e w' ⟨rfl, ⟨nd, rfl⟩⟩))
  go_loopg [55] k (fun kq v55 w' => ∃ (i nn dd : Int), v55 = .int .i64 i ∧ Aside0 (impl_measure.l0 kq l d i nn dd = some (r, n', dp')) ∧ Aside0 (kq ≤ k) ∧ Aside0 (Meas gp gq nn dd w w'))
  case atStart => exact ⟨0, wrap64 (n + 1), mx dp d, rfl, H', ⟨Nat.le_refl _⟩, ⟨(HM.out _).drewN _⟩⟩
  case round =>
   clear H' HM hmx hp0 hp1 hq0 hq1 hlp hlq HP HQ
   obtain ⟨i, nn, dd, rfl, HA, HK1, HME⟩ := hrel
   cases gk with
   | zero => exact absurd HA.out (by simp [impl_measure.l0])
   | succ k1 =>
    have H := HA.out
    clear HA
    simp only [impl_measure.l0] at H
    by_cases c5 : i < (l.length : Int)
    ·rw [if_pos c5] at H
     have c5b : decide (i < (l.length : Int)) = true := decide_eq_true c5
     by_cases c6 : 0 ≤ i
     ·rw [if_pos c6] at H
      have c6b : decide (0 ≤ i) = true := decide_eq_true c6
      obtain ⟨⟨t, n1, d1⟩, ht, H⟩ := Option.bind_eq_some_iff.mp H
      have HT2 := Aside0.mk ht
      clear ht
      obtain ⟨ad, A3, c3, e, hx0, hx1, hx2, hx3, hl3, hi3⟩ := at_F53 (Kd.F_kept HR.out HME.out.2.2.2 (fun _ h => h)) i c6 c5
      cases e
      have HF3 := Aside0.mk hi3
      have HC3 := Aside0.mk hl3
      clear hi3 hl3
      cases t with
      | false =>
       simp only [Bool.false_eq_true, if_false, Option.some.injEq, Prod.mk.injEq] at H
       obtain ⟨rfl, rfl, rfl⟩ := H
       go_wp2_with (first|(go_at_call 109;(with_reducible refine (ih k1 (by have := HK1.out;omega) _ _ _ _ _ _ _ gp gq nn dd false n1 d1 _ ?side1 HC3.out ?side2 ?side3 hne HT2.out).mono ?_);(case side1 => exact Kd.F_below HF3.out (by repeat (first|exact Below.refl _ _|apply below_alloc|refine Below.setCell ?_ (Nat.le_refl _) _)));(case side2 => exact blk_below HME.out.1 (by repeat (first|exact Below.refl _ _|apply below_alloc|refine Below.setCell ?_ (Nat.le_refl _) _)));(case side3 => exact blk_below HME.out.2.1 (by repeat (first|exact Below.refl _ _|apply below_alloc|refine Below.setCell ?_ (Nat.le_refl _) _)));rintro e w2 ⟨rfl, hm⟩;have hm2 := Aside0.mk ((HME.out.below (by repeat (first|exact Below.refl _ _|apply below_alloc|refine Below.setCell ?_ (Nat.le_refl _) _))).then_ hm);clear hm))
       go_ret
       exact ⟨rfl, hm2.out⟩
      | true =>
       simp only [if_true] at H
       have H' := Aside0.mk H
       clear H
       go_wp2_with (first|(go_at_call 109;(with_reducible refine (ih k1 (by have := HK1.out;omega) _ _ _ _ _ _ _ gp gq nn dd true n1 d1 _ ?side1 HC3.out ?side2 ?side3 hne HT2.out).mono ?_);(case side1 => exact Kd.F_below HF3.out (by repeat (first|exact Below.refl _ _|apply below_alloc|refine Below.setCell ?_ (Nat.le_refl _) _)));(case side2 => exact blk_below HME.out.1 (by repeat (first|exact Below.refl _ _|apply below_alloc|refine Below.setCell ?_ (Nat.le_refl _) _)));(case side3 => exact blk_below HME.out.2.1 (by repeat (first|exact Below.refl _ _|apply below_alloc|refine Below.setCell ?_ (Nat.le_refl _) _)));rintro e w2 ⟨rfl, hm⟩;have hm2 := Aside0.mk ((HME.out.below (by repeat (first|exact Below.refl _ _|apply below_alloc|refine Below.setCell ?_ (Nat.le_refl _) _))).then_ hm);clear hm))
       go_roundg k1
       case measure => have := HK1.out;omega
       case rel => exact ⟨wrap64 (i + 1), n1, d1, rfl, H', ⟨by have := HK1.out;omega⟩, hm2⟩
     ·rw [if_neg c6] at H
      exact absurd H (by simp)
    ·rw [if_neg c5] at H
     have c5b : decide (i < (l.length : Int)) = false := decide_eq_false c5
     simp only [Option.some.injEq, Prod.mk.injEq] at H
     obtain ⟨rfl, rfl, rfl⟩ := H
     clear c5
     go_wp2
     go_ret
     exact ⟨rfl, HME.out⟩
 ·rw [if_neg c4] at h
  have c4b : tx.toList.isEmpty = false := by cases hx : tx.toList with|nil => exact absurd hx c4|cons a b => rfl
  simp only [Option.some.injEq, Prod.mk.injEq] at h
  obtain ⟨rfl, rfl, rfl⟩ := h
  clear c4
  go_enter Try.func109, Try.ntmps109
  go_wp2_with (first|(go_at_call 131;(with_reducible refine (impl_nameOK.calls k nm true _ HT.out).mono ?_);rintro e w' ⟨rfl, ⟨nd, rfl⟩⟩))
  go_ret
  exact ⟨rfl, (HM.out _).drewN _⟩
end Go.Proofs.Ytgdecbliegelmaa.Q

namespace Go.Proofs.Ytgdecbliegelmaa.Q
open Go.RowKit Go.Proofs.YtgdecbliegelmaaW.PrintWords Go.Proofs.YtgdecbliegelmaaW.PrintLast Go.Proofs.YtgdecbliegelmaaW.PrintMore
attribute [local go_sem] max2_int min2_int max_two min_two max_three min_three max_four min_four   -- for this text's walks alone
set_option linter.unusedVariables false
set_option linter.unusedSimpArgs false
/-! ### impl_TreeOK: function 76 -/
theorem meas_below {gp gq : Nat} {n dp : Int} {w W w' : World} (hb : Below w.heap.size w W) (hg : w.heap.size ≤ gp) (hq : w.heap.size ≤ gq) (hm : Meas gp gq n dp W w') : Below w.heap.size w w' :=
 ⟨hm.2.2.1.os.trans hb.os, hm.2.2.1.tape.trans hb.tape, hm.2.2.1.output.trans hb.output, Nat.le_trans hb.size hm.2.2.1.size, fun k hk => (hm.2.2.2.2 k (Nat.lt_of_lt_of_le hk hb.size) (fun h => by rcases h with h|h <;> omega)).trans (hb.block k hk)⟩
theorem new1_ (w : World) (o o1 o2 : Obj) : (((w.alloc o).alloc o1).alloc o2).heap[w.heap.size + 1]? = some o1 := by
 refine blk_alloc ?_ o2
 have h := blk_new (w.alloc o) o1
 simpa using h
theorem new2_ (w : World) (o o1 o2 : Obj) : (((w.alloc o).alloc o1).alloc o2).heap[w.heap.size + 2]? = some o2 := by
 have h := blk_new ((w.alloc o).alloc o1) o2
 simpa using h
def impl_TreeOK.f (k : Nat) (a0_0 : ByteArray) (a0_1 : ByteArray) (a0_2 : Bool) (l0_3 : List (S53)) : Option (Bool) := (impl_measure.f k a0_0 a0_1 a0_2 l0_3 1 0 0).bind fun b => some b.1
theorem impl_TreeOK.mono : ∀ a0 a1 a2 a3 k, LeO (impl_TreeOK.f k a0 a1 a2 a3) (impl_TreeOK.f (k + 1) a0 a1 a2 a3) := by
 intro a0 a1 a2 a3 k
 unfold impl_TreeOK.f
 exact LeO.bind (impl_measure.mono _ _ _ _ _ _ _ _) (fun _ => LeO.refl _)
set_option maxHeartbeats 1000000 in
set_option maxRecDepth 100000 in
theorem impl_TreeOK.calls (k : Nat) (a0_0 : ByteArray) (a0_1 : ByteArray) (a0_2 : Bool) (A0_3 : Option Addr) (c0_3 : Nat) (l0_3 : List (S53)) (r : Bool) (w : World) (hr0_3 : Kd.C k53 w A0_3 l0_3.length l0_3) (hc0_3 : l0_3.length ≤ c0_3) (h : impl_TreeOK.f k a0_0 a0_1 a0_2 l0_3 = some r) :
  Calls Try.prog 76 #[.agg #[.string a0_0, .string a0_1, .bool a0_2, .slice A0_3 l0_3.length c0_3]] w fun e w' => e = .returned (.bool r) ∧ Below w.heap.size w w' := by
 unfold impl_TreeOK.f at h
 obtain ⟨⟨r, n1, d1⟩, ht, h⟩ := Option.bind_eq_some_iff.mp h
 obtain rfl := Option.some.inj h
 have hu53 := Try.underlying53
 have HF : Aside0 (Kd.F k53 w (fun k => k < w.heap.size) A0_3 l0_3.length l0_3) := ⟨fun W' hW => k53_heap.C (fun k hlt => hW k hlt hlt) hr0_3⟩
 have HC := Aside0.mk hc0_3
 have HT := Aside0.mk ht
 clear hr0_3 hc0_3 ht h
 go_enter Try.func76, Try.ntmps76
 go_wp2_with (first|(go_at_call 109;(refine (impl_measure.calls k _ _ _ _ _ _ _ (w.heap.size + 1) (w.heap.size + 2) 0 0 r n1 d1 _ ?side1 HC.out ?side2 ?side3 (by omega) HT.out).mono ?_);(case side1 => exact Kd.F_mono (Kd.F_below HF.out (by repeat (first|exact Below.refl _ _|apply below_alloc))) (fun k hk h2 => by rcases h2 with h2|h2 <;> omega));(case side2 => exact new1_ _ _ _ _);(case side3 => exact new2_ _ _ _ _);rintro e w2 ⟨rfl, hm⟩;have hm2 := Aside0.mk (meas_below (by repeat (first|exact Below.refl _ _|apply below_alloc)) (Nat.le_add_right _ _) (Nat.le_add_right _ _) hm);clear hm))
 go_ret
 exact ⟨rfl, hm2.out⟩
end Go.Proofs.Ytgdecbliegelmaa.Q

/- Right trees, plainly: the spec's count and the program's count agree; what both draw. -/
namespace Go.Proofs.Ytgdecbliegelmaa.Q
open Go.RowKit Go.Proofs.YtgdecbliegelmaaW.PrintWords
set_option linter.unusedVariables false
def letB (c : Int) : Bool := if c ≥ 97 then (if c ≤ 122 then true else decide (c ≥ 65 ∧ c ≤ 90)) else decide (c ≥ 65 ∧ c ≤ 90)
def nmB (c : Int) : Bool := letB c || decide (c ≥ 48 ∧ c ≤ 57) || (c == 95)
theorem letter_s (c : Int) : spec_l01Letter.f c = some (letB c) := by
 unfold spec_l01Letter.f letB
 repeat' split
 all_goals simp <;> omega
theorem letter_i (c : Int) : impl_isLetter.f c = some (letB c) := by
 unfold impl_isLetter.f letB
 repeat' split
 all_goals simp <;> omega
theorem nm_s (c : Int) : spec_l01NameByte.f c = some (nmB c) := by
 unfold spec_l01NameByte.f nmB spec_l01Digit.f
 rw [letter_s]
 cases h : letB c
 ·by_cases h1 : c ≥ 48 <;> by_cases h2 : c ≤ 57 <;> simp [h1, h2]
 ·simp
theorem nm_i (c : Int) : impl_inName.f c = some (nmB c) := by
 unfold impl_inName.f nmB impl_isDigit.f
 rw [letter_i]
 cases h : letB c
 ·by_cases h1 : c ≥ 48 <;> by_cases h2 : c ≤ 57 <;> simp [h1, h2]
 ·simp
def nmL (s : ByteArray) (i : Nat) : Bool := ((bytesOf s).drop i).all nmB
theorem bytesOf_at (s : ByteArray) (i : Nat) (h : i < (bytesOf s).length) : (bytesOf s)[i] = bt s i := by
 have := rd_bytesOf s (i : Int)
 rw [← this]
 simp [rd, List.getD_eq_getElem?_getD, List.getElem?_eq_getElem h]
theorem nmL_step (s : ByteArray) (i : Nat) (h : i < s.size) : nmL s i = (nmB (bt s i) && nmL s (i + 1)) := by
 unfold nmL
 have h' : i < (bytesOf s).length := by rw [bytesOf_length];exact h
 rw [List.drop_eq_getElem_cons h', List.all_cons, bytesOf_at]
theorem nmL_end (s : ByteArray) (i : Nat) (h : s.size ≤ i) : nmL s i = true := by
 unfold nmL
 rw [List.drop_eq_nil_of_le (by rw [bytesOf_length];exact h)]
 rfl
def NmB (s : ByteArray) : Bool := decide (1 ≤ s.size ∧ s.size ≤ 24) && (letB (bt s 0) && nmL s 0)
theorem name_ls (s : ByteArray) (hs : s.size ≤ 24) : ∀ d i, i + d = s.size → Ev (fun k => spec_l01Name.l0 k s (i : Int)) (nmL s i) := by
 intro d
 induction d with
 | zero =>
  intro i hi
  rw [nmL_end s i (by omega)]
  refine Ev.step (fun k => by rw [spec_l01Name.l0]) ?_
  refine Ev.neg (by omega) ?_
  exact Ev.now _
 | succ d ih =>
  intro i hi
  rw [nmL_step s i (by omega)]
  refine Ev.step (fun k => by rw [spec_l01Name.l0]) ?_
  refine Ev.pos (by omega) ?_
  refine Ev.pos (by omega) ?_
  simp only [nm_s, Option.bind_some]
  cases h : nmB (bt s i)
  ·exact Ev.neg (by simp) (Ev.now _)
  ·refine Ev.pos rfl ?_
   rw [pt_wrap (x := (i : Int) + 1) (by omega) (by omega), Bool.true_and]
   exact ih (i + 1) (by omega)
theorem name_li (s : ByteArray) (hs : s.size ≤ 24) : ∀ d i, i + d = s.size → Ev (fun k => impl_nameOK.l0 k s (i : Int)) (nmL s i) := by
 intro d
 induction d with
 | zero =>
  intro i hi
  rw [nmL_end s i (by omega)]
  refine Ev.step (fun k => by rw [impl_nameOK.l0]) ?_
  refine Ev.neg (by omega) ?_
  exact Ev.now _
 | succ d ih =>
  intro i hi
  rw [nmL_step s i (by omega)]
  refine Ev.step (fun k => by rw [impl_nameOK.l0]) ?_
  refine Ev.pos (by omega) ?_
  refine Ev.pos (by omega) ?_
  simp only [nm_i, Option.bind_some]
  cases h : nmB (bt s i)
  ·exact Ev.neg (by simp) (Ev.now _)
  ·refine Ev.pos rfl ?_
   rw [pt_wrap (x := (i : Int) + 1) (by omega) (by omega), Bool.true_and]
   exact ih (i + 1) (by omega)
theorem name_s (s : ByteArray) : Ev (fun k => spec_l01Name.f k s) (NmB s) := by
 unfold NmB
 unfold spec_l01Name.f
 by_cases h1 : (s.size : Int) < 1
 ·refine Ev.pos h1 ?_
  rw [decide_eq_false (by omega)]
  refine Ev.step (fun k => by rw [spec_l01Name.j0]) ?_
  exact Ev.pos rfl (Ev.now _)
 refine Ev.neg h1 ?_
 by_cases h2 : (s.size : Int) > 24
 ·refine Ev.pos h2 ?_
  rw [decide_eq_false (by omega)]
  refine Ev.step (fun k => by rw [spec_l01Name.j0]) ?_
  exact Ev.pos rfl (Ev.now _)
 refine Ev.neg h2 ?_
 refine Ev.pos (by omega) ?_
 rw [decide_eq_true (by omega)]
 simp only [letter_s, Option.bind_some, Bool.true_and]
 refine Ev.step (fun k => by rw [spec_l01Name.j0]) ?_
 have h0 : nmL s 0 = (nmB (bt s 0) && nmL s 1) := nmL_step s 0 (by omega)
 cases h : letB (bt s 0)
 ·exact Ev.pos rfl (Ev.now _)
 ·refine Ev.neg (by simp) ?_
  have h3 : nmB (bt s 0) = true := by simp [nmB, h]
  rw [h0, h3, Bool.true_and, Bool.true_and]
  exact name_ls s (by omega) (s.size - 1) 1 (by omega)
theorem name_i (s : ByteArray) : Ev (fun k => impl_nameOK.f k s) (NmB s) := by
 unfold NmB
 unfold impl_nameOK.f
 by_cases h1 : (s.size : Int) < 1
 ·refine Ev.pos h1 ?_
  rw [decide_eq_false (by omega)]
  refine Ev.step (fun k => by rw [impl_nameOK.j0]) ?_
  exact Ev.pos rfl (Ev.now _)
 refine Ev.neg h1 ?_
 by_cases h2 : (s.size : Int) > 24
 ·refine Ev.pos h2 ?_
  rw [decide_eq_false (by omega)]
  refine Ev.step (fun k => by rw [impl_nameOK.j0]) ?_
  exact Ev.pos rfl (Ev.now _)
 refine Ev.neg h2 ?_
 refine Ev.pos (by omega) ?_
 rw [decide_eq_true (by omega)]
 simp only [letter_i, Option.bind_some, Bool.true_and]
 refine Ev.step (fun k => by rw [impl_nameOK.j0]) ?_
 cases h : letB (bt s 0)
 ·exact Ev.pos rfl (Ev.now _)
 ·refine Ev.neg (by simp) ?_
  rw [Bool.true_and]
  exact name_li s (by omega) s.size 0 (by omega)
/-- A right tree: names, texts and kids. -/
def Rt : S53 → Bool
  | ⟨a, b, c, l⟩ => NmB a && ((if c = true then decide (l.length = 0 ∧ b.size ≤ 200) else decide (b.toList = [])) && l.attach.all fun x => Rt x.1)
termination_by t => SizeOf.sizeOf t
decreasing_by
  have := List.sizeOf_lt_of_mem x.2
  simp
  omega
theorem Rt_eq (t : S53) : Rt t = (NmB t.f0 && ((if t.f2 = true then decide (t.f3.length = 0 ∧ t.f1.size ≤ 200) else decide (t.f1.toList = [])) && t.f3.all Rt)) := by
 obtain ⟨a, b, c, l⟩ := t
 unfold Rt
 simp only [List.all_subtype, List.unattach_attach]
def Nn : S53 → Nat
  | ⟨a, b, c, l⟩ => 1 + (l.attach.map fun x => Nn x.1).sum
termination_by t => SizeOf.sizeOf t
decreasing_by
  have := List.sizeOf_lt_of_mem x.2
  simp
  omega
theorem Nn_eq (t : S53) : Nn t = 1 + (t.f3.map Nn).sum := by
 obtain ⟨a, b, c, l⟩ := t
 unfold Nn
 rw [List.attach_map_val]
def mxL (l : List Nat) : Nat := l.foldr max 0
def Dd : S53 → Nat
  | ⟨a, b, c, l⟩ => 1 + mxL (l.attach.map fun x => Dd x.1)
termination_by t => SizeOf.sizeOf t
decreasing_by
  have := List.sizeOf_lt_of_mem x.2
  simp
  omega
theorem Dd_eq (t : S53) : Dd t = 1 + mxL (t.f3.map Dd) := by
 obtain ⟨a, b, c, l⟩ := t
 unfold Dd
 rw [List.attach_map_val]
theorem mx_drop_cons {α : Type} (f : α → Nat) (l : List α) (i : Nat) (h : i < l.length) : mxL ((l.drop i).map f) = max (f l[i]) (mxL ((l.drop (i + 1)).map f)) := by
 rw [List.drop_eq_getElem_cons h, List.map_cons]
 rfl
theorem all_drop_cons {α : Type} (f : α → Bool) (l : List α) (i : Nat) (h : i < l.length) : (l.drop i).all f = (f l[i] && (l.drop (i + 1)).all f) := by
 rw [List.drop_eq_getElem_cons h, List.all_cons]
theorem right_s (t : S53) (ht : FitI t) : Ev (fun k => spec_l01Right.f k t.f0 t.f1 t.f2 t.f3) (Rt t) := by
 induction t using ind53 with
 | h t ih =>
 obtain ⟨b3, bk⟩ := ht.inv
 have loop : ∀ d i, i + d = t.f3.length → Ev (fun k => spec_l01Right.l0 k (i : Int) t.f0 t.f1 t.f2 t.f3) ((t.f3.drop i).all Rt) := by
  intro d
  induction d with
  | zero =>
   intro i hi
   rw [List.drop_eq_nil_of_le (by omega)]
   refine Ev.step (fun k => by rw [spec_l01Right.l0]) ?_
   refine Ev.neg (by omega) ?_
   exact Ev.now _
  | succ d ihd =>
   intro i hi
   have hlt : i < t.f3.length := by omega
   have hk := ih t.f3[i] (List.getElem_mem hlt) (bk _ (List.getElem_mem hlt))
   rw [all_drop_cons _ _ _ hlt]
   refine Ev.step (fun k => by rw [spec_l01Right.l0]) ?_
   refine Ev.pos (by omega) ?_
   refine Ev.pos (by omega) ?_
   rw [rd53 _ _ hlt]
   refine Ev.bind hk ?_
   cases h : Rt t.f3[i]
   ·exact Ev.neg (by simp) (Ev.now _)
   ·refine Ev.pos rfl ?_
    rw [pt_wrap (x := (i : Int) + 1) (by omega) (by omega), Bool.true_and]
    exact ihd (i + 1) (by omega)
 have hl := loop t.f3.length 0 (by omega)
 rw [Rt_eq]
 refine Ev.step (fun k => by rw [spec_l01Right.f]) ?_
 refine Ev.bind (name_s t.f0) ?_
 cases hn : NmB t.f0
 ·refine Ev.neg (by simp) ?_
  refine Ev.step (fun k => by rw [spec_l01Right.j0]) ?_
  exact Ev.pos rfl (Ev.now _)
 refine Ev.pos rfl ?_
 rw [Bool.true_and]
 by_cases hc : t.f2 = true
 ·refine Ev.pos hc ?_
  rw [if_pos hc]
  by_cases h1 : (t.f3.length : Int) > 0
  ·refine Ev.pos h1 ?_
   rw [decide_eq_false (by omega)]
   refine Ev.step (fun k => by rw [spec_l01Right.j0]) ?_
   exact Ev.pos rfl (Ev.now _)
  refine Ev.neg h1 ?_
  by_cases h2 : (t.f1.size : Int) > 200
  ·refine Ev.pos h2 ?_
   rw [decide_eq_false (by omega)]
   refine Ev.step (fun k => by rw [spec_l01Right.j0]) ?_
   exact Ev.pos rfl (Ev.now _)
  refine Ev.neg h2 ?_
  rw [decide_eq_true (by omega), Bool.true_and]
  refine Ev.step (fun k => by rw [spec_l01Right.j0]) ?_
  refine Ev.neg (by simp) ?_
  exact hl
 ·refine Ev.neg hc ?_
  rw [if_neg hc]
  refine Ev.step (fun k => by rw [spec_l01Right.j0]) ?_
  by_cases h1 : t.f1.toList = []
  ·rw [decide_eq_true h1, Bool.true_and]
   refine Ev.neg (by simp [h1]) ?_
   exact hl
  ·rw [decide_eq_false h1]
   refine Ev.pos (by simpa using h1) ?_
   exact Ev.now _
theorem room_s (t : S53) : ∀ left deep : Int, 0 ≤ left → left ≤ 1000 → 0 ≤ deep → deep ≤ 60 → ∃ r, Ev (fun k => spec_l01Room.f k t.f0 t.f1 t.f2 t.f3 left deep) r ∧ -1 ≤ r ∧ (0 ≤ r ↔ ((Nn t : Int) ≤ left ∧ (Dd t : Int) ≤ deep)) ∧ (0 ≤ r → r = left - Nn t) := by
 induction t using ind53 with
 | h t ih =>
 intro left deep h0 h1 h2 h3
 rw [Nn_eq, Dd_eq]
 by_cases hd : deep < 1
 ·refine ⟨-1, ?_, by omega, by omega, by omega⟩
  refine Ev.step (fun k => by rw [spec_l01Room.f]) ?_
  exact Ev.pos hd (Ev.now _)
 have loop : ∀ d i (lf : Int), i + d = t.f3.length → i + lf ≤ 1000 → -1 ≤ lf → ∃ r, Ev (fun k => spec_l01Room.l0 k lf deep (i : Int) t.f0 t.f1 t.f2 t.f3) r ∧ -1 ≤ r ∧ (0 ≤ r ↔ ((((t.f3.drop i).map Nn).sum : Nat) : Int) ≤ lf ∧ ((mxL ((t.f3.drop i).map Dd) : Nat) : Int) ≤ deep - 1) ∧ (0 ≤ r → r = lf - (((t.f3.drop i).map Nn).sum : Nat)) := by
  intro d
  induction d with
  | zero =>
   intro i lf hi hl hl0
   rw [List.drop_eq_nil_of_le (by omega)]
   refine ⟨lf, ?_, hl0, ?_, ?_⟩
   ·refine Ev.step (fun k => by rw [spec_l01Room.l0]) ?_
    refine Ev.neg (by omega) ?_
    exact Ev.now _
   ·simp [mxL]
    omega
   ·simp
  | succ d ihd =>
   intro i lf hi hl hl0
   have hlt : i < t.f3.length := by omega
   by_cases hn : 0 ≤ lf
   ·obtain ⟨r1, e1, g1, q1, s1⟩ := ih t.f3[i] (List.getElem_mem hlt) lf (deep - 1) hn (by omega) (by omega) (by omega)
    have hN : 1 ≤ Nn t.f3[i] := by rw [Nn_eq];omega
    rw [mx_drop_cons _ _ _ hlt, sum_drop_cons _ _ _ hlt]
    obtain ⟨r, e2, g2, q2, s2⟩ := ihd (i + 1) r1 (by omega) (by omega) g1
    refine ⟨r, ?_, g2, ?_, ?_⟩
    ·refine Ev.step (fun k => by rw [spec_l01Room.l0]) ?_
     refine Ev.pos (by omega) ?_
     refine Ev.pos (by omega) ?_
     refine Ev.pos (by omega) ?_
     rw [rd53 _ _ hlt, pt_wrap (x := deep - 1) (by omega) (by omega)]
     refine Ev.bind e1 ?_
     rw [pt_wrap (x := (i : Int) + 1) (by omega) (by omega)]
     exact e2
    ·omega
    ·omega
   ·refine ⟨lf, ?_, hl0, ?_, ?_⟩
    ·refine Ev.step (fun k => by rw [spec_l01Room.l0]) ?_
     refine Ev.pos (by omega) ?_
     refine Ev.neg (by omega) ?_
     exact Ev.now _
    ·omega
    ·omega
 obtain ⟨r, e, g, q, s⟩ := loop t.f3.length 0 (left - 1) (by omega) (by omega) (by omega)
 rw [List.drop_zero] at q s
 refine ⟨r, ?_, g, by omega, by omega⟩
 refine Ev.step (fun k => by rw [spec_l01Room.f]) ?_
 refine Ev.neg hd ?_
 rw [pt_wrap (x := left - 1) (by omega) (by omega)]
 exact e
def OKT (t : S53) : Bool := decide (Nn t ≤ 1000 ∧ Dd t ≤ 60) && Rt t
theorem ok_s (t : S53) (ht : FitI t) : Ev (fun k => spec_TreeOK.f k t.f0 t.f1 t.f2 t.f3) (OKT t) := by
 obtain ⟨r, e, g, q, s⟩ := room_s t 1000 60 (by omega) (by omega) (by omega) (by omega)
 unfold spec_TreeOK.f OKT
 refine Ev.bind e ?_
 by_cases h : r ≥ 0
 ·refine Ev.pos h ?_
  rw [decide_eq_true (by omega), Bool.true_and]
  exact Ev.bind (right_s t ht) (Ev.now _)
 ·refine Ev.neg h ?_
  rw [decide_eq_false (by omega)]
  exact Ev.now _
theorem mea_i (t : S53) (ht : FitI t) : ∀ d n dp : Int, 1 ≤ d → d ≤ 61 → 0 ≤ n → n ≤ 1000 → ∃ b n' dp', Ev (fun k => impl_measure.f k t.f0 t.f1 t.f2 t.f3 d n dp) (b, n', dp') ∧ (b = true ↔ (Rt t = true ∧ n + Nn t ≤ 1000 ∧ d + Dd t ≤ 61)) ∧ (b = true → n' = n + Nn t) := by
 induction t using ind53 with
 | h t ih =>
 obtain ⟨b3, bk⟩ := ht.inv
 intro d n dp h0 h1 h2 h3
 rw [Nn_eq, Dd_eq, Rt_eq]
 have loop : ∀ c i (n dp : Int), d ≤ 60 → i + c = t.f3.length → 0 ≤ n → n ≤ 1000 → ∃ b n' dp', Ev (fun k => impl_measure.l0 k t.f3 d (i : Int) n dp) (b, n', dp') ∧ (b = true ↔ ((t.f3.drop i).all Rt = true ∧ n + (((t.f3.drop i).map Nn).sum : Nat) ≤ 1000 ∧ d + 1 + (mxL ((t.f3.drop i).map Dd) : Nat) ≤ 61)) ∧ (b = true → n' = n + (((t.f3.drop i).map Nn).sum : Nat)) := by
  intro c
  induction c with
  | zero =>
   intro i n dp hd hi hn0 hn1
   rw [List.drop_eq_nil_of_le (by omega)]
   refine ⟨true, n, dp, ?_, ?_, ?_⟩
   ·refine Ev.step (fun k => by rw [impl_measure.l0]) ?_
    refine Ev.neg (by omega) ?_
    exact Ev.now _
   ·simp [mxL]
    omega
   ·simp
  | succ c ihd =>
   intro i n dp hd hi hn0 hn1
   have hlt : i < t.f3.length := by omega
   obtain ⟨b1, n1, dp1, e1, q1, s1⟩ := ih t.f3[i] (List.getElem_mem hlt) (bk _ (List.getElem_mem hlt)) (d + 1) n dp (by omega) (by omega) hn0 hn1
   rw [mx_drop_cons _ _ _ hlt, sum_drop_cons _ _ _ hlt, all_drop_cons _ _ _ hlt, Bool.and_eq_true]
   cases b1 with
   | false =>
    refine ⟨false, n1, dp1, ?_, ?_, by simp⟩
    ·refine Ev.step (fun k => by rw [impl_measure.l0]) ?_
     refine Ev.pos (by omega) ?_
     refine Ev.pos (by omega) ?_
     rw [rd53 _ _ hlt, pt_wrap (x := d + 1) (by omega) (by omega)]
     refine Ev.bind e1 ?_
     exact Ev.neg (by simp) (Ev.now _)
    ·refine ⟨fun h => Bool.noConfusion h, fun h => ?_⟩
     exact q1.2 ⟨h.1.1, by omega, by omega⟩
   | true =>
    have q1' := q1.1 rfl
    have s1' := s1 rfl
    obtain ⟨b, n', dp', e2, q2, s2⟩ := ihd (i + 1) n1 dp1 hd (by omega) (by omega) (by omega)
    refine ⟨b, n', dp', ?_, ?_, ?_⟩
    ·refine Ev.step (fun k => by rw [impl_measure.l0]) ?_
     refine Ev.pos (by omega) ?_
     refine Ev.pos (by omega) ?_
     rw [rd53 _ _ hlt, pt_wrap (x := d + 1) (by omega) (by omega)]
     refine Ev.bind e1 ?_
     refine Ev.pos rfl ?_
     rw [pt_wrap (x := (i : Int) + 1) (by omega) (by omega)]
     exact e2
    ·rw [q2]
     refine ⟨fun h => ⟨⟨q1'.1, h.1⟩, by omega, by omega⟩, fun h => ⟨h.1.2, by omega, by omega⟩⟩
    ·intro h
     have := s2 h
     omega
 have w1 : wrap64 (n + 1) = n + 1 := pt_wrap (by omega) (by omega)
 by_cases c1 : n + 1 > 1000
 ·refine ⟨false, n + 1, mx dp d, ?_, ?_, by simp⟩
  ·refine Ev.step (fun k => by rw [impl_measure.f, w1]) ?_
   exact Ev.pos c1 (Ev.now _)
  ·refine ⟨fun h => (Bool.noConfusion h), fun h => by omega⟩
 by_cases c2 : d > 60
 ·refine ⟨false, n + 1, mx dp d, ?_, ?_, by simp⟩
  ·refine Ev.step (fun k => by rw [impl_measure.f, w1]) ?_
   refine Ev.neg c1 ?_
   exact Ev.pos c2 (Ev.now _)
  ·refine ⟨fun h => (Bool.noConfusion h), fun h => by omega⟩
 cases c3 : NmB t.f0 with
 | false =>
  refine ⟨false, n + 1, mx dp d, ?_, by simp, by simp⟩
  refine Ev.step (fun k => by rw [impl_measure.f, w1]) ?_
  refine Ev.neg c1 ?_
  refine Ev.neg c2 ?_
  refine Ev.bind (name_i t.f0) ?_
  rw [c3]
  exact Ev.neg (by simp) (Ev.now _)
 | true =>
 by_cases c4 : t.f2 = true
 ·rw [if_pos c4, Bool.true_and]
  by_cases c5 : (t.f3.length : Int) = 0
  ·have hnil : t.f3 = [] := List.eq_nil_of_length_eq_zero (by omega)
   refine ⟨decide ((t.f1.size : Int) ≤ 200), n + 1, mx dp d, ?_, ?_, ?_⟩
   ·refine Ev.step (fun k => by rw [impl_measure.f, w1]) ?_
    refine Ev.neg c1 ?_
    refine Ev.neg c2 ?_
    refine Ev.bind (name_i t.f0) ?_
    rw [c3]
    refine Ev.pos rfl ?_
    refine Ev.pos c4 ?_
    exact Ev.pos c5 (Ev.now _)
   ·rw [hnil]
    simp [mxL]
    omega
   ·rw [hnil]
    simp
  ·refine ⟨false, n + 1, mx dp d, ?_, ?_, by simp⟩
   ·refine Ev.step (fun k => by rw [impl_measure.f, w1]) ?_
    refine Ev.neg c1 ?_
    refine Ev.neg c2 ?_
    refine Ev.bind (name_i t.f0) ?_
    rw [c3]
    refine Ev.pos rfl ?_
    refine Ev.pos c4 ?_
    exact Ev.neg c5 (Ev.now _)
   ·rw [decide_eq_false (by omega)]
    simp
 ·rw [if_neg c4, Bool.true_and]
  by_cases c5 : t.f1.toList = []
  ·obtain ⟨b, n', dp', e, q, s⟩ := loop t.f3.length 0 (n + 1) (mx dp d) (by omega) (by omega) (by omega) (by omega)
   rw [List.drop_zero] at q s
   rw [decide_eq_true c5, Bool.true_and]
   refine ⟨b, n', dp', ?_, ?_, ?_⟩
   ·refine Ev.step (fun k => by rw [impl_measure.f, w1]) ?_
    refine Ev.neg c1 ?_
    refine Ev.neg c2 ?_
    refine Ev.bind (name_i t.f0) ?_
    rw [c3]
    refine Ev.pos rfl ?_
    refine Ev.neg c4 ?_
    exact Ev.pos c5 e
   ·rw [q]
    refine ⟨fun h => ⟨h.1, by omega, by omega⟩, fun h => ⟨h.1, by omega, by omega⟩⟩
   ·intro h
    have := s h
    omega
  ·refine ⟨false, n + 1, mx dp d, ?_, ?_, by simp⟩
   ·refine Ev.step (fun k => by rw [impl_measure.f, w1]) ?_
    refine Ev.neg c1 ?_
    refine Ev.neg c2 ?_
    refine Ev.bind (name_i t.f0) ?_
    rw [c3]
    refine Ev.pos rfl ?_
    refine Ev.neg c4 ?_
    exact Ev.neg c5 (Ev.now _)
   ·rw [decide_eq_false c5]
    simp
theorem ok_i (t : S53) (ht : FitI t) : Ev (fun k => impl_TreeOK.f k t.f0 t.f1 t.f2 t.f3) (OKT t) := by
 obtain ⟨b, n, dp, e, q, s⟩ := mea_i t ht 1 0 0 (by omega) (by omega) (by omega) (by omega)
 unfold impl_TreeOK.f OKT
 refine Ev.bind e ?_
 have : b = (decide (Nn t ≤ 1000 ∧ Dd t ≤ 60) && Rt t) := by
  rw [Bool.eq_iff_iff, q, Bool.and_eq_true, decide_eq_true_iff]
  refine ⟨fun h => ⟨⟨by omega, by omega⟩, h.1⟩, fun h => ⟨h.2, by omega, by omega⟩⟩
 rw [← this]
 exact Ev.now _
end Go.Proofs.Ytgdecbliegelmaa.Q

/- Words for the walks by hand. -/
namespace Go.Proofs.Ytgdecbliegelmaa.Q
open Go.RowKit Go.Proofs.YtgdecbliegelmaaW.PrintWords Go.Proofs.YtgdecbliegelmaaW.PrintLast Go.Proofs.YtgdecbliegelmaaW.PrintMore
attribute [local go_sem] max2_int min2_int max_two min_two max_three min_three max_four min_four
set_option linter.unusedVariables false
set_option linter.unusedSimpArgs false
/-- What is written is of the types ts alone, or new. -/
def KT (ts : List Nat) (w W : World) : Prop := w.heap.size ≤ W.heap.size ∧ ∀ i, i < w.heap.size → (∀ q ∈ ts, ∀ cells, w.heap[i]? ≠ some (.cells cells q (0, 0))) → W.heap[i]? = w.heap[i]?
section
variable {ts : List Nat} {w W W2 : World}
theorem KT.refl (ts : List Nat) (w : World) : KT ts w w := ⟨Nat.le_refl _, fun _ _ _ => rfl⟩
theorem KT.of_below (h : Below w.heap.size w W) : KT ts w W := ⟨h.size, fun i hi _ => h.block i hi⟩
theorem KT.trans (h : KT ts w W) (k : KT ts W W2) : KT ts w W2 :=
 ⟨Nat.le_trans h.1 k.1, fun i hi hn => (k.2 i (Nat.lt_of_lt_of_le hi h.1) (fun q hq cells he => hn q hq cells ((h.2 i hi hn) ▸ he))).trans (h.2 i hi hn)⟩
theorem KT.mono {ts' : List Nat} (h : KT ts w W) (hs : ∀ q ∈ ts, q ∈ ts') : KT ts' w W := ⟨h.1, fun i hi hn => h.2 i hi (fun q hq => hn q (hs q hq))⟩
theorem KT.below (h : KT ts w W) (hb : Below W.heap.size W W2) : KT ts w W2 := h.trans (KT.of_below hb)
theorem KT.grown {row : Option Nat} (h : KT ts w W) (hg : W.grownBy W2 row) (hr : ∀ k, row = some k → ∃ q ∈ ts, ∃ cells, W.heap[k]? = some (.cells cells q (0, 0))) : KT ts w W2 :=
 h.trans ⟨hg.size, fun i hi hn => hg.block i hi (fun e => by obtain ⟨q, hq, cells, hc⟩ := hr i e.symm;exact hn q hq cells hc)⟩
theorem KT.blk {g : Nat} {t : Nat} {cs : Array Value} (h : KT ts w W) (hb : w.heap[g]? = some (.cells cs t (0, 0))) (ht : t ∉ ts) : W.heap[g]? = some (.cells cs t (0, 0)) :=
 (h.2 g (blk_lt hb) (fun q hq cells he => by rw [hb] at he;injection he with he;injection he with _ e2;exact ht (e2 ▸ hq))).trans hb
theorem KT.set {g t : Nat} {cs : Array Value} {i : Nat} (hb : w.heap[g]? = some (.cells cs t (0, 0))) (ht : t ∈ ts) (u : Value) : KT ts w (w.setCell ⟨g, i, none⟩ u) :=
 ⟨by simp [World.setCell], fun j hj hn => Below.heap_setCell w ⟨g, i, none⟩ u j (fun e => hn t ht cs (e ▸ hb))⟩
theorem KT.size (h : KT ts w W) : w.heap.size ≤ W.heap.size := h.1
end
theorem N_empty {α : Type} {d : Kd α} {e base : Nat} {W : World} (h : base ≤ W.heap.size) : Kd.N d e (W.alloc (.cells #[] e)) base (fun _ => True) (.slice (some ⟨W.heap.size, 0, none⟩) 0 0) [] :=
 Kd.R_N ⟨fun _ _ => trivial, [], World.ownsRow_lit (base := base) (e := e) (size := d.sz) W #[] 0 h (Nat.zero_le _) (by simp), Reps.none _ _⟩
theorem N_empty' {α : Type} {d : Kd α} {e base : Nat} {W : World} {o : Obj} (h : base ≤ W.heap.size + 1) : Kd.N d e ((W.alloc o).alloc (.cells #[] e)) base (fun _ => True) (.slice (some ⟨W.heap.size + 1, 0, none⟩) 0 0) [] := by
 have := N_empty (d := d) (e := e) (base := base) (W := W.alloc o) (by simpa using h)
 simpa using this
theorem F_one {α : Type} {d : Kd α} {e b : Nat} {W : World} {okp : Nat → Prop} {x : α} {lit : List Value} (hl : W.heap[b]? = some (.cells lit.toArray e (0, 0))) (hk : Kd.FK d W okp x lit) : Kd.F d W (fun k => k = b ∨ okp k) (some ⟨b, 0, none⟩) 1 [x] := by
 intro W' hW
 have hb : W'.heap[b]? = some (.cells lit.toArray e (0, 0)) := (hW b (.inl rfl) (blk_lt hl)).trans hl
 have hk' : d.K W' x lit := hk W' (fun k ho hlt => hW k (.inr ho) hlt)
 refine ⟨rfl, by decide, fun _ => ⟨_, rfl, fun j p hj => ?_⟩⟩
 rcases j with _|j
 ·simp only [List.getElem?_cons_zero, Option.some.injEq] at hj
  subst hj
  refine ⟨lit, d.K_len hk', hk', fun i u hu => ?_⟩
  have := blk_cell hb i
  rcases i with _|i
  ·simpa [Addr.add, hu] using this
  ·simpa [Addr.add, hu] using this
 ·simp at hj
theorem C_of_R {α : Type} {d : Kd α} {e base : Nat} {ok : Nat → Prop} {w : World} {v : Value} {xs : List α} (h : d.R e w base ok v xs) : ∃ A c, v = .slice A xs.length c ∧ xs.length ≤ c ∧ d.C w A xs.length xs := Kd.R_reads h
theorem N_emptyOk {α : Type} {d : Kd α} {e base : Nat} {W : World} {ok : Nat → Prop} (h : base ≤ W.heap.size) (hok : ok W.heap.size) : Kd.N d e (W.alloc (.cells #[] e)) base ok (.slice (some ⟨W.heap.size, 0, none⟩) 0 0) [] :=
 Kd.R_N ⟨fun k hk => by have h2 : W.heap.size = k := (by simpa [Value.ownBlock] using hk);exact h2 ▸ hok, [], World.ownsRow_lit (base := base) (e := e) (size := d.sz) W #[] 0 h (Nat.zero_le _) (by simp), Reps.none _ _⟩
theorem R_empty_ {e base : Nat} {W : World} (h : base ≤ W.heap.size) : (Kd.int .i64).R e (W.alloc (.cells #[] e)) base (fun _ => True) (.slice (some ⟨W.heap.size, 0, none⟩) 0 0) [] :=
 ⟨fun _ _ => trivial, [], World.ownsRow_lit (base := base) (e := e) (size := 1) W #[] 0 h (Nat.zero_le _) rfl, Reps.none _ _⟩
theorem below_of_grown_none {w W : World} (h : w.grownBy W none) : Below w.heap.size w W := ⟨h.os, h.tape, h.output, h.size, fun k hk => h.block k hk (by simp)⟩
end Go.Proofs.Ytgdecbliegelmaa.Q

namespace Go.Proofs.Ytgdecbliegelmaa.Q
open Go.RowKit Go.Proofs.YtgdecbliegelmaaW.PrintWords Go.Proofs.YtgdecbliegelmaaW.PrintLast Go.Proofs.YtgdecbliegelmaaW.PrintMore
attribute [local go_sem] max2_int min2_int max_two min_two max_three min_three max_four min_four   -- for this text's walks alone
set_option linter.unusedVariables false
set_option linter.unusedSimpArgs false
/-! ### spec_l11Var: function 134 -/
def spec_l11Var.f (a0_0 : ByteArray) (a0_1 : ByteArray) (a0_2 : Bool) (l0_3 : List (S53)) : Option (Bool) := if a0_2 = true then (some (a0_0.toList == ([86, 97, 114] : List UInt8))) else (some false)
set_option maxHeartbeats 8000000 in
set_option maxRecDepth 100000 in
theorem spec_l11Var.calls (a0_0 : ByteArray) (a0_1 : ByteArray) (a0_2 : Bool) (A0_3 : Option Addr) (c0_3 : Nat) (l0_3 : List (S53)) (r : Bool) (w : World) (hr0_3 : Kd.C k53 w A0_3 l0_3.length l0_3) (hc0_3 : l0_3.length ≤ c0_3) (h : spec_l11Var.f a0_0 a0_1 a0_2 l0_3 = some r) :
  Calls Try.prog 134 #[.agg #[.string a0_0, .string a0_1, .bool a0_2, .slice A0_3 l0_3.length c0_3]] w fun e w' => e = .returned (.bool r) ∧ Below w.heap.size w w' := by
 have hu53 := Try.underlying53
 have HR0_3 := Aside0.mk hr0_3
 have HC0_3 := Aside0.mk hc0_3
 clear hr0_3 hc0_3
 have HB := Aside0.mk (Below.refl w.heap.size w)
 have H : (if a0_2 = true then (some (a0_0.toList == ([86, 97, 114] : List UInt8))) else (some false)) = some r := h
 clear h
 by_cases c2 : a0_2 = true
 ·subst c2
  have H1 : (some (a0_0.toList == ([86, 97, 114] : List UInt8))) = some r := by rw [if_pos rfl] at H;exact H
  clear H
  have H := H1
  clear H1
  obtain rfl := Option.some.inj H
  go_enter Try.func134, Try.ntmps134
  go_wp2_with (first|((with_reducible refine gate_dst (N := 1) rfl ?_);refine box_event ?hg (N := 1) ?hd (cs := #[.string a0_0, .string a0_1, .bool true, .slice A0_3 l0_3.length c0_3]) (t := 53) ?hr ?_;(case hd => rfl);(case hg => rfl);(case hr => first|(go_simp;done)|(go_simp;rfl));intro gb101 hg w3 hbox hb;have n0_ := Aside0.mk (below_step (by repeat (first|(with_reducible first|exact HB.out|apply below_alloc|apply pw_below_drewN|apply below_drew1)|exact HB.out)) hb);have n1_ := Aside0.mk (hbox);have n2_ := Aside0.mk ((by rw [hg];exact (below_size (by repeat (first|(with_reducible first|exact HB.out|apply below_alloc|apply pw_below_drewN|apply below_drew1)|exact HB.out))) : w.heap.size ≤ gb101));have n3_ := Aside0.mk ((by rw [hg];exact (below_size (by repeat (first|(with_reducible first|exact HB.out|apply below_alloc|apply pw_below_drewN|apply below_drew1)|exact HB.out))) : w.heap.size ≤ gb101));clear HB;have HB := n0_;have BK101 := n1_;have GW101 := n2_;have GE101 := n3_;clear n0_ n1_ n2_ n3_;clear hb hbox hg;have hcz4_0 : w3.cell? ⟨gb101, 0, none⟩ = some (.string a0_0) := (blk_cell BK101.out 0).trans rfl;have hcz4_1 : w3.cell? ⟨gb101, 1, none⟩ = some (.string a0_1) := (blk_cell BK101.out 1).trans rfl;have hcz4_2 : w3.cell? ⟨gb101, 2, none⟩ = some (.bool true) := (blk_cell BK101.out 2).trans rfl;have hcz4_3 : w3.cell? ⟨gb101, 3, none⟩ = some (.slice A0_3 l0_3.length c0_3) := (blk_cell BK101.out 3).trans rfl;have hfz4_0 := blk_frozen BK101.out 0;have hfz4_1 := blk_frozen BK101.out 1;have hfz4_2 := blk_frozen BK101.out 2;have hfz4_3 := blk_frozen BK101.out 3))
  go_ret
  exact ⟨by first|rfl|(simp [errW_none, errW_some] <;> rfl)|(simp [*, errW_none, errW_some] <;> rfl), by repeat (first|(with_reducible first|exact HB.out|apply below_alloc|apply pw_below_drewN|apply below_drew1|refine below_set ?_ GE101.out)|exact HB.out)⟩
 ·replace c2 := Bool.eq_false_iff.mpr c2
  subst c2
  have H1 : (some false) = some r := by rw [if_neg (show ¬ (false = true) by decide)] at H;exact H
  clear H
  have H := H1
  clear H1
  obtain rfl := Option.some.inj H
  go_enter Try.func134, Try.ntmps134
  go_wp2_with (first|((with_reducible refine gate_dst (N := 1) rfl ?_);refine box_event ?hg (N := 1) ?hd (cs := #[.string a0_0, .string a0_1, .bool false, .slice A0_3 l0_3.length c0_3]) (t := 53) ?hr ?_;(case hd => rfl);(case hg => rfl);(case hr => first|(go_simp;done)|(go_simp;rfl));intro gb101 hg w5 hbox hb;have n0_ := Aside0.mk (below_step (by repeat (first|(with_reducible first|exact HB.out|apply below_alloc|apply pw_below_drewN|apply below_drew1)|exact HB.out)) hb);have n1_ := Aside0.mk (hbox);have n2_ := Aside0.mk ((by rw [hg];exact (below_size (by repeat (first|(with_reducible first|exact HB.out|apply below_alloc|apply pw_below_drewN|apply below_drew1)|exact HB.out))) : w.heap.size ≤ gb101));have n3_ := Aside0.mk ((by rw [hg];exact (below_size (by repeat (first|(with_reducible first|exact HB.out|apply below_alloc|apply pw_below_drewN|apply below_drew1)|exact HB.out))) : w.heap.size ≤ gb101));clear HB;have HB := n0_;have BK101 := n1_;have GW101 := n2_;have GE101 := n3_;clear n0_ n1_ n2_ n3_;clear hb hbox hg;have hcz6_0 : w5.cell? ⟨gb101, 0, none⟩ = some (.string a0_0) := (blk_cell BK101.out 0).trans rfl;have hcz6_1 : w5.cell? ⟨gb101, 1, none⟩ = some (.string a0_1) := (blk_cell BK101.out 1).trans rfl;have hcz6_2 : w5.cell? ⟨gb101, 2, none⟩ = some (.bool false) := (blk_cell BK101.out 2).trans rfl;have hcz6_3 : w5.cell? ⟨gb101, 3, none⟩ = some (.slice A0_3 l0_3.length c0_3) := (blk_cell BK101.out 3).trans rfl;have hfz6_0 := blk_frozen BK101.out 0;have hfz6_1 := blk_frozen BK101.out 1;have hfz6_2 := blk_frozen BK101.out 2;have hfz6_3 := blk_frozen BK101.out 3))
  go_ret
  exact ⟨by first|rfl|(simp [errW_none, errW_some] <;> rfl)|(simp [*, errW_none, errW_some] <;> rfl), by repeat (first|(with_reducible first|exact HB.out|apply below_alloc|apply pw_below_drewN|apply below_drew1|refine below_set ?_ GE101.out)|exact HB.out)⟩
end Go.Proofs.Ytgdecbliegelmaa.Q

namespace Go.Proofs.Ytgdecbliegelmaa.Q
open Go.RowKit Go.Proofs.YtgdecbliegelmaaW.PrintWords Go.Proofs.YtgdecbliegelmaaW.PrintLast Go.Proofs.YtgdecbliegelmaaW.PrintMore
attribute [local go_sem] max2_int min2_int max_two min_two max_three min_three max_four min_four   -- for this text's walks alone
set_option linter.unusedVariables false
set_option linter.unusedSimpArgs false
/-! ### spec_l11Find: function 136 -/
def spec_l11Find.l0 : Nat → List (S151) → ByteArray → Int → Option (Int)
  | 0, _, _, _ => none
  | k + 1, x0, x1, x5 => if x5 < (x0.length : Int) then (if 0 ≤ x5 then (if ((rd_T151 x0 x5).f0).toList = x1.toList then (some x5) else (spec_l11Find.l0 k x0 x1 (wrap64 (x5 + 1)))) else (none)) else (some (-1))
def spec_l11Find.f (k : Nat) (l0 : List (S151)) (a1 : ByteArray) : Option (Int) := spec_l11Find.l0 k l0 a1 0
theorem spec_l11Find.mono_l : ∀ k, (∀ y0 y1 y2, LeO (spec_l11Find.l0 k y0 y1 y2) (spec_l11Find.l0 (k + 1) y0 y1 y2))
 | 0 => fun _ _ _ r h => by simp [spec_l11Find.l0] at h
 | k + 1 => by
  have ih0 := spec_l11Find.mono_l k
  ·intro y0 y1 y2
   unfold spec_l11Find.l0
   repeat' first
   | (with_reducible exact ih0 _ _ _)
   | (with_reducible exact LeO.refl _)
   | (with_reducible exact LeO.none _)
   | (with_reducible refine LeO.ite ?_ ?_)
   | (with_reducible refine LeO.bind ?_ (fun _ => ?_))
   | exact ih0 _ _ _
   | exact LeO.none _
   | refine LeO.ite ?_ ?_
   | refine LeO.bind ?_ (fun _ => ?_)
theorem spec_l11Find.mono : ∀ a0 a1 k, LeO (spec_l11Find.f k a0 a1) (spec_l11Find.f (k + 1) a0 a1) := by
 intro a0 a1 k
 have ih0 := spec_l11Find.mono_l k
 unfold spec_l11Find.f
 repeat' first
   | (with_reducible exact ih0 _ _ _)
   | (with_reducible exact LeO.refl _)
   | (with_reducible exact LeO.none _)
   | (with_reducible refine LeO.ite ?_ ?_)
   | (with_reducible refine LeO.bind ?_ (fun _ => ?_))
   | exact ih0 _ _ _
   | exact LeO.none _
   | refine LeO.ite ?_ ?_
   | refine LeO.bind ?_ (fun _ => ?_)
set_option maxHeartbeats 8000000 in
set_option maxRecDepth 100000 in
theorem spec_l11Find.calls (k : Nat) (A0 : Option Addr) (c0 : Nat) (l0 : List (S151)) (a1 : ByteArray) (r : Int) (w : World) (hr0 : Kd.C k151 w A0 l0.length l0) (hc0 : l0.length ≤ c0) (h : spec_l11Find.f k l0 a1 = some r) :
  Calls Try.prog 136 #[.slice A0 l0.length c0, .string a1] w fun e w' => e = .returned (.int .i64 r) ∧ Drawn0 w w' := by
 have HR0 := Aside0.mk hr0
 have HC0 := Aside0.mk hc0
 clear hr0 hc0
 have H : (spec_l11Find.l0 k l0 a1 0) = some r := h
 clear h
 have H' := Aside0.mk H
 clear H
 go_enter Try.func136, Try.ntmps136
 go_wp2
 go_loopg [5] k (fun kq v5 w' => ∃ (x5_1 : Int), v5 = .int .i64 x5_1 ∧ Aside0 (spec_l11Find.l0 kq l0 a1 x5_1 = some r) ∧ Aside0 (kq ≤ k) ∧ Drawn0 w w')
 case atStart => exact ⟨(0), (by first|rfl|(simp;done)|(simp [*];done)), H', ⟨Nat.le_refl _⟩, by repeat (first|exact Drawn0.refl _|apply Drawn0.step)⟩
 case round =>
  clear H'
  try clear c1
  try clear p2
  obtain ⟨x5_1, rfl, HA, HK1, ⟨m1, rfl⟩⟩ := hrel
  cases gk with
  | zero => exact absurd HA.out (by simp [spec_l11Find.l0])
  | succ k1 =>
   have H := HA.out
   clear HA
   simp only [spec_l11Find.l0] at H
   by_cases c3 : x5_1 < (l0.length : Int)
   ·rw [if_pos c3] at H
    have c3b0 : decide (x5_1 < (l0.length : Int)) = true := decide_eq_true c3
    clear c3
    by_cases c4 : 0 ≤ x5_1
    ·rw [if_pos c4] at H
     have c4b0 : decide (0 ≤ x5_1) = true := decide_eq_true c4
     clear c4
     by_cases c5 : ((rd_T151 l0 x5_1).f0).toList = a1.toList
     ·rw [if_pos c5] at H
      have c5b0 : (((rd_T151 l0 x5_1).f0).toList == a1.toList) = true := beq_iff_eq.mpr c5
      have c5b1 : (((rd_T151 l0 x5_1).f0).toList != a1.toList) = false := bne_eq_false_iff_eq.mpr c5
      clear c5
      obtain rfl := Option.some.inj H
      have p101 : 0 ≤ (x5_1 : Int) := of_decide_eq_true (by first|(with_reducible assumption)|assumption)
      have q101 : x5_1 < (l0.length : Int) := of_decide_eq_true (by first|(with_reducible assumption)|assumption)
      obtain ⟨ad101, A101_4, c101_4, e101, hx101_0, hx101_1, hx101_2, hx101_3, hx101_4, hl101_4, hi101_4⟩ := at_T151 HR0.out x5_1 p101 q101
      cases e101
      have HR101_4 := Aside0.mk hi101_4
      have HC101_4 := Aside0.mk hl101_4
      clear hi101_4 hl101_4
      replace p101 := eq_true p101
      replace q101 := eq_true q101
      go_wp2
      go_ret
      exact ⟨by first|rfl|(simp;done)|(simp [*];done), by repeat (first|exact Drawn0.refl _|apply Drawn0.step)⟩
     ·rw [if_neg c5] at H
      have c5b0 : (((rd_T151 l0 x5_1).f0).toList == a1.toList) = false := beq_eq_false_iff_ne.mpr c5
      have c5b1 : (((rd_T151 l0 x5_1).f0).toList != a1.toList) = true := bne_iff_ne.mpr c5
      have H' := Aside0.mk H
      clear H
      have p101 : 0 ≤ (x5_1 : Int) := of_decide_eq_true (by first|(with_reducible assumption)|assumption)
      have q101 : x5_1 < (l0.length : Int) := of_decide_eq_true (by first|(with_reducible assumption)|assumption)
      obtain ⟨ad101, A101_4, c101_4, e101, hx101_0, hx101_1, hx101_2, hx101_3, hx101_4, hl101_4, hi101_4⟩ := at_T151 HR0.out x5_1 p101 q101
      cases e101
      have HR101_4 := Aside0.mk hi101_4
      have HC101_4 := Aside0.mk hl101_4
      clear hi101_4 hl101_4
      replace p101 := eq_true p101
      replace q101 := eq_true q101
      go_wp2
      go_roundg k1
      case measure => have := HK1.out;omega
      case rel => exact ⟨(wrap64 (x5_1 + 1)), (by first|rfl|(simp;done)|(simp [*];done)), H', ⟨by have := HK1.out;omega⟩, by repeat (first|exact Drawn0.refl _|apply Drawn0.step)⟩
    ·rw [if_neg c4] at H
     exact absurd H (by simp)
   ·rw [if_neg c3] at H
    have c3b0 : decide (x5_1 < (l0.length : Int)) = false := decide_eq_false c3
    clear c3
    obtain rfl := Option.some.inj H
    go_wp2
    go_ret
    exact ⟨by first|rfl|(simp;done)|(simp [*];done), by repeat (first|exact Drawn0.refl _|apply Drawn0.step)⟩
end Go.Proofs.Ytgdecbliegelmaa.Q

namespace Go.Proofs.Ytgdecbliegelmaa.Q
open Go.RowKit Go.Proofs.YtgdecbliegelmaaW.PrintWords Go.Proofs.YtgdecbliegelmaaW.PrintLast Go.Proofs.YtgdecbliegelmaaW.PrintMore
attribute [local go_sem] max2_int min2_int max_two min_two max_three min_three max_four min_four   -- for this text's walks alone
set_option linter.unusedVariables false
set_option linter.unusedSimpArgs false
/-! ### spec_l01Same: function 137 -/
mutual
def spec_l01Same.j0 : Nat → Bool → ByteArray → ByteArray → Bool → List (S53) → ByteArray → ByteArray → Bool → List (S53) → Option (Bool)
  | 0, _, _, _, _, _, _, _, _, _ => none
  | k + 1, x33, x102000, x102001, x102002, x102003, x103000, x103001, x103002, x103003 => if x33 = true then (some false) else (spec_l01Same.l0 k 0 x102000 x102001 x102002 x102003 x103000 x103001 x103002 x103003)
def spec_l01Same.l0 : Nat → Int → ByteArray → ByteArray → Bool → List (S53) → ByteArray → ByteArray → Bool → List (S53) → Option (Bool)
  | 0, _, _, _, _, _, _, _, _, _ => none
  | k + 1, x5, x102000, x102001, x102002, x102003, x103000, x103001, x103002, x103003 => if x5 < (x102003.length : Int) then (if 0 ≤ x5 then (if x5 < (x103003.length : Int) then ((spec_l01Same.f k ((rd_T53 x102003 x5).f0) ((rd_T53 x102003 x5).f1) ((rd_T53 x102003 x5).f2) ((rd_T53 x102003 x5).f3) ((rd_T53 x103003 x5).f0) ((rd_T53 x103003 x5).f1) ((rd_T53 x103003 x5).f2) ((rd_T53 x103003 x5).f3)).bind fun t105 => (if t105 = true then (spec_l01Same.l0 k (wrap64 (x5 + 1)) x102000 x102001 x102002 x102003 x103000 x103001 x103002 x103003) else (some false))) else (none)) else (none)) else (some true)
def spec_l01Same.f : Nat → ByteArray → ByteArray → Bool → List (S53) → ByteArray → ByteArray → Bool → List (S53) → Option (Bool)
  | 0, _, _, _, _, _, _, _, _ => none
  | k + 1, a0_0, a0_1, a0_2, l0_3, a1_0, a1_1, a1_2, l1_3 => if a0_0.toList = a1_0.toList then (if a0_1.toList = a1_1.toList then (if (a0_2 != a1_2) = true then (spec_l01Same.j0 k true a0_0 a0_1 a0_2 l0_3 a1_0 a1_1 a1_2 l1_3) else (spec_l01Same.j0 k ((l0_3.length : Int) != (l1_3.length : Int)) a0_0 a0_1 a0_2 l0_3 a1_0 a1_1 a1_2 l1_3)) else (spec_l01Same.j0 k true a0_0 a0_1 a0_2 l0_3 a1_0 a1_1 a1_2 l1_3)) else (spec_l01Same.j0 k true a0_0 a0_1 a0_2 l0_3 a1_0 a1_1 a1_2 l1_3)
end
theorem spec_l01Same.mono_l : ∀ k, (∀ y0 y1 y2 y3 y4 y5 y6 y7, LeO (spec_l01Same.f k y0 y1 y2 y3 y4 y5 y6 y7) (spec_l01Same.f (k + 1) y0 y1 y2 y3 y4 y5 y6 y7)) ∧ (∀ y0 y1 y2 y3 y4 y5 y6 y7 y8, LeO (spec_l01Same.j0 k y0 y1 y2 y3 y4 y5 y6 y7 y8) (spec_l01Same.j0 (k + 1) y0 y1 y2 y3 y4 y5 y6 y7 y8)) ∧ (∀ y0 y1 y2 y3 y4 y5 y6 y7 y8, LeO (spec_l01Same.l0 k y0 y1 y2 y3 y4 y5 y6 y7 y8) (spec_l01Same.l0 (k + 1) y0 y1 y2 y3 y4 y5 y6 y7 y8))
 | 0 => ⟨fun _ _ _ _ _ _ _ _ r h => by simp [spec_l01Same.f] at h, fun _ _ _ _ _ _ _ _ _ r h => by simp [spec_l01Same.j0] at h, fun _ _ _ _ _ _ _ _ _ r h => by simp [spec_l01Same.l0] at h⟩
 | k + 1 => by
  obtain ⟨ih0, ih1, ih2⟩ := spec_l01Same.mono_l k
  refine ⟨?_, ?_, ?_⟩
  ·intro y0 y1 y2 y3 y4 y5 y6 y7
   unfold spec_l01Same.f
   repeat' first
   | (with_reducible exact ih0 _ _ _ _ _ _ _ _)
   | (with_reducible exact ih1 _ _ _ _ _ _ _ _ _)
   | (with_reducible exact ih2 _ _ _ _ _ _ _ _ _)
   | (with_reducible exact LeO.refl _)
   | (with_reducible exact LeO.none _)
   | (with_reducible refine LeO.ite ?_ ?_)
   | (with_reducible refine LeO.bind ?_ (fun _ => ?_))
   | exact ih0 _ _ _ _ _ _ _ _
   | exact ih1 _ _ _ _ _ _ _ _ _
   | exact ih2 _ _ _ _ _ _ _ _ _
   | exact LeO.none _
   | refine LeO.ite ?_ ?_
   | refine LeO.bind ?_ (fun _ => ?_)
  ·intro y0 y1 y2 y3 y4 y5 y6 y7 y8
   unfold spec_l01Same.j0
   repeat' first
   | (with_reducible exact ih0 _ _ _ _ _ _ _ _)
   | (with_reducible exact ih1 _ _ _ _ _ _ _ _ _)
   | (with_reducible exact ih2 _ _ _ _ _ _ _ _ _)
   | (with_reducible exact LeO.refl _)
   | (with_reducible exact LeO.none _)
   | (with_reducible refine LeO.ite ?_ ?_)
   | (with_reducible refine LeO.bind ?_ (fun _ => ?_))
   | exact ih0 _ _ _ _ _ _ _ _
   | exact ih1 _ _ _ _ _ _ _ _ _
   | exact ih2 _ _ _ _ _ _ _ _ _
   | exact LeO.none _
   | refine LeO.ite ?_ ?_
   | refine LeO.bind ?_ (fun _ => ?_)
  ·intro y0 y1 y2 y3 y4 y5 y6 y7 y8
   unfold spec_l01Same.l0
   repeat' first
   | (with_reducible exact ih0 _ _ _ _ _ _ _ _)
   | (with_reducible exact ih1 _ _ _ _ _ _ _ _ _)
   | (with_reducible exact ih2 _ _ _ _ _ _ _ _ _)
   | (with_reducible exact LeO.refl _)
   | (with_reducible exact LeO.none _)
   | (with_reducible refine LeO.ite ?_ ?_)
   | (with_reducible refine LeO.bind ?_ (fun _ => ?_))
   | exact ih0 _ _ _ _ _ _ _ _
   | exact ih1 _ _ _ _ _ _ _ _ _
   | exact ih2 _ _ _ _ _ _ _ _ _
   | exact LeO.none _
   | refine LeO.ite ?_ ?_
   | refine LeO.bind ?_ (fun _ => ?_)
theorem spec_l01Same.mono : ∀ a0 a1 a2 a3 a4 a5 a6 a7 k, LeO (spec_l01Same.f k a0 a1 a2 a3 a4 a5 a6 a7) (spec_l01Same.f (k + 1) a0 a1 a2 a3 a4 a5 a6 a7) := by
 intro a0 a1 a2 a3 a4 a5 a6 a7 k
 obtain ⟨ih0, ih1, ih2⟩ := spec_l01Same.mono_l k
 exact ih0 a0 a1 a2 a3 a4 a5 a6 a7
def spec_l01Same.T6 : Bool × List (List Nat × List Nat) := (true, [([], []), ([0], [0]), ([], []), ([1, 2], [1, 2]), ([3], [3]), ([], []), ([5], [5]), ([], []), ([6, 7], [6, 7]), ([8], [8]), ([4, 9], [4, 9]), ([10], [10])])
def spec_l01Same.B6 : List Nat := [0, 1, 0, 7, 15, 0, 32, 0, 224, 480, 1023, 2047]
theorem spec_l01Same.tab6 : rtab .any (opsOf Try.f137 6) = spec_l01Same.T6 := by kernel_rfl
theorem spec_l01Same.bits6 : waitsOk spec_l01Same.T6.2 spec_l01Same.B6 = true := by kernel_rfl
set_option maxHeartbeats 8000000 in
set_option maxRecDepth 100000 in
theorem spec_l01Same.calls (k : Nat) : ∀ (a0_0 : ByteArray) (a0_1 : ByteArray) (a0_2 : Bool) (A0_3 : Option Addr) (c0_3 : Nat) (l0_3 : List (S53)) (a1_0 : ByteArray) (a1_1 : ByteArray) (a1_2 : Bool) (A1_3 : Option Addr) (c1_3 : Nat) (l1_3 : List (S53)) (r : Bool) (w : World) (hr0_3 : Kd.C k53 w A0_3 l0_3.length l0_3) (hc0_3 : l0_3.length ≤ c0_3) (hr1_3 : Kd.C k53 w A1_3 l1_3.length l1_3) (hc1_3 : l1_3.length ≤ c1_3) (h : spec_l01Same.f k a0_0 a0_1 a0_2 l0_3 a1_0 a1_1 a1_2 l1_3 = some r),
  Calls Try.prog 137 #[.agg #[.string a0_0, .string a0_1, .bool a0_2, .slice A0_3 l0_3.length c0_3], .agg #[.string a1_0, .string a1_1, .bool a1_2, .slice A1_3 l1_3.length c1_3]] w fun e w' => e = .returned (.bool r) ∧ Below w.heap.size w w' := by
 induction k using Nat.strongRecOn with
 | _ k ih =>
 intro a0_0 a0_1 a0_2 A0_3 c0_3 l0_3 a1_0 a1_1 a1_2 A1_3 c1_3 l1_3 r w hr0_3 hc0_3 hr1_3 hc1_3 h
 cases k with
 | zero => exact absurd h (by simp [spec_l01Same.f])
 | succ k =>
 simp only [spec_l01Same.f] at h
 have hu53 := Try.underlying53
 have HR0_3 := Aside0.mk hr0_3
 have HC0_3 := Aside0.mk hc0_3
 clear hr0_3 hc0_3
 have HR1_3 := Aside0.mk hr1_3
 have HC1_3 := Aside0.mk hc1_3
 clear hr1_3 hc1_3
 have HB := Aside0.mk (Below.refl w.heap.size w)
 have H : (if a0_0.toList = a1_0.toList then (if a0_1.toList = a1_1.toList then (if (a0_2 != a1_2) = true then (spec_l01Same.j0 k true a0_0 a0_1 a0_2 l0_3 a1_0 a1_1 a1_2 l1_3) else (spec_l01Same.j0 k ((l0_3.length : Int) != (l1_3.length : Int)) a0_0 a0_1 a0_2 l0_3 a1_0 a1_1 a1_2 l1_3)) else (spec_l01Same.j0 k true a0_0 a0_1 a0_2 l0_3 a1_0 a1_1 a1_2 l1_3)) else (spec_l01Same.j0 k true a0_0 a0_1 a0_2 l0_3 a1_0 a1_1 a1_2 l1_3)) = some r := h
 clear h
 have HC3 := Aside0.mk H
 clear H
 go_enter Try.func137, Try.ntmps137
 go_upto_region 1 with (first|((with_reducible refine gate_dst (N := 2) rfl ?_);(try (refine gate_guard (by rfl) ?_;dsimp only));refine box_event ?hg (N := 2) ?hd (cs := #[.string a0_0, .string a0_1, .bool a0_2, .slice A0_3 l0_3.length c0_3]) (t := 53) ?hr ?_;(case hd => rfl);(case hg => rfl);(case hr => first|(go_simp;done)|(go_simp;rfl));intro gb101 hg w4 hbox hb;have n0_ := Aside0.mk (below_step (by repeat (first|(with_reducible first|exact HB.out|apply below_alloc|apply pw_below_drewN|apply below_drew1)|exact HB.out)) hb);have n1_ := Aside0.mk (hbox);have n2_ := Aside0.mk ((by rw [hg];exact (below_size (by repeat (first|(with_reducible first|exact HB.out|apply below_alloc|apply pw_below_drewN|apply below_drew1)|exact HB.out))) : w.heap.size ≤ gb101));have n3_ := Aside0.mk ((by rw [hg];exact (below_size (by repeat (first|(with_reducible first|exact HB.out|apply below_alloc|apply pw_below_drewN|apply below_drew1)|exact HB.out))) : w.heap.size ≤ gb101));clear HB;have HB := n0_;have BK101 := n1_;have GW101 := n2_;have GE101 := n3_;clear n0_ n1_ n2_ n3_;clear hb hbox hg)|((with_reducible refine gate_dst (N := 3) rfl ?_);(try (refine gate_guard (by rfl) ?_;dsimp only));refine box_event ?hg (N := 3) ?hd (cs := #[.string a1_0, .string a1_1, .bool a1_2, .slice A1_3 l1_3.length c1_3]) (t := 53) ?hr ?_;(case hd => rfl);(case hg => rfl);(case hr => first|(go_simp;done)|(go_simp;rfl));intro gb102 hg w5 hbox hb;have n0_ := Aside0.mk (blk_below (g := gb101) (o := .cells #[.string a0_0, .string a0_1, .bool a0_2, .slice A0_3 l0_3.length c0_3] 53 (0, 0)) (by (with_reducible repeat (first|refine blk_drewN ?_ _|refine blk_drew ?_|refine blk_alloc ?_ _));exact BK101.out) hb);have n1_ := Aside0.mk (below_step (by repeat (first|(with_reducible first|exact HB.out|apply below_alloc|apply pw_below_drewN|apply below_drew1|refine below_set ?_ GE101.out)|exact HB.out)) hb);have n2_ := Aside0.mk (hbox);have n3_ := Aside0.mk ((by rw [hg];exact (below_size (by repeat (first|(with_reducible first|exact HB.out|apply below_alloc|apply pw_below_drewN|apply below_drew1|refine below_set ?_ GE101.out)|exact HB.out))) : w.heap.size ≤ gb102));have n4_ := Aside0.mk ((by rw [hg];exact (below_size (by repeat (first|(with_reducible first|exact HB.out|apply below_alloc|apply pw_below_drewN|apply below_drew1|refine below_set ?_ GE101.out)|exact HB.out))) : w.heap.size ≤ gb102));have n5_ := Aside0.mk ((by rw [hg];exact Nat.ne_of_lt (blk_lt (g := gb101) (o := .cells #[.string a0_0, .string a0_1, .bool a0_2, .slice A0_3 l0_3.length c0_3] 53 (0, 0)) (by (with_reducible repeat (first|refine blk_drewN ?_ _|refine blk_drew ?_|refine blk_alloc ?_ _));exact BK101.out)) : gb101 ≠ gb102));have n6_ := Aside0.mk ((by rw [hg];exact Nat.ne_of_gt (blk_lt (g := gb101) (o := .cells #[.string a0_0, .string a0_1, .bool a0_2, .slice A0_3 l0_3.length c0_3] 53 (0, 0)) (by (with_reducible repeat (first|refine blk_drewN ?_ _|refine blk_drew ?_|refine blk_alloc ?_ _));exact BK101.out)) : gb102 ≠ gb101));clear BK101;clear HB;have BK101 := n0_;have HB := n1_;have BK102 := n2_;have GW102 := n3_;have GE102 := n4_;have NB101_102 := n5_;have NB102_101 := n6_;clear n0_ n1_ n2_ n3_ n4_ n5_ n6_;clear hb hbox hg))
 (try simp only [Act.put, List.setIfInBounds_toArray, List.set_cons_zero, List.set_cons_succ])
 go_cut [33] (fun v33 wc => ∃ (kq : Nat) (x33_2 : Bool), v33 = .bool x33_2 ∧ Aside0 (spec_l01Same.j0 kq x33_2 a0_0 a0_1 a0_2 l0_3 a1_0 a1_1 a1_2 l1_3 = some r) ∧ Aside0 (kq ≤ k) ∧ Aside0 (wc.heap[gb101]? = some (.cells #[.string a0_0, .string a0_1, .bool a0_2, (.slice A0_3 l0_3.length c0_3)] 53 (0, 0))) ∧ Aside0 (wc.heap[gb102]? = some (.cells #[.string a1_0, .string a1_1, .bool a1_2, (.slice A1_3 l1_3.length c1_3)] 53 (0, 0))) ∧ Aside0 (Below w.heap.size w wc))
 case first =>
  have H := HC3.out
  clear HC3
  by_cases c6 : a0_0.toList = a1_0.toList
  ·rw [if_pos c6] at H
   have c6b0 : (a0_0.toList == a1_0.toList) = true := beq_iff_eq.mpr c6
   have c6b1 : (a0_0.toList != a1_0.toList) = false := bne_eq_false_iff_eq.mpr c6
   clear c6
   (first|rw [c6b0]|(simp only [i64_w, i32_w];rw [c6b0])|skip)
   by_cases c7 : a0_1.toList = a1_1.toList
   ·rw [if_pos c7] at H
    have c7b0 : (a0_1.toList == a1_1.toList) = true := beq_iff_eq.mpr c7
    have c7b1 : (a0_1.toList != a1_1.toList) = false := bne_eq_false_iff_eq.mpr c7
    clear c7
    by_cases c8 : (a0_2 != a1_2) = true
    ·rw [if_pos c8] at H
     have c8b0 : (a0_2 != a1_2) = true := c8
     (try (have c8b1 : decide (a0_2 = a1_2) = false := by simpa using c8))
     (try (have c8b2 : (a0_2 == a1_2) = false := by simpa using c8))
     (try (have c8b3 : ¬ (a0_2 = a1_2) := by simpa using c8))
     clear c8
     have H' := Aside0.mk H
     clear H
     have hnb9 := NB101_102.out
     have hnc9 := NB102_101.out
     have hcz10_0 : w5.cell? ⟨gb101, 0, none⟩ = some (.string a0_0) := (blk_cell BK101.out 0).trans rfl
     have hcz10_1 : w5.cell? ⟨gb101, 1, none⟩ = some (.string a0_1) := (blk_cell BK101.out 1).trans rfl
     have hcz10_2 : w5.cell? ⟨gb101, 2, none⟩ = some (.bool a0_2) := (blk_cell BK101.out 2).trans rfl
     have hcz10_3 : w5.cell? ⟨gb101, 3, none⟩ = some (.slice A0_3 l0_3.length c0_3) := (blk_cell BK101.out 3).trans rfl
     have hfz10_0 := blk_frozen BK101.out 0
     have hfz10_1 := blk_frozen BK101.out 1
     have hfz10_2 := blk_frozen BK101.out 2
     have hfz10_3 := blk_frozen BK101.out 3
     have hcz11_0 : w5.cell? ⟨gb102, 0, none⟩ = some (.string a1_0) := (blk_cell BK102.out 0).trans rfl
     have hcz11_1 : w5.cell? ⟨gb102, 1, none⟩ = some (.string a1_1) := (blk_cell BK102.out 1).trans rfl
     have hcz11_2 : w5.cell? ⟨gb102, 2, none⟩ = some (.bool a1_2) := (blk_cell BK102.out 2).trans rfl
     have hcz11_3 : w5.cell? ⟨gb102, 3, none⟩ = some (.slice A1_3 l1_3.length c1_3) := (blk_cell BK102.out 3).trans rfl
     have hfz11_0 := blk_frozen BK102.out 0
     have hfz11_1 := blk_frozen BK102.out 1
     have hfz11_2 := blk_frozen BK102.out 2
     have hfz11_3 := blk_frozen BK102.out 3
     go_wp2
     go_meet
     case rel => exact ⟨_, (true), (by first|rfl|(simp;done)|(simp [*];done)), H', ⟨by first|omega|exact Nat.le_refl _⟩, ⟨by (with_reducible repeat (first|refine blk_drewN ?_ _|refine blk_drew ?_|refine blk_alloc ?_ _));exact BK101.out⟩, ⟨by (with_reducible repeat (first|refine blk_drewN ?_ _|refine blk_drew ?_|refine blk_alloc ?_ _));exact BK102.out⟩, ⟨by repeat (first|(with_reducible first|exact HB.out|apply below_alloc|apply pw_below_drewN|apply below_drew1|refine below_set ?_ GE101.out|refine below_set ?_ GE102.out)|exact HB.out)⟩⟩
    ·rw [if_neg c8] at H
     have c8b0 : (a0_2 != a1_2) = false := by simpa using c8
     (try (have c8b1 : decide (a0_2 = a1_2) = true := by simpa using c8))
     (try (have c8b2 : (a0_2 == a1_2) = true := by simpa using c8))
     clear c8
     have H' := Aside0.mk H
     clear H
     have hnb12 := NB101_102.out
     have hnc12 := NB102_101.out
     have hcz13_0 : w5.cell? ⟨gb101, 0, none⟩ = some (.string a0_0) := (blk_cell BK101.out 0).trans rfl
     have hcz13_1 : w5.cell? ⟨gb101, 1, none⟩ = some (.string a0_1) := (blk_cell BK101.out 1).trans rfl
     have hcz13_2 : w5.cell? ⟨gb101, 2, none⟩ = some (.bool a0_2) := (blk_cell BK101.out 2).trans rfl
     have hcz13_3 : w5.cell? ⟨gb101, 3, none⟩ = some (.slice A0_3 l0_3.length c0_3) := (blk_cell BK101.out 3).trans rfl
     have hfz13_0 := blk_frozen BK101.out 0
     have hfz13_1 := blk_frozen BK101.out 1
     have hfz13_2 := blk_frozen BK101.out 2
     have hfz13_3 := blk_frozen BK101.out 3
     have hcz14_0 : w5.cell? ⟨gb102, 0, none⟩ = some (.string a1_0) := (blk_cell BK102.out 0).trans rfl
     have hcz14_1 : w5.cell? ⟨gb102, 1, none⟩ = some (.string a1_1) := (blk_cell BK102.out 1).trans rfl
     have hcz14_2 : w5.cell? ⟨gb102, 2, none⟩ = some (.bool a1_2) := (blk_cell BK102.out 2).trans rfl
     have hcz14_3 : w5.cell? ⟨gb102, 3, none⟩ = some (.slice A1_3 l1_3.length c1_3) := (blk_cell BK102.out 3).trans rfl
     have hfz14_0 := blk_frozen BK102.out 0
     have hfz14_1 := blk_frozen BK102.out 1
     have hfz14_2 := blk_frozen BK102.out 2
     have hfz14_3 := blk_frozen BK102.out 3
     go_wp2
     go_meet
     case rel => exact ⟨_, (((l0_3.length : Int) != (l1_3.length : Int))), (by first|rfl|(simp;done)|(simp [*];done)), H', ⟨by first|omega|exact Nat.le_refl _⟩, ⟨by (with_reducible repeat (first|refine blk_drewN ?_ _|refine blk_drew ?_|refine blk_alloc ?_ _));exact BK101.out⟩, ⟨by (with_reducible repeat (first|refine blk_drewN ?_ _|refine blk_drew ?_|refine blk_alloc ?_ _));exact BK102.out⟩, ⟨by repeat (first|(with_reducible first|exact HB.out|apply below_alloc|apply pw_below_drewN|apply below_drew1|refine below_set ?_ GE101.out|refine below_set ?_ GE102.out)|exact HB.out)⟩⟩
   ·rw [if_neg c7] at H
    have c7b0 : (a0_1.toList == a1_1.toList) = false := beq_eq_false_iff_ne.mpr c7
    have c7b1 : (a0_1.toList != a1_1.toList) = true := bne_iff_ne.mpr c7
    have H' := Aside0.mk H
    clear H
    have hnb15 := NB101_102.out
    have hnc15 := NB102_101.out
    have hcz16_0 : w5.cell? ⟨gb101, 0, none⟩ = some (.string a0_0) := (blk_cell BK101.out 0).trans rfl
    have hcz16_1 : w5.cell? ⟨gb101, 1, none⟩ = some (.string a0_1) := (blk_cell BK101.out 1).trans rfl
    have hcz16_2 : w5.cell? ⟨gb101, 2, none⟩ = some (.bool a0_2) := (blk_cell BK101.out 2).trans rfl
    have hcz16_3 : w5.cell? ⟨gb101, 3, none⟩ = some (.slice A0_3 l0_3.length c0_3) := (blk_cell BK101.out 3).trans rfl
    have hfz16_0 := blk_frozen BK101.out 0
    have hfz16_1 := blk_frozen BK101.out 1
    have hfz16_2 := blk_frozen BK101.out 2
    have hfz16_3 := blk_frozen BK101.out 3
    have hcz17_0 : w5.cell? ⟨gb102, 0, none⟩ = some (.string a1_0) := (blk_cell BK102.out 0).trans rfl
    have hcz17_1 : w5.cell? ⟨gb102, 1, none⟩ = some (.string a1_1) := (blk_cell BK102.out 1).trans rfl
    have hcz17_2 : w5.cell? ⟨gb102, 2, none⟩ = some (.bool a1_2) := (blk_cell BK102.out 2).trans rfl
    have hcz17_3 : w5.cell? ⟨gb102, 3, none⟩ = some (.slice A1_3 l1_3.length c1_3) := (blk_cell BK102.out 3).trans rfl
    have hfz17_0 := blk_frozen BK102.out 0
    have hfz17_1 := blk_frozen BK102.out 1
    have hfz17_2 := blk_frozen BK102.out 2
    have hfz17_3 := blk_frozen BK102.out 3
    go_wp2
    go_meet
    case rel => exact ⟨_, (true), (by first|rfl|(simp;done)|(simp [*];done)), H', ⟨by first|omega|exact Nat.le_refl _⟩, ⟨by (with_reducible repeat (first|refine blk_drewN ?_ _|refine blk_drew ?_|refine blk_alloc ?_ _));exact BK101.out⟩, ⟨by (with_reducible repeat (first|refine blk_drewN ?_ _|refine blk_drew ?_|refine blk_alloc ?_ _));exact BK102.out⟩, ⟨by repeat (first|(with_reducible first|exact HB.out|apply below_alloc|apply pw_below_drewN|apply below_drew1|refine below_set ?_ GE101.out|refine below_set ?_ GE102.out)|exact HB.out)⟩⟩
  ·rw [if_neg c6] at H
   have c6b0 : (a0_0.toList == a1_0.toList) = false := beq_eq_false_iff_ne.mpr c6
   have c6b1 : (a0_0.toList != a1_0.toList) = true := bne_iff_ne.mpr c6
   (first|rw [c6b0]|(simp only [i64_w, i32_w];rw [c6b0])|skip)
   have H' := Aside0.mk H
   clear H
   have hnb18 := NB101_102.out
   have hnc18 := NB102_101.out
   have hcz19_0 : w5.cell? ⟨gb101, 0, none⟩ = some (.string a0_0) := (blk_cell BK101.out 0).trans rfl
   have hcz19_1 : w5.cell? ⟨gb101, 1, none⟩ = some (.string a0_1) := (blk_cell BK101.out 1).trans rfl
   have hcz19_2 : w5.cell? ⟨gb101, 2, none⟩ = some (.bool a0_2) := (blk_cell BK101.out 2).trans rfl
   have hcz19_3 : w5.cell? ⟨gb101, 3, none⟩ = some (.slice A0_3 l0_3.length c0_3) := (blk_cell BK101.out 3).trans rfl
   have hfz19_0 := blk_frozen BK101.out 0
   have hfz19_1 := blk_frozen BK101.out 1
   have hfz19_2 := blk_frozen BK101.out 2
   have hfz19_3 := blk_frozen BK101.out 3
   have hcz20_0 : w5.cell? ⟨gb102, 0, none⟩ = some (.string a1_0) := (blk_cell BK102.out 0).trans rfl
   have hcz20_1 : w5.cell? ⟨gb102, 1, none⟩ = some (.string a1_1) := (blk_cell BK102.out 1).trans rfl
   have hcz20_2 : w5.cell? ⟨gb102, 2, none⟩ = some (.bool a1_2) := (blk_cell BK102.out 2).trans rfl
   have hcz20_3 : w5.cell? ⟨gb102, 3, none⟩ = some (.slice A1_3 l1_3.length c1_3) := (blk_cell BK102.out 3).trans rfl
   have hfz20_0 := blk_frozen BK102.out 0
   have hfz20_1 := blk_frozen BK102.out 1
   have hfz20_2 := blk_frozen BK102.out 2
   have hfz20_3 := blk_frozen BK102.out 3
   go_wp2
   go_meet
   case rel => exact ⟨_, (true), (by first|rfl|(simp;done)|(simp [*];done)), H', ⟨by first|omega|exact Nat.le_refl _⟩, ⟨by (with_reducible repeat (first|refine blk_drewN ?_ _|refine blk_drew ?_|refine blk_alloc ?_ _));exact BK101.out⟩, ⟨by (with_reducible repeat (first|refine blk_drewN ?_ _|refine blk_drew ?_|refine blk_alloc ?_ _));exact BK102.out⟩, ⟨by repeat (first|(with_reducible first|exact HB.out|apply below_alloc|apply pw_below_drewN|apply below_drew1|refine below_set ?_ GE101.out|refine below_set ?_ GE102.out)|exact HB.out)⟩⟩
 case rest =>
  clear HC3
  try clear c1
  try clear p2
  try clear c6
  try clear c6b0
  try clear c6b1
  try clear c7
  try clear c7b0
  try clear c7b1
  try clear c8
  try clear c8b0
  try clear c8b1
  try clear c8b2
  try clear c9
  try clear c12
  try clear c13
  try clear c15
  try clear c18
  try clear hcz10_0
  try clear hcz10_1
  try clear hcz10_2
  try clear hcz10_3
  try clear hcz11_0
  try clear hcz11_1
  try clear hcz11_2
  try clear hcz11_3
  try clear hcz13_0
  try clear hcz13_1
  try clear hcz13_2
  try clear hcz13_3
  try clear hcz14_0
  try clear hcz14_1
  try clear hcz14_2
  try clear hcz14_3
  try clear hcz16_0
  try clear hcz16_1
  try clear hcz16_2
  try clear hcz16_3
  try clear hcz17_0
  try clear hcz17_1
  try clear hcz17_2
  try clear hcz17_3
  try clear hcz19_0
  try clear hcz19_1
  try clear hcz19_2
  try clear hcz19_3
  try clear hcz20_0
  try clear hcz20_1
  try clear hcz20_2
  try clear hcz20_3
  try clear hfz10_0
  try clear hfz10_1
  try clear hfz10_2
  try clear hfz10_3
  try clear hfz11_0
  try clear hfz11_1
  try clear hfz11_2
  try clear hfz11_3
  try clear hfz13_0
  try clear hfz13_1
  try clear hfz13_2
  try clear hfz13_3
  try clear hfz14_0
  try clear hfz14_1
  try clear hfz14_2
  try clear hfz14_3
  try clear hfz16_0
  try clear hfz16_1
  try clear hfz16_2
  try clear hfz16_3
  try clear hfz17_0
  try clear hfz17_1
  try clear hfz17_2
  try clear hfz17_3
  try clear hfz19_0
  try clear hfz19_1
  try clear hfz19_2
  try clear hfz19_3
  try clear hfz20_0
  try clear hfz20_1
  try clear hfz20_2
  try clear hfz20_3
  obtain ⟨kq, x33_2, rfl, HA, HJ2, BK101, BK102, HB⟩ := hcut
  cases kq with
  | zero => exact absurd HA.out (by simp [spec_l01Same.j0])
  | succ kj2 =>
   have H := HA.out
   clear HA
   simp only [spec_l01Same.j0] at H
   by_cases c21 : x33_2 = true
   ·subst c21
    have H1 : (some false) = some r := by rw [if_pos rfl] at H;exact H
    clear H
    have H := H1
    clear H1
    obtain rfl := Option.some.inj H
    go_wp2
    go_ret
    exact ⟨by first|rfl|(simp [errW_none, errW_some] <;> rfl)|(simp [*, errW_none, errW_some] <;> rfl), by repeat (first|(with_reducible first|exact HB.out|apply below_alloc|apply pw_below_drewN|apply below_drew1|refine below_set ?_ GE101.out|refine below_set ?_ GE102.out)|exact HB.out)⟩
   ·replace c21 := Bool.eq_false_iff.mpr c21
    subst c21
    have H1 : (spec_l01Same.l0 kj2 0 a0_0 a0_1 a0_2 l0_3 a1_0 a1_1 a1_2 l1_3) = some r := by rw [if_neg (show ¬ (false = true) by decide)] at H;exact H
    clear H
    have H := H1
    clear H1
    have H' := Aside0.mk H
    clear H
    go_wp2
    go_loopg [5] kj2 (fun kq v5 w' => ∃ (x5_2 : Int), v5 = .int .i64 x5_2 ∧ Aside0 (spec_l01Same.l0 kq x5_2 a0_0 a0_1 a0_2 l0_3 a1_0 a1_1 a1_2 l1_3 = some r) ∧ Aside0 (kq ≤ kj2) ∧ Aside0 (w'.heap[gb101]? = some (.cells #[.string a0_0, .string a0_1, .bool a0_2, (.slice A0_3 l0_3.length c0_3)] 53 (0, 0))) ∧ Aside0 (w'.heap[gb102]? = some (.cells #[.string a1_0, .string a1_1, .bool a1_2, (.slice A1_3 l1_3.length c1_3)] 53 (0, 0))) ∧ Aside0 (Below w.heap.size w w'))
    case atStart => exact ⟨(0), (by first|rfl|(simp;done)|(simp [*];done)), H', ⟨Nat.le_refl _⟩, ⟨by (with_reducible repeat (first|refine blk_drewN ?_ _|refine blk_drew ?_|refine blk_alloc ?_ _));exact BK101.out⟩, ⟨by (with_reducible repeat (first|refine blk_drewN ?_ _|refine blk_drew ?_|refine blk_alloc ?_ _));exact BK102.out⟩, ⟨by repeat (first|(with_reducible first|exact HB.out|apply below_alloc|apply pw_below_drewN|apply below_drew1|refine below_set ?_ GE101.out|refine below_set ?_ GE102.out)|exact HB.out)⟩⟩
    case round =>
     clear H'
     try clear c1
     try clear c2
     try clear p2
     try clear c6
     try clear c6b0
     try clear c6b1
     try clear c7
     try clear c7b0
     try clear c7b1
     try clear c8
     try clear c8b0
     try clear c8b1
     try clear c8b2
     try clear c9
     try clear c12
     try clear c13
     try clear c15
     try clear c18
     try clear c21
     try clear hcz10_0
     try clear hcz10_1
     try clear hcz10_2
     try clear hcz10_3
     try clear hcz11_0
     try clear hcz11_1
     try clear hcz11_2
     try clear hcz11_3
     try clear hcz13_0
     try clear hcz13_1
     try clear hcz13_2
     try clear hcz13_3
     try clear hcz14_0
     try clear hcz14_1
     try clear hcz14_2
     try clear hcz14_3
     try clear hcz16_0
     try clear hcz16_1
     try clear hcz16_2
     try clear hcz16_3
     try clear hcz17_0
     try clear hcz17_1
     try clear hcz17_2
     try clear hcz17_3
     try clear hcz19_0
     try clear hcz19_1
     try clear hcz19_2
     try clear hcz19_3
     try clear hcz20_0
     try clear hcz20_1
     try clear hcz20_2
     try clear hcz20_3
     try clear hfz10_0
     try clear hfz10_1
     try clear hfz10_2
     try clear hfz10_3
     try clear hfz11_0
     try clear hfz11_1
     try clear hfz11_2
     try clear hfz11_3
     try clear hfz13_0
     try clear hfz13_1
     try clear hfz13_2
     try clear hfz13_3
     try clear hfz14_0
     try clear hfz14_1
     try clear hfz14_2
     try clear hfz14_3
     try clear hfz16_0
     try clear hfz16_1
     try clear hfz16_2
     try clear hfz16_3
     try clear hfz17_0
     try clear hfz17_1
     try clear hfz17_2
     try clear hfz17_3
     try clear hfz19_0
     try clear hfz19_1
     try clear hfz19_2
     try clear hfz19_3
     try clear hfz20_0
     try clear hfz20_1
     try clear hfz20_2
     try clear hfz20_3
     try clear p2
     obtain ⟨x5_2, rfl, HA, HK2, BK101, BK102, HB⟩ := hrel
     cases gk with
     | zero => exact absurd HA.out (by simp [spec_l01Same.l0])
     | succ k2 =>
      have H := HA.out
      clear HA
      simp only [spec_l01Same.l0] at H
      by_cases c22 : x5_2 < (l0_3.length : Int)
      ·rw [if_pos c22] at H
       have c22b0 : decide (x5_2 < (l0_3.length : Int)) = true := decide_eq_true c22
       clear c22
       by_cases c23 : 0 ≤ x5_2
       ·rw [if_pos c23] at H
        have c23b0 : decide (0 ≤ x5_2) = true := decide_eq_true c23
        clear c23
        by_cases c24 : x5_2 < (l1_3.length : Int)
        ·rw [if_pos c24] at H
         have c24b0 : decide (x5_2 < (l1_3.length : Int)) = true := decide_eq_true c24
         clear c24
         replace H := Option.bind_eq_some_iff.mp H
         obtain ⟨t105, A250, H⟩ := H
         replace H : (if t105 = true then (spec_l01Same.l0 k2 (wrap64 (x5_2 + 1)) a0_0 a0_1 a0_2 l0_3 a1_0 a1_1 a1_2 l1_3) else (some false)) = some r := H
         have A25 := Aside0.mk A250
         clear A250
         by_cases c26 : t105 = true
         ·subst c26
          have H1 : (spec_l01Same.l0 k2 (wrap64 (x5_2 + 1)) a0_0 a0_1 a0_2 l0_3 a1_0 a1_1 a1_2 l1_3) = some r := by rw [if_pos rfl] at H;exact H
          clear H
          have H := H1
          clear H1
          have H' := Aside0.mk H
          clear H
          have hnb27 := NB101_102.out
          have hnc27 := NB102_101.out
          have hcz28_0 : wr.cell? ⟨gb101, 0, none⟩ = some (.string a0_0) := (blk_cell BK101.out 0).trans rfl
          have hcz28_1 : wr.cell? ⟨gb101, 1, none⟩ = some (.string a0_1) := (blk_cell BK101.out 1).trans rfl
          have hcz28_2 : wr.cell? ⟨gb101, 2, none⟩ = some (.bool a0_2) := (blk_cell BK101.out 2).trans rfl
          have hcz28_3 : wr.cell? ⟨gb101, 3, none⟩ = some (.slice A0_3 l0_3.length c0_3) := (blk_cell BK101.out 3).trans rfl
          have hfz28_0 := blk_frozen BK101.out 0
          have hfz28_1 := blk_frozen BK101.out 1
          have hfz28_2 := blk_frozen BK101.out 2
          have hfz28_3 := blk_frozen BK101.out 3
          try go_wp2
          have n0_ := Aside0.mk (blk_drew BK101.out)
          have n1_ := Aside0.mk (blk_drew BK102.out)
          have n2_ := Aside0.mk (below_drew1 HB.out)
          clear BK101
          clear BK102
          clear HB
          have BK101 := n0_
          have BK102 := n1_
          have HB := n2_
          clear n0_ n1_ n2_
          have p103 : 0 ≤ (x5_2 : Int) := of_decide_eq_true (by first|(with_reducible assumption)|assumption)
          have q103 : x5_2 < (l0_3.length : Int) := of_decide_eq_true (by first|(with_reducible assumption)|assumption)
          obtain ⟨ad103, A103_3, c103_3, e103, hx103_0, hx103_1, hx103_2, hx103_3, hl103_3, hi103_3⟩ := at_T53 HR0_3.out x5_2 p103 q103
          have hw103_3 := hx103_3
          have hw103_2 := hx103_2
          have hw103_1 := hx103_1
          have hw103_0 := hx103_0
          cases e103
          replace hx103_0 := (HB.out.cell (World.block_lt_of_cell? w _ hx103_0)).trans hx103_0
          replace hx103_1 := (HB.out.cell (World.block_lt_of_cell? w _ hx103_1)).trans hx103_1
          replace hx103_2 := (HB.out.cell (World.block_lt_of_cell? w _ hx103_2)).trans hx103_2
          replace hx103_3 := (HB.out.cell (World.block_lt_of_cell? w _ hx103_3)).trans hx103_3
          have HR103_3 := Aside0.mk hi103_3
          have HC103_3 := Aside0.mk hl103_3
          clear hi103_3 hl103_3
          replace p103 := eq_true p103
          replace q103 := eq_true q103
          have p104 : 0 ≤ (x5_2 : Int) := of_decide_eq_true (by first|(with_reducible assumption)|assumption)
          have q104 : x5_2 < (l1_3.length : Int) := of_decide_eq_true (by first|(with_reducible assumption)|assumption)
          obtain ⟨ad104, A104_3, c104_3, e104, hx104_0, hx104_1, hx104_2, hx104_3, hl104_3, hi104_3⟩ := at_T53 HR1_3.out x5_2 p104 q104
          have hw104_3 := hx104_3
          have hw104_2 := hx104_2
          have hw104_1 := hx104_1
          have hw104_0 := hx104_0
          cases e104
          replace hx104_0 := (HB.out.cell (World.block_lt_of_cell? w _ hx104_0)).trans hx104_0
          replace hx104_1 := (HB.out.cell (World.block_lt_of_cell? w _ hx104_1)).trans hx104_1
          replace hx104_2 := (HB.out.cell (World.block_lt_of_cell? w _ hx104_2)).trans hx104_2
          replace hx104_3 := (HB.out.cell (World.block_lt_of_cell? w _ hx104_3)).trans hx104_3
          have HR104_3 := Aside0.mk hi104_3
          have HC104_3 := Aside0.mk hl104_3
          clear hi104_3 hl104_3
          replace p104 := eq_true p104
          replace q104 := eq_true q104
          refine start_ (n := 12) (S := fun w' => w'.cell? ⟨gb101, 0, none⟩ = some (.string a0_0) ∧ w'.cell? ⟨gb101, 1, none⟩ = some (.string a0_1) ∧ w'.cell? ⟨gb101, 2, none⟩ = some (.bool a0_2) ∧ w'.cell? ⟨gb101, 3, none⟩ = some (.slice (some ad103) l0_3.length c0_3) ∧ w'.cell? ⟨gb102, 0, none⟩ = some (.string a1_0) ∧ w'.cell? ⟨gb102, 1, none⟩ = some (.string a1_1) ∧ w'.cell? ⟨gb102, 2, none⟩ = some (.bool a1_2) ∧ w'.cell? ⟨gb102, 3, none⟩ = some (.slice (some ad104) l1_3.length c1_3) ∧ w'.cell? (ad103.add ((x5_2).toNat * 4)) = some (.string ((rd_T53 l0_3 x5_2).f0)) ∧ w'.cell? ⟨(ad103.add ((x5_2).toNat * 4)).block, (ad103.add ((x5_2).toNat * 4)).off + 1, none⟩ = some (.string ((rd_T53 l0_3 x5_2).f1)) ∧ w'.cell? ⟨(ad103.add ((x5_2).toNat * 4)).block, (ad103.add ((x5_2).toNat * 4)).off + 2, none⟩ = some (.bool ((rd_T53 l0_3 x5_2).f2)) ∧ w'.cell? ⟨(ad103.add ((x5_2).toNat * 4)).block, (ad103.add ((x5_2).toNat * 4)).off + 3, none⟩ = some (.slice A103_3 ((rd_T53 l0_3 x5_2).f3).length c103_3) ∧ w'.cell? (ad104.add ((x5_2).toNat * 4)) = some (.string ((rd_T53 l1_3 x5_2).f0)) ∧ w'.cell? ⟨(ad104.add ((x5_2).toNat * 4)).block, (ad104.add ((x5_2).toNat * 4)).off + 1, none⟩ = some (.string ((rd_T53 l1_3 x5_2).f1)) ∧ w'.cell? ⟨(ad104.add ((x5_2).toNat * 4)).block, (ad104.add ((x5_2).toNat * 4)).off + 2, none⟩ = some (.bool ((rd_T53 l1_3 x5_2).f2)) ∧ w'.cell? ⟨(ad104.add ((x5_2).toNat * 4)).block, (ad104.add ((x5_2).toNat * 4)).off + 3, none⟩ = some (.slice A104_3 ((rd_T53 l1_3 x5_2).f3).length c104_3)) (ds := []) #[false, false, false, false, false, false, false, false, false, false, false, false] (by kernel_rfl) rfl rfl ⟨(blk_cell BK101.out 0).trans rfl, (blk_cell BK101.out 1).trans rfl, (blk_cell BK101.out 2).trans rfl, (blk_cell BK101.out 3).trans rfl, (blk_cell BK102.out 0).trans rfl, (blk_cell BK102.out 1).trans rfl, (blk_cell BK102.out 2).trans rfl, (blk_cell BK102.out 3).trans rfl, ((HB.out.cell (World.block_lt_of_cell? w _ hw103_0)).trans hw103_0), ((HB.out.cell (World.block_lt_of_cell? w _ hw103_1)).trans hw103_1), ((HB.out.cell (World.block_lt_of_cell? w _ hw103_2)).trans hw103_2), ((HB.out.cell (World.block_lt_of_cell? w _ hw103_3)).trans hw103_3), ((HB.out.cell (World.block_lt_of_cell? w _ hw104_0)).trans hw104_0), ((HB.out.cell (World.block_lt_of_cell? w _ hw104_1)).trans hw104_1), ((HB.out.cell (World.block_lt_of_cell? w _ hw104_2)).trans hw104_2), ((HB.out.cell (World.block_lt_of_cell? w _ hw104_3)).trans hw104_3)⟩ (fun hHeld => ?_);refine with_tabW spec_l01Same.tab6 spec_l01Same.bits6 (fun HT_ HW_ => ?_)
          generalize wr.drew = w29 at BK101 BK102 HB HR103_3 HR104_3 hx103_0 hx103_1 hx103_2 hx103_3 hx104_0 hx104_1 hx104_2 hx104_3 hHeld ⊢
          refine pure_ (i := 0) (N := some 41) (v := ?_) (a' := ?_) #[true, false, false, false, false, false, false, false, false, false, false, false] rfl rfl (any_of HT_.out (by kernel_rfl)) (fun _ _ _ h => h) (Or.inl ⟨by rfl, ?_⟩) ?_ ?_
          rotate_left
          ·intro w'
           go_simp
           with_reducible rfl
          rotate_left
          ·simp only [Act.put, List.setIfInBounds_toArray, List.set_cons_zero, List.set_cons_succ, i64_w, i32_w]
           rfl
          refine pure_ (i := 2) (N := some 43) (v := ?_) (a' := ?_) #[true, false, true, false, false, false, false, false, false, false, false, false] rfl rfl (any_of HT_.out (by kernel_rfl)) (fun _ _ _ h => h) (Or.inl ⟨by rfl, ?_⟩) ?_ ?_
          rotate_left
          ·intro w'
           go_simp
           with_reducible rfl
          rotate_left
          ·simp only [Act.put, List.setIfInBounds_toArray, List.set_cons_zero, List.set_cons_succ, i64_w, i32_w]
           rfl
          refine pure_ (i := 5) (N := some 46) (v := ?_) (a' := ?_) #[true, false, true, false, false, true, false, false, false, false, false, false] rfl rfl (any_of HT_.out (by kernel_rfl)) (fun _ _ _ h => h) (Or.inl ⟨by rfl, ?_⟩) ?_ ?_
          rotate_left
          ·intro w'
           go_simp
           with_reducible rfl
          rotate_left
          ·simp only [Act.put, List.setIfInBounds_toArray, List.set_cons_zero, List.set_cons_succ, i64_w, i32_w]
           rfl
          refine pure_ (i := 7) (N := some 48) (v := ?_) (a' := ?_) #[true, false, true, false, false, true, false, true, false, false, false, false] rfl rfl (any_of HT_.out (by kernel_rfl)) (fun _ _ _ h => h) (Or.inl ⟨by rfl, ?_⟩) ?_ ?_
          rotate_left
          ·intro w'
           go_simp
           with_reducible rfl
          rotate_left
          ·simp only [Act.put, List.setIfInBounds_toArray, List.set_cons_zero, List.set_cons_succ, i64_w, i32_w]
           rfl
          refine take_ (i := 1) (N := some 42) (v := ?_) (a' := ?_) #[true, true, true, false, false, true, false, true, false, false, false, false] rfl rfl (take_ofW HT_.out HW_.out (by kernel_rfl)) (fun _ _ _ h => h) (Or.inl ⟨by rfl, ?_⟩) hHeld ?_ ?_
          rotate_left
          ·rintro w' ⟨s0, s1, s2, s3, s4, s5, s6, s7, s8, s9, s10, s11, s12, s13, s14, s15⟩
           go_simp
           with_reducible rfl
          rotate_left
          ·simp only [Act.put, List.setIfInBounds_toArray, List.set_cons_zero, List.set_cons_succ, i64_w, i32_w]
           rfl
          refine pure_ (i := 3) (N := some 44) (v := ?_) (a' := ?_) #[true, true, true, true, false, true, false, true, false, false, false, false] rfl rfl (any_of HT_.out (by kernel_rfl)) (fun _ _ _ h => h) (Or.inl ⟨by rfl, ?_⟩) ?_ ?_
          rotate_left
          ·intro w'
           go_simp
           with_reducible rfl
          rotate_left
          ·simp only [Act.put, List.setIfInBounds_toArray, List.set_cons_zero, List.set_cons_succ, i64_w, i32_w]
           rfl
          refine take_ (i := 4) (N := some 45) (v := ?_) (a' := ?_) #[true, true, true, true, true, true, false, true, false, false, false, false] rfl rfl (take_ofW HT_.out HW_.out (by kernel_rfl)) (fun _ _ _ h => h) (Or.inl ⟨by rfl, ?_⟩) hHeld ?_ ?_
          rotate_left
          ·rintro w' ⟨s0, s1, s2, s3, s4, s5, s6, s7, s8, s9, s10, s11, s12, s13, s14, s15⟩
           go_simp
           with_reducible rfl
          rotate_left
          ·simp only [Act.put, List.setIfInBounds_toArray, List.set_cons_zero, List.set_cons_succ, i64_w, i32_w]
           rfl
          refine take_ (i := 6) (N := some 47) (v := ?_) (a' := ?_) #[true, true, true, true, true, true, true, true, false, false, false, false] rfl rfl (take_ofW HT_.out HW_.out (by kernel_rfl)) (fun _ _ _ h => h) (Or.inl ⟨by rfl, ?_⟩) hHeld ?_ ?_
          rotate_left
          ·rintro w' ⟨s0, s1, s2, s3, s4, s5, s6, s7, s8, s9, s10, s11, s12, s13, s14, s15⟩
           go_simp
           with_reducible rfl
          rotate_left
          ·simp only [Act.put, List.setIfInBounds_toArray, List.set_cons_zero, List.set_cons_succ, i64_w, i32_w]
           rfl
          refine pure_ (i := 8) (N := some 49) (v := ?_) (a' := ?_) #[true, true, true, true, true, true, true, true, true, false, false, false] rfl rfl (any_of HT_.out (by kernel_rfl)) (fun _ _ _ h => h) (Or.inl ⟨by rfl, ?_⟩) ?_ ?_
          rotate_left
          ·intro w'
           go_simp
           with_reducible rfl
          rotate_left
          ·simp only [Act.put, List.setIfInBounds_toArray, List.set_cons_zero, List.set_cons_succ, i64_w, i32_w]
           rfl
          refine take_ (i := 9) (N := some 50) (v := ?_) (a' := ?_) #[true, true, true, true, true, true, true, true, true, true, false, false] rfl rfl (take_ofW HT_.out HW_.out (by kernel_rfl)) (fun _ _ _ h => h) (Or.inl ⟨by rfl, ?_⟩) hHeld ?_ ?_
          rotate_left
          ·rintro w' ⟨s0, s1, s2, s3, s4, s5, s6, s7, s8, s9, s10, s11, s12, s13, s14, s15⟩
           go_simp
           with_reducible rfl
          rotate_left
          ·simp only [Act.put, List.setIfInBounds_toArray, List.set_cons_zero, List.set_cons_succ, i64_w, i32_w]
           rfl
          refine one_ (i := 10) (N := some 51) #[true, true, true, true, true, true, true, true, true, true, true, false] rfl rfl (one_of HT_.out (by kernel_rfl)) (by decide) (fun K hK => ?_)
          refine goes_ Try.func137 (by kernel_rfl) rfl #[.agg #[.string ((rd_T53 l0_3 x5_2).f0), .string ((rd_T53 l0_3 x5_2).f1), .bool ((rd_T53 l0_3 x5_2).f2), .slice A103_3 ((rd_T53 l0_3 x5_2).f3).length c103_3], .agg #[.string ((rd_T53 l1_3 x5_2).f0), .string ((rd_T53 l1_3 x5_2).f1), .bool ((rd_T53 l1_3 x5_2).f2), .slice A104_3 ((rd_T53 l1_3 x5_2).f3).length c104_3]] (by rfl) rfl rfl (by (try simp only [List.map_toArray, List.map_cons, List.map_nil]);first|done|rfl|(simp only [List.length_drop, List.length_take];rfl)) ?_
          with_reducible refine (ih k2 (by have := HJ2.out;have := HK2.out;omega) ((rd_T53 l0_3 x5_2).f0) ((rd_T53 l0_3 x5_2).f1) ((rd_T53 l0_3 x5_2).f2) _ _ ((rd_T53 l0_3 x5_2).f3) ((rd_T53 l1_3 x5_2).f0) ((rd_T53 l1_3 x5_2).f1) ((rd_T53 l1_3 x5_2).f2) _ _ ((rd_T53 l1_3 x5_2).f3) true _ ?side1 ?side2 ?side3 ?side4 A25.out).mono ?_
          (case side1 => repeat (first|exact (Kd.C_below HR103_3.out HB.out)|(with_reducible refine Kd.C_alloc ?_ _)|(with_reducible refine Kd.C_drewN ?_ _)|(with_reducible refine Kd.C_drew ?_)))
          (case side2 => exact HC103_3.out)
          (case side3 => repeat (first|exact (Kd.C_below HR104_3.out HB.out)|(with_reducible refine Kd.C_alloc ?_ _)|(with_reducible refine Kd.C_drewN ?_ _)|(with_reducible refine Kd.C_drew ?_)))
          (case side4 => exact HC104_3.out)
          rintro e w30 ⟨rfl, hb⟩
          refine ⟨_, rfl, ?_⟩
          have n0_ := Aside0.mk (blk_below (g := gb101) (o := .cells #[.string a0_0, .string a0_1, .bool a0_2, .slice (some ad103) l0_3.length c0_3] 53 (0, 0)) (by (with_reducible repeat (first|refine blk_drewN ?_ _|refine blk_drew ?_|refine blk_alloc ?_ _));exact BK101.out) hb)
          have n1_ := Aside0.mk (blk_below (g := gb102) (o := .cells #[.string a1_0, .string a1_1, .bool a1_2, .slice (some ad104) l1_3.length c1_3] 53 (0, 0)) (by (with_reducible repeat (first|refine blk_drewN ?_ _|refine blk_drew ?_|refine blk_alloc ?_ _));exact BK102.out) hb)
          have n2_ := Aside0.mk (below_step (by repeat (first|(with_reducible first|exact HB.out|apply below_alloc|apply pw_below_drewN|apply below_drew1|refine below_set ?_ GE101.out|refine below_set ?_ GE102.out)|exact HB.out)) hb)
          clear BK101
          clear BK102
          clear HB
          have BK101 := n0_
          have BK102 := n1_
          have HB := n2_
          clear n0_ n1_ n2_
          (try clear hb)
          (try clear hb2)
          (try clear hk)
          (try clear hi)
          refine hK.out _ _ ⟨(blk_cell BK101.out 0).trans rfl, (blk_cell BK101.out 1).trans rfl, (blk_cell BK101.out 2).trans rfl, (blk_cell BK101.out 3).trans rfl, (blk_cell BK102.out 0).trans rfl, (blk_cell BK102.out 1).trans rfl, (blk_cell BK102.out 2).trans rfl, (blk_cell BK102.out 3).trans rfl, ((HB.out.cell (World.block_lt_of_cell? w _ hw103_0)).trans hw103_0), ((HB.out.cell (World.block_lt_of_cell? w _ hw103_1)).trans hw103_1), ((HB.out.cell (World.block_lt_of_cell? w _ hw103_2)).trans hw103_2), ((HB.out.cell (World.block_lt_of_cell? w _ hw103_3)).trans hw103_3), ((HB.out.cell (World.block_lt_of_cell? w _ hw104_0)).trans hw104_0), ((HB.out.cell (World.block_lt_of_cell? w _ hw104_1)).trans hw104_1), ((HB.out.cell (World.block_lt_of_cell? w _ hw104_2)).trans hw104_2), ((HB.out.cell (World.block_lt_of_cell? w _ hw104_3)).trans hw104_3)⟩ (fun hHeld => ?_)
          clear hK K
          refine norm_ (a' := ?_) ?_ ?_
          rotate_left
          ·show Act.put _ (some 51) _ = _
           simp only [Act.put, List.setIfInBounds_toArray, List.set_cons_zero, List.set_cons_succ, i64_w, i32_w]
           rfl
          refine pure_ (i := 11) (N := some 52) (v := ?_) (a' := ?_) #[true, true, true, true, true, true, true, true, true, true, true, true] rfl rfl (any_of HT_.out (by kernel_rfl)) (fun _ _ _ h => h) (Or.inl ⟨by rfl, ?_⟩) ?_ ?_
          rotate_left
          ·intro w'
           go_simp
           with_reducible rfl
          rotate_left
          ·simp only [Act.put, List.setIfInBounds_toArray, List.set_cons_zero, List.set_cons_succ, i64_w, i32_w]
           rfl
          refine done_ (done_of HT_.out (by kernel_rfl)) ?_
          try go_wp2
          go_roundg k2
          case measure => have := HJ2.out;have := HK2.out;omega
          case rel => exact ⟨(wrap64 (x5_2 + 1)), (by first|rfl|(simp;done)|(simp [*];done)), H', ⟨by have := HJ2.out;have := HK2.out;omega⟩, ⟨by (with_reducible repeat (first|refine blk_drewN ?_ _|refine blk_drew ?_|refine blk_alloc ?_ _));exact BK101.out⟩, ⟨by (with_reducible repeat (first|refine blk_drewN ?_ _|refine blk_drew ?_|refine blk_alloc ?_ _));exact BK102.out⟩, ⟨by repeat (first|(with_reducible first|exact HB.out|apply below_alloc|apply pw_below_drewN|apply below_drew1|refine below_set ?_ GE101.out|refine below_set ?_ GE102.out)|exact HB.out)⟩⟩
         ·replace c26 := Bool.eq_false_iff.mpr c26
          subst c26
          have H1 : (some false) = some r := by rw [if_neg (show ¬ (false = true) by decide)] at H;exact H
          clear H
          have H := H1
          clear H1
          obtain rfl := Option.some.inj H
          have hnb31 := NB101_102.out
          have hnc31 := NB102_101.out
          have hcz32_0 : wr.cell? ⟨gb101, 0, none⟩ = some (.string a0_0) := (blk_cell BK101.out 0).trans rfl
          have hcz32_1 : wr.cell? ⟨gb101, 1, none⟩ = some (.string a0_1) := (blk_cell BK101.out 1).trans rfl
          have hcz32_2 : wr.cell? ⟨gb101, 2, none⟩ = some (.bool a0_2) := (blk_cell BK101.out 2).trans rfl
          have hcz32_3 : wr.cell? ⟨gb101, 3, none⟩ = some (.slice A0_3 l0_3.length c0_3) := (blk_cell BK101.out 3).trans rfl
          have hfz32_0 := blk_frozen BK101.out 0
          have hfz32_1 := blk_frozen BK101.out 1
          have hfz32_2 := blk_frozen BK101.out 2
          have hfz32_3 := blk_frozen BK101.out 3
          try go_wp2
          have n0_ := Aside0.mk (blk_drew BK101.out)
          have n1_ := Aside0.mk (blk_drew BK102.out)
          have n2_ := Aside0.mk (below_drew1 HB.out)
          clear BK101
          clear BK102
          clear HB
          have BK101 := n0_
          have BK102 := n1_
          have HB := n2_
          clear n0_ n1_ n2_
          have p103 : 0 ≤ (x5_2 : Int) := of_decide_eq_true (by first|(with_reducible assumption)|assumption)
          have q103 : x5_2 < (l0_3.length : Int) := of_decide_eq_true (by first|(with_reducible assumption)|assumption)
          obtain ⟨ad103, A103_3, c103_3, e103, hx103_0, hx103_1, hx103_2, hx103_3, hl103_3, hi103_3⟩ := at_T53 HR0_3.out x5_2 p103 q103
          have hw103_3 := hx103_3
          have hw103_2 := hx103_2
          have hw103_1 := hx103_1
          have hw103_0 := hx103_0
          cases e103
          replace hx103_0 := (HB.out.cell (World.block_lt_of_cell? w _ hx103_0)).trans hx103_0
          replace hx103_1 := (HB.out.cell (World.block_lt_of_cell? w _ hx103_1)).trans hx103_1
          replace hx103_2 := (HB.out.cell (World.block_lt_of_cell? w _ hx103_2)).trans hx103_2
          replace hx103_3 := (HB.out.cell (World.block_lt_of_cell? w _ hx103_3)).trans hx103_3
          have HR103_3 := Aside0.mk hi103_3
          have HC103_3 := Aside0.mk hl103_3
          clear hi103_3 hl103_3
          replace p103 := eq_true p103
          replace q103 := eq_true q103
          have p104 : 0 ≤ (x5_2 : Int) := of_decide_eq_true (by first|(with_reducible assumption)|assumption)
          have q104 : x5_2 < (l1_3.length : Int) := of_decide_eq_true (by first|(with_reducible assumption)|assumption)
          obtain ⟨ad104, A104_3, c104_3, e104, hx104_0, hx104_1, hx104_2, hx104_3, hl104_3, hi104_3⟩ := at_T53 HR1_3.out x5_2 p104 q104
          have hw104_3 := hx104_3
          have hw104_2 := hx104_2
          have hw104_1 := hx104_1
          have hw104_0 := hx104_0
          cases e104
          replace hx104_0 := (HB.out.cell (World.block_lt_of_cell? w _ hx104_0)).trans hx104_0
          replace hx104_1 := (HB.out.cell (World.block_lt_of_cell? w _ hx104_1)).trans hx104_1
          replace hx104_2 := (HB.out.cell (World.block_lt_of_cell? w _ hx104_2)).trans hx104_2
          replace hx104_3 := (HB.out.cell (World.block_lt_of_cell? w _ hx104_3)).trans hx104_3
          have HR104_3 := Aside0.mk hi104_3
          have HC104_3 := Aside0.mk hl104_3
          clear hi104_3 hl104_3
          replace p104 := eq_true p104
          replace q104 := eq_true q104
          refine start_ (n := 12) (S := fun w' => w'.cell? ⟨gb101, 0, none⟩ = some (.string a0_0) ∧ w'.cell? ⟨gb101, 1, none⟩ = some (.string a0_1) ∧ w'.cell? ⟨gb101, 2, none⟩ = some (.bool a0_2) ∧ w'.cell? ⟨gb101, 3, none⟩ = some (.slice (some ad103) l0_3.length c0_3) ∧ w'.cell? ⟨gb102, 0, none⟩ = some (.string a1_0) ∧ w'.cell? ⟨gb102, 1, none⟩ = some (.string a1_1) ∧ w'.cell? ⟨gb102, 2, none⟩ = some (.bool a1_2) ∧ w'.cell? ⟨gb102, 3, none⟩ = some (.slice (some ad104) l1_3.length c1_3) ∧ w'.cell? (ad103.add ((x5_2).toNat * 4)) = some (.string ((rd_T53 l0_3 x5_2).f0)) ∧ w'.cell? ⟨(ad103.add ((x5_2).toNat * 4)).block, (ad103.add ((x5_2).toNat * 4)).off + 1, none⟩ = some (.string ((rd_T53 l0_3 x5_2).f1)) ∧ w'.cell? ⟨(ad103.add ((x5_2).toNat * 4)).block, (ad103.add ((x5_2).toNat * 4)).off + 2, none⟩ = some (.bool ((rd_T53 l0_3 x5_2).f2)) ∧ w'.cell? ⟨(ad103.add ((x5_2).toNat * 4)).block, (ad103.add ((x5_2).toNat * 4)).off + 3, none⟩ = some (.slice A103_3 ((rd_T53 l0_3 x5_2).f3).length c103_3) ∧ w'.cell? (ad104.add ((x5_2).toNat * 4)) = some (.string ((rd_T53 l1_3 x5_2).f0)) ∧ w'.cell? ⟨(ad104.add ((x5_2).toNat * 4)).block, (ad104.add ((x5_2).toNat * 4)).off + 1, none⟩ = some (.string ((rd_T53 l1_3 x5_2).f1)) ∧ w'.cell? ⟨(ad104.add ((x5_2).toNat * 4)).block, (ad104.add ((x5_2).toNat * 4)).off + 2, none⟩ = some (.bool ((rd_T53 l1_3 x5_2).f2)) ∧ w'.cell? ⟨(ad104.add ((x5_2).toNat * 4)).block, (ad104.add ((x5_2).toNat * 4)).off + 3, none⟩ = some (.slice A104_3 ((rd_T53 l1_3 x5_2).f3).length c104_3)) (ds := []) #[false, false, false, false, false, false, false, false, false, false, false, false] (by kernel_rfl) rfl rfl ⟨(blk_cell BK101.out 0).trans rfl, (blk_cell BK101.out 1).trans rfl, (blk_cell BK101.out 2).trans rfl, (blk_cell BK101.out 3).trans rfl, (blk_cell BK102.out 0).trans rfl, (blk_cell BK102.out 1).trans rfl, (blk_cell BK102.out 2).trans rfl, (blk_cell BK102.out 3).trans rfl, ((HB.out.cell (World.block_lt_of_cell? w _ hw103_0)).trans hw103_0), ((HB.out.cell (World.block_lt_of_cell? w _ hw103_1)).trans hw103_1), ((HB.out.cell (World.block_lt_of_cell? w _ hw103_2)).trans hw103_2), ((HB.out.cell (World.block_lt_of_cell? w _ hw103_3)).trans hw103_3), ((HB.out.cell (World.block_lt_of_cell? w _ hw104_0)).trans hw104_0), ((HB.out.cell (World.block_lt_of_cell? w _ hw104_1)).trans hw104_1), ((HB.out.cell (World.block_lt_of_cell? w _ hw104_2)).trans hw104_2), ((HB.out.cell (World.block_lt_of_cell? w _ hw104_3)).trans hw104_3)⟩ (fun hHeld => ?_);refine with_tabW spec_l01Same.tab6 spec_l01Same.bits6 (fun HT_ HW_ => ?_)
          generalize wr.drew = w33 at BK101 BK102 HB HR103_3 HR104_3 hx103_0 hx103_1 hx103_2 hx103_3 hx104_0 hx104_1 hx104_2 hx104_3 hHeld ⊢
          refine pure_ (i := 0) (N := some 41) (v := ?_) (a' := ?_) #[true, false, false, false, false, false, false, false, false, false, false, false] rfl rfl (any_of HT_.out (by kernel_rfl)) (fun _ _ _ h => h) (Or.inl ⟨by rfl, ?_⟩) ?_ ?_
          rotate_left
          ·intro w'
           go_simp
           with_reducible rfl
          rotate_left
          ·simp only [Act.put, List.setIfInBounds_toArray, List.set_cons_zero, List.set_cons_succ, i64_w, i32_w]
           rfl
          refine pure_ (i := 2) (N := some 43) (v := ?_) (a' := ?_) #[true, false, true, false, false, false, false, false, false, false, false, false] rfl rfl (any_of HT_.out (by kernel_rfl)) (fun _ _ _ h => h) (Or.inl ⟨by rfl, ?_⟩) ?_ ?_
          rotate_left
          ·intro w'
           go_simp
           with_reducible rfl
          rotate_left
          ·simp only [Act.put, List.setIfInBounds_toArray, List.set_cons_zero, List.set_cons_succ, i64_w, i32_w]
           rfl
          refine pure_ (i := 5) (N := some 46) (v := ?_) (a' := ?_) #[true, false, true, false, false, true, false, false, false, false, false, false] rfl rfl (any_of HT_.out (by kernel_rfl)) (fun _ _ _ h => h) (Or.inl ⟨by rfl, ?_⟩) ?_ ?_
          rotate_left
          ·intro w'
           go_simp
           with_reducible rfl
          rotate_left
          ·simp only [Act.put, List.setIfInBounds_toArray, List.set_cons_zero, List.set_cons_succ, i64_w, i32_w]
           rfl
          refine pure_ (i := 7) (N := some 48) (v := ?_) (a' := ?_) #[true, false, true, false, false, true, false, true, false, false, false, false] rfl rfl (any_of HT_.out (by kernel_rfl)) (fun _ _ _ h => h) (Or.inl ⟨by rfl, ?_⟩) ?_ ?_
          rotate_left
          ·intro w'
           go_simp
           with_reducible rfl
          rotate_left
          ·simp only [Act.put, List.setIfInBounds_toArray, List.set_cons_zero, List.set_cons_succ, i64_w, i32_w]
           rfl
          refine take_ (i := 1) (N := some 42) (v := ?_) (a' := ?_) #[true, true, true, false, false, true, false, true, false, false, false, false] rfl rfl (take_ofW HT_.out HW_.out (by kernel_rfl)) (fun _ _ _ h => h) (Or.inl ⟨by rfl, ?_⟩) hHeld ?_ ?_
          rotate_left
          ·rintro w' ⟨s0, s1, s2, s3, s4, s5, s6, s7, s8, s9, s10, s11, s12, s13, s14, s15⟩
           go_simp
           with_reducible rfl
          rotate_left
          ·simp only [Act.put, List.setIfInBounds_toArray, List.set_cons_zero, List.set_cons_succ, i64_w, i32_w]
           rfl
          refine pure_ (i := 3) (N := some 44) (v := ?_) (a' := ?_) #[true, true, true, true, false, true, false, true, false, false, false, false] rfl rfl (any_of HT_.out (by kernel_rfl)) (fun _ _ _ h => h) (Or.inl ⟨by rfl, ?_⟩) ?_ ?_
          rotate_left
          ·intro w'
           go_simp
           with_reducible rfl
          rotate_left
          ·simp only [Act.put, List.setIfInBounds_toArray, List.set_cons_zero, List.set_cons_succ, i64_w, i32_w]
           rfl
          refine take_ (i := 4) (N := some 45) (v := ?_) (a' := ?_) #[true, true, true, true, true, true, false, true, false, false, false, false] rfl rfl (take_ofW HT_.out HW_.out (by kernel_rfl)) (fun _ _ _ h => h) (Or.inl ⟨by rfl, ?_⟩) hHeld ?_ ?_
          rotate_left
          ·rintro w' ⟨s0, s1, s2, s3, s4, s5, s6, s7, s8, s9, s10, s11, s12, s13, s14, s15⟩
           go_simp
           with_reducible rfl
          rotate_left
          ·simp only [Act.put, List.setIfInBounds_toArray, List.set_cons_zero, List.set_cons_succ, i64_w, i32_w]
           rfl
          refine take_ (i := 6) (N := some 47) (v := ?_) (a' := ?_) #[true, true, true, true, true, true, true, true, false, false, false, false] rfl rfl (take_ofW HT_.out HW_.out (by kernel_rfl)) (fun _ _ _ h => h) (Or.inl ⟨by rfl, ?_⟩) hHeld ?_ ?_
          rotate_left
          ·rintro w' ⟨s0, s1, s2, s3, s4, s5, s6, s7, s8, s9, s10, s11, s12, s13, s14, s15⟩
           go_simp
           with_reducible rfl
          rotate_left
          ·simp only [Act.put, List.setIfInBounds_toArray, List.set_cons_zero, List.set_cons_succ, i64_w, i32_w]
           rfl
          refine pure_ (i := 8) (N := some 49) (v := ?_) (a' := ?_) #[true, true, true, true, true, true, true, true, true, false, false, false] rfl rfl (any_of HT_.out (by kernel_rfl)) (fun _ _ _ h => h) (Or.inl ⟨by rfl, ?_⟩) ?_ ?_
          rotate_left
          ·intro w'
           go_simp
           with_reducible rfl
          rotate_left
          ·simp only [Act.put, List.setIfInBounds_toArray, List.set_cons_zero, List.set_cons_succ, i64_w, i32_w]
           rfl
          refine take_ (i := 9) (N := some 50) (v := ?_) (a' := ?_) #[true, true, true, true, true, true, true, true, true, true, false, false] rfl rfl (take_ofW HT_.out HW_.out (by kernel_rfl)) (fun _ _ _ h => h) (Or.inl ⟨by rfl, ?_⟩) hHeld ?_ ?_
          rotate_left
          ·rintro w' ⟨s0, s1, s2, s3, s4, s5, s6, s7, s8, s9, s10, s11, s12, s13, s14, s15⟩
           go_simp
           with_reducible rfl
          rotate_left
          ·simp only [Act.put, List.setIfInBounds_toArray, List.set_cons_zero, List.set_cons_succ, i64_w, i32_w]
           rfl
          refine one_ (i := 10) (N := some 51) #[true, true, true, true, true, true, true, true, true, true, true, false] rfl rfl (one_of HT_.out (by kernel_rfl)) (by decide) (fun K hK => ?_)
          refine goes_ Try.func137 (by kernel_rfl) rfl #[.agg #[.string ((rd_T53 l0_3 x5_2).f0), .string ((rd_T53 l0_3 x5_2).f1), .bool ((rd_T53 l0_3 x5_2).f2), .slice A103_3 ((rd_T53 l0_3 x5_2).f3).length c103_3], .agg #[.string ((rd_T53 l1_3 x5_2).f0), .string ((rd_T53 l1_3 x5_2).f1), .bool ((rd_T53 l1_3 x5_2).f2), .slice A104_3 ((rd_T53 l1_3 x5_2).f3).length c104_3]] (by rfl) rfl rfl (by (try simp only [List.map_toArray, List.map_cons, List.map_nil]);first|done|rfl|(simp only [List.length_drop, List.length_take];rfl)) ?_
          with_reducible refine (ih k2 (by have := HJ2.out;have := HK2.out;omega) ((rd_T53 l0_3 x5_2).f0) ((rd_T53 l0_3 x5_2).f1) ((rd_T53 l0_3 x5_2).f2) _ _ ((rd_T53 l0_3 x5_2).f3) ((rd_T53 l1_3 x5_2).f0) ((rd_T53 l1_3 x5_2).f1) ((rd_T53 l1_3 x5_2).f2) _ _ ((rd_T53 l1_3 x5_2).f3) false _ ?side1 ?side2 ?side3 ?side4 A25.out).mono ?_
          (case side1 => repeat (first|exact (Kd.C_below HR103_3.out HB.out)|(with_reducible refine Kd.C_alloc ?_ _)|(with_reducible refine Kd.C_drewN ?_ _)|(with_reducible refine Kd.C_drew ?_)))
          (case side2 => exact HC103_3.out)
          (case side3 => repeat (first|exact (Kd.C_below HR104_3.out HB.out)|(with_reducible refine Kd.C_alloc ?_ _)|(with_reducible refine Kd.C_drewN ?_ _)|(with_reducible refine Kd.C_drew ?_)))
          (case side4 => exact HC104_3.out)
          rintro e w34 ⟨rfl, hb⟩
          refine ⟨_, rfl, ?_⟩
          have n0_ := Aside0.mk (blk_below (g := gb101) (o := .cells #[.string a0_0, .string a0_1, .bool a0_2, .slice (some ad103) l0_3.length c0_3] 53 (0, 0)) (by (with_reducible repeat (first|refine blk_drewN ?_ _|refine blk_drew ?_|refine blk_alloc ?_ _));exact BK101.out) hb)
          have n1_ := Aside0.mk (blk_below (g := gb102) (o := .cells #[.string a1_0, .string a1_1, .bool a1_2, .slice (some ad104) l1_3.length c1_3] 53 (0, 0)) (by (with_reducible repeat (first|refine blk_drewN ?_ _|refine blk_drew ?_|refine blk_alloc ?_ _));exact BK102.out) hb)
          have n2_ := Aside0.mk (below_step (by repeat (first|(with_reducible first|exact HB.out|apply below_alloc|apply pw_below_drewN|apply below_drew1|refine below_set ?_ GE101.out|refine below_set ?_ GE102.out)|exact HB.out)) hb)
          clear BK101
          clear BK102
          clear HB
          have BK101 := n0_
          have BK102 := n1_
          have HB := n2_
          clear n0_ n1_ n2_
          (try clear hb)
          (try clear hb2)
          (try clear hk)
          (try clear hi)
          refine hK.out _ _ ⟨(blk_cell BK101.out 0).trans rfl, (blk_cell BK101.out 1).trans rfl, (blk_cell BK101.out 2).trans rfl, (blk_cell BK101.out 3).trans rfl, (blk_cell BK102.out 0).trans rfl, (blk_cell BK102.out 1).trans rfl, (blk_cell BK102.out 2).trans rfl, (blk_cell BK102.out 3).trans rfl, ((HB.out.cell (World.block_lt_of_cell? w _ hw103_0)).trans hw103_0), ((HB.out.cell (World.block_lt_of_cell? w _ hw103_1)).trans hw103_1), ((HB.out.cell (World.block_lt_of_cell? w _ hw103_2)).trans hw103_2), ((HB.out.cell (World.block_lt_of_cell? w _ hw103_3)).trans hw103_3), ((HB.out.cell (World.block_lt_of_cell? w _ hw104_0)).trans hw104_0), ((HB.out.cell (World.block_lt_of_cell? w _ hw104_1)).trans hw104_1), ((HB.out.cell (World.block_lt_of_cell? w _ hw104_2)).trans hw104_2), ((HB.out.cell (World.block_lt_of_cell? w _ hw104_3)).trans hw104_3)⟩ (fun hHeld => ?_)
          clear hK K
          refine norm_ (a' := ?_) ?_ ?_
          rotate_left
          ·show Act.put _ (some 51) _ = _
           simp only [Act.put, List.setIfInBounds_toArray, List.set_cons_zero, List.set_cons_succ, i64_w, i32_w]
           rfl
          refine pure_ (i := 11) (N := some 52) (v := ?_) (a' := ?_) #[true, true, true, true, true, true, true, true, true, true, true, true] rfl rfl (any_of HT_.out (by kernel_rfl)) (fun _ _ _ h => h) (Or.inl ⟨by rfl, ?_⟩) ?_ ?_
          rotate_left
          ·intro w'
           go_simp
           with_reducible rfl
          rotate_left
          ·simp only [Act.put, List.setIfInBounds_toArray, List.set_cons_zero, List.set_cons_succ, i64_w, i32_w]
           rfl
          refine done_ (done_of HT_.out (by kernel_rfl)) ?_
          try go_wp2
          go_ret
          exact ⟨by first|rfl|(simp [errW_none, errW_some] <;> rfl)|(simp [*, errW_none, errW_some] <;> rfl), by repeat (first|(with_reducible first|exact HB.out|apply below_alloc|apply pw_below_drewN|apply below_drew1|refine below_set ?_ GE101.out|refine below_set ?_ GE102.out)|exact HB.out)⟩
        ·rw [if_neg c24] at H
         exact absurd H (by simp)
       ·rw [if_neg c23] at H
        exact absurd H (by simp)
      ·rw [if_neg c22] at H
       have c22b0 : decide (x5_2 < (l0_3.length : Int)) = false := decide_eq_false c22
       clear c22
       obtain rfl := Option.some.inj H
       have hnb35 := NB101_102.out
       have hnc35 := NB102_101.out
       have hcz36_0 : wr.cell? ⟨gb101, 0, none⟩ = some (.string a0_0) := (blk_cell BK101.out 0).trans rfl
       have hcz36_1 : wr.cell? ⟨gb101, 1, none⟩ = some (.string a0_1) := (blk_cell BK101.out 1).trans rfl
       have hcz36_2 : wr.cell? ⟨gb101, 2, none⟩ = some (.bool a0_2) := (blk_cell BK101.out 2).trans rfl
       have hcz36_3 : wr.cell? ⟨gb101, 3, none⟩ = some (.slice A0_3 l0_3.length c0_3) := (blk_cell BK101.out 3).trans rfl
       have hfz36_0 := blk_frozen BK101.out 0
       have hfz36_1 := blk_frozen BK101.out 1
       have hfz36_2 := blk_frozen BK101.out 2
       have hfz36_3 := blk_frozen BK101.out 3
       go_wp2
       go_ret
       exact ⟨by first|rfl|(simp [errW_none, errW_some] <;> rfl)|(simp [*, errW_none, errW_some] <;> rfl), by repeat (first|(with_reducible first|exact HB.out|apply below_alloc|apply pw_below_drewN|apply below_drew1|refine below_set ?_ GE101.out|refine below_set ?_ GE102.out)|exact HB.out)⟩
end Go.Proofs.Ytgdecbliegelmaa.Q

