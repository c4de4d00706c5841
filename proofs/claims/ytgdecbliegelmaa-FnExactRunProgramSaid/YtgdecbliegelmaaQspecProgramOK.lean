-- Written by wip/myprint.py (this session's) over the kit's print: not the kit's own print.
import Derived.Test.YtgdecbliegelmaaQ0
import Derived.Test.YtgdecbliegelmaaQspecl01Between
import Derived.Test.YtgdecbliegelmaaQspecl17HasTo
import Derived.Test.YtgdecbliegelmaaQspecl17HasN
import Derived.Test.YtgdecbliegelmaaQspecl17Goes
namespace Go.Proofs.Ytgdecbliegelmaa.Q
open Go.RowKit Go.Proofs.YtgdecbliegelmaaW.PrintWords Go.Proofs.YtgdecbliegelmaaW.PrintLast Go.Proofs.YtgdecbliegelmaaW.PrintMore
attribute [local go_sem] max2_int min2_int max_two min_two max_three min_three max_four min_four   -- for this text's walks alone
set_option linter.unusedVariables false
set_option linter.unusedSimpArgs false

/-! ### spec_ProgramOK: function 22 -/
mutual
def spec_ProgramOK.l0 : Nat → List (S88) → Int → Option (Bool)
  | 0, _, _ => none
  | k + 1, x0, x3 => if x3 < (x0.length : Int) then (if 0 ≤ x3 then ((spec_l17HasTo.f ((rd_T88 x0 x3).f0)).bind fun t106 => (if t106 = true then (spec_ProgramOK.j1 k x0 x3 (wrap64 ((x0.length : Int) - 1)) ((rd_T88 x0 x3).f0) ((rd_T88 x0 x3).f1) ((rd_T88 x0 x3).f2)) else (spec_ProgramOK.j1 k x0 x3 0 ((rd_T88 x0 x3).f0) ((rd_T88 x0 x3).f1) ((rd_T88 x0 x3).f2)))) else (none)) else (if 0 ≤ (wrap64 ((x0.length : Int) - 1)) then (if (wrap64 ((x0.length : Int) - 1)) < (x0.length : Int) then ((spec_l17Goes.f ((rd_T88 x0 (wrap64 ((x0.length : Int) - 1))).f0)).bind fun t103 => (some (!t103))) else (none)) else (none))
def spec_ProgramOK.j1 : Nat → List (S88) → Int → Int → Int → Int → Int → Option (Bool)
  | 0, _, _, _, _, _, _ => none
  | k + 1, x0, x3, x5, x106000, x106001, x106002 => (spec_l01Between.f x106000 1 10).bind fun t107 => (if t107 = true then ((spec_l01Between.f x106002 0 x5).bind fun t108 => (spec_ProgramOK.j2 k x0 x3 (!t108) x106000 x106001 x106002)) else (spec_ProgramOK.j2 k x0 x3 true x106000 x106001 x106002))
def spec_ProgramOK.j2 : Nat → List (S88) → Int → Bool → Int → Int → Int → Option (Bool)
  | 0, _, _, _, _, _, _ => none
  | k + 1, x0, x3, x36, x106000, x106001, x106002 => if x36 = true then (some false) else (if x106000 = 10 then (if x106001 = 2 then (spec_ProgramOK.l0 k x0 (wrap64 (x3 + 1))) else (if x106001 = 4 then (spec_ProgramOK.l0 k x0 (wrap64 (x3 + 1))) else (some false))) else ((spec_l17HasN.f x106000).bind fun t109 => (if t109 = true then ((spec_l01Between.f x106001 0 1000).bind fun t110 => (if t110 = true then (spec_ProgramOK.l0 k x0 (wrap64 (x3 + 1))) else (some false))) else (if x106001 = 0 then (spec_ProgramOK.l0 k x0 (wrap64 (x3 + 1))) else (some false)))))
end
def spec_ProgramOK.f (k : Nat) (l0 : List (S88)) : Option (Bool) := (spec_l01Between.f (l0.length : Int) 1 50000).bind fun t101 => (if t101 = true then (spec_ProgramOK.l0 k l0 0) else (some false))
theorem spec_ProgramOK.mono_l : ∀ k, (∀ y0 y1, LeO (spec_ProgramOK.l0 k y0 y1) (spec_ProgramOK.l0 (k + 1) y0 y1)) ∧ (∀ y0 y1 y2 y3 y4 y5, LeO (spec_ProgramOK.j1 k y0 y1 y2 y3 y4 y5) (spec_ProgramOK.j1 (k + 1) y0 y1 y2 y3 y4 y5)) ∧ (∀ y0 y1 y2 y3 y4 y5, LeO (spec_ProgramOK.j2 k y0 y1 y2 y3 y4 y5) (spec_ProgramOK.j2 (k + 1) y0 y1 y2 y3 y4 y5))
  | 0 => ⟨fun _ _ r h => by simp [spec_ProgramOK.l0] at h, fun _ _ _ _ _ _ r h => by simp [spec_ProgramOK.j1] at h, fun _ _ _ _ _ _ r h => by simp [spec_ProgramOK.j2] at h⟩
  | k + 1 => by
    obtain ⟨ih0, ih1, ih2⟩ := spec_ProgramOK.mono_l k
    refine ⟨?_, ?_, ?_⟩
    · intro y0 y1
      unfold spec_ProgramOK.l0
      repeat' first
      | (with_reducible exact ih0 _ _)
      | (with_reducible exact ih1 _ _ _ _ _ _)
      | (with_reducible exact ih2 _ _ _ _ _ _)
      | (with_reducible exact LeO.refl _)
      | (with_reducible exact LeO.none _)
      | (with_reducible refine LeO.ite ?_ ?_)
      | (with_reducible refine LeO.bind ?_ (fun _ => ?_))
      | exact ih0 _ _
      | exact ih1 _ _ _ _ _ _
      | exact ih2 _ _ _ _ _ _
      | exact LeO.none _
      | refine LeO.ite ?_ ?_
      | refine LeO.bind ?_ (fun _ => ?_)
    · intro y0 y1 y2 y3 y4 y5
      unfold spec_ProgramOK.j1
      repeat' first
      | (with_reducible exact ih0 _ _)
      | (with_reducible exact ih1 _ _ _ _ _ _)
      | (with_reducible exact ih2 _ _ _ _ _ _)
      | (with_reducible exact LeO.refl _)
      | (with_reducible exact LeO.none _)
      | (with_reducible refine LeO.ite ?_ ?_)
      | (with_reducible refine LeO.bind ?_ (fun _ => ?_))
      | exact ih0 _ _
      | exact ih1 _ _ _ _ _ _
      | exact ih2 _ _ _ _ _ _
      | exact LeO.none _
      | refine LeO.ite ?_ ?_
      | refine LeO.bind ?_ (fun _ => ?_)
    · intro y0 y1 y2 y3 y4 y5
      unfold spec_ProgramOK.j2
      repeat' first
      | (with_reducible exact ih0 _ _)
      | (with_reducible exact ih1 _ _ _ _ _ _)
      | (with_reducible exact ih2 _ _ _ _ _ _)
      | (with_reducible exact LeO.refl _)
      | (with_reducible exact LeO.none _)
      | (with_reducible refine LeO.ite ?_ ?_)
      | (with_reducible refine LeO.bind ?_ (fun _ => ?_))
      | exact ih0 _ _
      | exact ih1 _ _ _ _ _ _
      | exact ih2 _ _ _ _ _ _
      | exact LeO.none _
      | refine LeO.ite ?_ ?_
      | refine LeO.bind ?_ (fun _ => ?_)
theorem spec_ProgramOK.mono : ∀ a0 k, LeO (spec_ProgramOK.f k a0) (spec_ProgramOK.f (k + 1) a0) := by
  intro a0 k
  obtain ⟨ih0, ih1, ih2⟩ := spec_ProgramOK.mono_l k
  unfold spec_ProgramOK.f
  repeat' first
      | (with_reducible exact ih0 _ _)
      | (with_reducible exact ih1 _ _ _ _ _ _)
      | (with_reducible exact ih2 _ _ _ _ _ _)
      | (with_reducible exact LeO.refl _)
      | (with_reducible exact LeO.none _)
      | (with_reducible refine LeO.ite ?_ ?_)
      | (with_reducible refine LeO.bind ?_ (fun _ => ?_))
      | exact ih0 _ _
      | exact ih1 _ _ _ _ _ _
      | exact ih2 _ _ _ _ _ _
      | exact LeO.none _
      | refine LeO.ite ?_ ?_
      | refine LeO.bind ?_ (fun _ => ?_)
set_option maxHeartbeats 8000000 in
set_option maxRecDepth 100000 in
theorem spec_ProgramOK.calls (k : Nat) (A0 : Option Addr) (c0 : Nat) (l0 : List (S88)) (r : Bool) (w : World) (hr0 : Kd.C k88 w A0 l0.length l0) (hc0 : l0.length ≤ c0) (h : spec_ProgramOK.f k l0 = some r) :
    Calls Try.prog 22 #[.slice A0 l0.length c0] w fun e w' => e = .returned (.bool r) ∧ Below w.heap.size w w' := by
  have hu88 := Try.underlying88
  have HR0 := Aside0.mk hr0
  have HC0 := Aside0.mk hc0
  clear hr0 hc0
  have HB := Aside0.mk (Below.refl w.heap.size w)
  have H : ((spec_l01Between.f (l0.length : Int) 1 50000).bind fun t101 => (if t101 = true then (spec_ProgramOK.l0 k l0 0) else (some false))) = some r := h
  clear h
  replace H := Option.bind_eq_some_iff.mp H
  obtain ⟨t101, A20, H⟩ := H
  replace H : (if t101 = true then (spec_ProgramOK.l0 k l0 0) else (some false)) = some r := H
  have A2 := Aside0.mk A20
  clear A20
  by_cases c3 : t101 = true
  · subst c3
    have H1 : (spec_ProgramOK.l0 k l0 0) = some r := by rw [if_pos rfl] at H; exact H
    clear H
    have H := H1
    clear H1
    have H' := Aside0.mk H
    clear H
    go_enter Try.func22, Try.ntmps22
    go_wp2_with (first | ((with_reducible refine gate_callee (f := 63) rfl ?_); refine goesL_ (some 8) rfl rfl Try.func63 (by kernel_rfl) rfl #[.int .i64 (l0.length : Int), .int .i64 1, .int .i64 50000] rfl (by (try simp only [List.map_toArray, List.map_cons, List.map_nil]); first | done | rfl | (simp only [List.length_drop, List.length_take]; rfl)) ?_; (with_reducible refine (spec_l01Between.calls (l0.length : Int) 1 50000 true _ A2.out).mono ?_); rintro e w' ⟨rfl, ⟨nd, rfl⟩⟩; refine ⟨_, rfl, ?_⟩))
    go_loopg [3] k (fun kq v3 w' => ∃ (x3_1 : Int), v3 = .int .i64 x3_1 ∧ Aside0 (spec_ProgramOK.l0 kq l0 x3_1 = some r) ∧ Aside0 (kq ≤ k) ∧ Aside0 (Below w.heap.size w w'))
    case atStart => exact ⟨(0), (by first | rfl | (simp; done) | (simp [*]; done)), H', ⟨Nat.le_refl _⟩, ⟨by repeat (first | (with_reducible first | exact HB.out | apply below_alloc | apply pw_below_drewN | apply below_drew1) | exact HB.out)⟩⟩
    case round =>
      clear H'
      try clear c2
      try clear p2
      try clear c3
      obtain ⟨x3_1, rfl, HA, HK1, HB⟩ := hrel
      cases gk with
      | zero => exact absurd HA.out (by simp [spec_ProgramOK.l0])
      | succ k1 =>
        have H := HA.out
        clear HA
        simp only [spec_ProgramOK.l0] at H
        by_cases c4 : x3_1 < (l0.length : Int)
        · rw [if_pos c4] at H
          have c4b0 : decide (x3_1 < (l0.length : Int)) = true := decide_eq_true c4
          clear c4
          by_cases c5 : 0 ≤ x3_1
          · rw [if_pos c5] at H
            have c5b0 : decide (0 ≤ x3_1) = true := decide_eq_true c5
            clear c5
            replace H := Option.bind_eq_some_iff.mp H
            obtain ⟨t106, A60, H⟩ := H
            replace H : (if t106 = true then (spec_ProgramOK.j1 k1 l0 x3_1 (wrap64 ((l0.length : Int) - 1)) ((rd_T88 l0 x3_1).f0) ((rd_T88 l0 x3_1).f1) ((rd_T88 l0 x3_1).f2)) else (spec_ProgramOK.j1 k1 l0 x3_1 0 ((rd_T88 l0 x3_1).f0) ((rd_T88 l0 x3_1).f1) ((rd_T88 l0 x3_1).f2))) = some r := H
            have A6 := Aside0.mk A60
            clear A60
            have HC7 := Aside0.mk H
            clear H
            have p104 : 0 ≤ (x3_1 : Int) := of_decide_eq_true (by first | (with_reducible assumption) | assumption)
            have q104 : x3_1 < (l0.length : Int) := of_decide_eq_true (by first | (with_reducible assumption) | assumption)
            obtain ⟨ad104, e104, hx104_0, hx104_1, hx104_2⟩ := at_T88 HR0.out x3_1 p104 q104
            cases e104
            replace hx104_0 := (HB.out.cell (World.block_lt_of_cell? w _ hx104_0)).trans hx104_0
            replace hx104_1 := (HB.out.cell (World.block_lt_of_cell? w _ hx104_1)).trans hx104_1
            replace hx104_2 := (HB.out.cell (World.block_lt_of_cell? w _ hx104_2)).trans hx104_2
            replace p104 := eq_true p104
            replace q104 := eq_true q104
            go_upto_if 22 with (first | ((with_reducible refine gate_dst (N := 4) rfl ?_); refine box_event ?hg (N := 4) ?hd (cs := #[.int .i64 0, .int .i64 0, .int .i64 0]) (t := 88) ?hr ?_; (case hd => rfl); (case hg => rfl); (case hr => first | (go_simp; done) | (go_simp; rfl)); intro gb105 hg w8 hbox hb; have n0_ := Aside0.mk (below_step (by repeat (first | (with_reducible first | exact HB.out | apply below_alloc | apply pw_below_drewN | apply below_drew1) | exact HB.out)) hb); have n1_ := Aside0.mk (hbox); have n2_ := Aside0.mk ((by rw [hg]; exact (below_size (by repeat (first | (with_reducible first | exact HB.out | apply below_alloc | apply pw_below_drewN | apply below_drew1) | exact HB.out))) : w.heap.size ≤ gb105)); have n3_ := Aside0.mk ((by rw [hg]; exact (below_size (by repeat (first | (with_reducible first | exact HB.out | apply below_alloc | apply pw_below_drewN | apply below_drew1) | exact HB.out))) : w.heap.size ≤ gb105)); clear HB; have HB := n0_; have BK105 := n1_; have GW105 := n2_; have GE105 := n3_; clear n0_ n1_ n2_ n3_; clear hb hbox hg; have hcz9_0 : w8.cell? ⟨gb105, 0, none⟩ = some (.int .i64 0) := (blk_cell BK105.out 0).trans rfl; have hcz9_1 : w8.cell? ⟨gb105, 1, none⟩ = some (.int .i64 0) := (blk_cell BK105.out 1).trans rfl; have hcz9_2 : w8.cell? ⟨gb105, 2, none⟩ = some (.int .i64 0) := (blk_cell BK105.out 2).trans rfl; have hfz9_0 := blk_frozen BK105.out 0; have hfz9_1 := blk_frozen BK105.out 1; have hfz9_2 := blk_frozen BK105.out 2) | ((with_reducible refine gate_callee (f := 64) rfl ?_); refine goesL_ (some 22) rfl rfl Try.func64 (by kernel_rfl) rfl #[.int .i64 ((rd_T88 l0 x3_1).f0)] rfl (by (try simp only [List.map_toArray, List.map_cons, List.map_nil]); first | done | rfl | (simp only [List.length_drop, List.length_take]; rfl)) ?_; (with_reducible refine (spec_l17HasTo.calls ((rd_T88 l0 x3_1).f0) t106 _ A6.out).mono ?_); rintro e w' ⟨rfl, ⟨nd, rfl⟩⟩; refine ⟨_, rfl, ?_⟩))
            (try simp only [Act.put, List.setIfInBounds_toArray, List.set_cons_zero, List.set_cons_succ])
            go_cut [5] (fun v5 wc => ∃ (kq : Nat) (x5_6 : Int), v5 = .int .i64 x5_6 ∧ Aside0 (spec_ProgramOK.j1 kq l0 x3_1 x5_6 ((rd_T88 l0 x3_1).f0) ((rd_T88 l0 x3_1).f1) ((rd_T88 l0 x3_1).f2) = some r) ∧ Aside0 (kq ≤ k1) ∧ Aside0 (wc.heap[gb105]? = some (.cells #[.int .i64 ((rd_T88 l0 x3_1).f0), .int .i64 ((rd_T88 l0 x3_1).f1), .int .i64 ((rd_T88 l0 x3_1).f2)] 88 (0, 0))) ∧ Aside0 (Below w.heap.size w wc))
            case first =>
              have H := HC7.out
              clear HC7
              by_cases c10 : t106 = true
              · subst c10
                have H1 : (spec_ProgramOK.j1 k1 l0 x3_1 (wrap64 ((l0.length : Int) - 1)) ((rd_T88 l0 x3_1).f0) ((rd_T88 l0 x3_1).f1) ((rd_T88 l0 x3_1).f2)) = some r := by rw [if_pos rfl] at H; exact H
                clear H
                have H := H1
                clear H1
                have H' := Aside0.mk H
                clear H
                go_wp2
                go_meet
                case rel => exact ⟨_, (wrap64 ((l0.length : Int) - 1)), (by first | rfl | (simp; done) | (simp [*]; done)), H', ⟨by have := HK1.out; first | omega | exact Nat.le_refl _⟩, ⟨by (with_reducible repeat (first | refine blk_drewN ?_ _ | refine blk_drew ?_ | refine blk_alloc ?_ _)); refine blk_put (cs := #[.int .i64 ((rd_T88 l0 x3_1).f0), .int .i64 ((rd_T88 l0 x3_1).f1), .int .i64 0]) ?_ 2 _ rfl; (with_reducible repeat (first | refine blk_drewN ?_ _ | refine blk_drew ?_ | refine blk_alloc ?_ _)); refine blk_put (cs := #[.int .i64 ((rd_T88 l0 x3_1).f0), .int .i64 0, .int .i64 0]) ?_ 1 _ rfl; (with_reducible repeat (first | refine blk_drewN ?_ _ | refine blk_drew ?_ | refine blk_alloc ?_ _)); refine blk_put (cs := #[.int .i64 0, .int .i64 0, .int .i64 0]) ?_ 0 _ rfl; (with_reducible repeat (first | refine blk_drewN ?_ _ | refine blk_drew ?_ | refine blk_alloc ?_ _)); exact BK105.out⟩, ⟨by repeat (first | (with_reducible first | exact HB.out | apply below_alloc | apply pw_below_drewN | apply below_drew1 | refine below_set ?_ GE105.out) | exact HB.out)⟩⟩
              · replace c10 := Bool.eq_false_iff.mpr c10
                subst c10
                have H1 : (spec_ProgramOK.j1 k1 l0 x3_1 0 ((rd_T88 l0 x3_1).f0) ((rd_T88 l0 x3_1).f1) ((rd_T88 l0 x3_1).f2)) = some r := by rw [if_neg (show ¬ (false = true) by decide)] at H; exact H
                clear H
                have H := H1
                clear H1
                have H' := Aside0.mk H
                clear H
                go_wp2
                go_meet
                case rel => exact ⟨_, (0), (by first | rfl | (simp; done) | (simp [*]; done)), H', ⟨by have := HK1.out; first | omega | exact Nat.le_refl _⟩, ⟨by (with_reducible repeat (first | refine blk_drewN ?_ _ | refine blk_drew ?_ | refine blk_alloc ?_ _)); refine blk_put (cs := #[.int .i64 ((rd_T88 l0 x3_1).f0), .int .i64 ((rd_T88 l0 x3_1).f1), .int .i64 0]) ?_ 2 _ rfl; (with_reducible repeat (first | refine blk_drewN ?_ _ | refine blk_drew ?_ | refine blk_alloc ?_ _)); refine blk_put (cs := #[.int .i64 ((rd_T88 l0 x3_1).f0), .int .i64 0, .int .i64 0]) ?_ 1 _ rfl; (with_reducible repeat (first | refine blk_drewN ?_ _ | refine blk_drew ?_ | refine blk_alloc ?_ _)); refine blk_put (cs := #[.int .i64 0, .int .i64 0, .int .i64 0]) ?_ 0 _ rfl; (with_reducible repeat (first | refine blk_drewN ?_ _ | refine blk_drew ?_ | refine blk_alloc ?_ _)); exact BK105.out⟩, ⟨by repeat (first | (with_reducible first | exact HB.out | apply below_alloc | apply pw_below_drewN | apply below_drew1 | refine below_set ?_ GE105.out) | exact HB.out)⟩⟩
            case rest =>
              clear HC7
              try clear c1
              try clear p1
              try clear q1
              try clear hx1
              try clear c2
              try clear p2
              try clear c3
              try clear c4
              try clear c4b0
              try clear c5
              try clear c5b0
              try clear c6
              try clear p6
              try clear c10
              try clear p10
              try clear q10
              try clear hx10
              try clear hcz9_0
              try clear hcz9_1
              try clear hcz9_2
              try clear hfz9_0
              try clear hfz9_1
              try clear hfz9_2
              try clear hx104_0
              try clear hx104_1
              try clear hx104_2
              try clear p104
              try clear p2
              try clear q104
              obtain ⟨kq, x5_6, rfl, HA, HJ6, BK105, HB⟩ := hcut
              cases kq with
              | zero => exact absurd HA.out (by simp [spec_ProgramOK.j1])
              | succ kj6 =>
                have H := HA.out
                clear HA
                simp only [spec_ProgramOK.j1] at H
                have HC11 := Aside0.mk H
                clear H
                go_upto_region 10 with (fail)
                go_cut [36] (fun v36 wc => ∃ (kq : Nat) (x36_10 : Bool), v36 = .bool x36_10 ∧ Aside0 (spec_ProgramOK.j2 kq l0 x3_1 x36_10 ((rd_T88 l0 x3_1).f0) ((rd_T88 l0 x3_1).f1) ((rd_T88 l0 x3_1).f2) = some r) ∧ Aside0 (kq ≤ kj6) ∧ Aside0 (wc.heap[gb105]? = some (.cells #[.int .i64 ((rd_T88 l0 x3_1).f0), .int .i64 ((rd_T88 l0 x3_1).f1), .int .i64 ((rd_T88 l0 x3_1).f2)] 88 (0, 0))) ∧ Aside0 (Below w.heap.size w wc))
                case first =>
                  have H := HC11.out
                  clear HC11
                  replace H := Option.bind_eq_some_iff.mp H
                  obtain ⟨t107, A120, H⟩ := H
                  replace H : (if t107 = true then ((spec_l01Between.f ((rd_T88 l0 x3_1).f2) 0 x5_6).bind fun t108 => (spec_ProgramOK.j2 kj6 l0 x3_1 (!t108) ((rd_T88 l0 x3_1).f0) ((rd_T88 l0 x3_1).f1) ((rd_T88 l0 x3_1).f2))) else (spec_ProgramOK.j2 kj6 l0 x3_1 true ((rd_T88 l0 x3_1).f0) ((rd_T88 l0 x3_1).f1) ((rd_T88 l0 x3_1).f2))) = some r := H
                  have A12 := Aside0.mk A120
                  clear A120
                  by_cases c13 : t107 = true
                  · subst c13
                    have H1 : ((spec_l01Between.f ((rd_T88 l0 x3_1).f2) 0 x5_6).bind fun t108 => (spec_ProgramOK.j2 kj6 l0 x3_1 (!t108) ((rd_T88 l0 x3_1).f0) ((rd_T88 l0 x3_1).f1) ((rd_T88 l0 x3_1).f2))) = some r := by rw [if_pos rfl] at H; exact H
                    clear H
                    have H := H1
                    clear H1
                    replace H := Option.bind_eq_some_iff.mp H
                    obtain ⟨t108, A140, H⟩ := H
                    replace H : (spec_ProgramOK.j2 kj6 l0 x3_1 (!t108) ((rd_T88 l0 x3_1).f0) ((rd_T88 l0 x3_1).f1) ((rd_T88 l0 x3_1).f2)) = some r := H
                    have A14 := Aside0.mk A140
                    clear A140
                    have H' := Aside0.mk H
                    clear H
                    have hcz15_0 : wc.cell? ⟨gb105, 0, none⟩ = some (.int .i64 ((rd_T88 l0 x3_1).f0)) := (blk_cell BK105.out 0).trans rfl
                    have hcz15_1 : wc.cell? ⟨gb105, 1, none⟩ = some (.int .i64 ((rd_T88 l0 x3_1).f1)) := (blk_cell BK105.out 1).trans rfl
                    have hcz15_2 : wc.cell? ⟨gb105, 2, none⟩ = some (.int .i64 ((rd_T88 l0 x3_1).f2)) := (blk_cell BK105.out 2).trans rfl
                    have hfz15_0 := blk_frozen BK105.out 0
                    have hfz15_1 := blk_frozen BK105.out 1
                    have hfz15_2 := blk_frozen BK105.out 2
                    go_wp2_with (first | ((with_reducible refine gate_callee (f := 63) rfl ?_); refine goesL_ (some 28) rfl rfl Try.func63 (by kernel_rfl) rfl #[.int .i64 ((rd_T88 l0 x3_1).f0), .int .i64 1, .int .i64 10] rfl (by (try simp only [List.map_toArray, List.map_cons, List.map_nil]); first | done | rfl | (simp only [List.length_drop, List.length_take]; rfl)) ?_; (with_reducible refine (spec_l01Between.calls ((rd_T88 l0 x3_1).f0) 1 10 true _ A12.out).mono ?_); rintro e w' ⟨rfl, ⟨nd, rfl⟩⟩; refine ⟨_, rfl, ?_⟩) | (go_at_call 63; (with_reducible refine (spec_l01Between.calls ((rd_T88 l0 x3_1).f2) 0 x5_6 t108 _ A14.out).mono ?_); rintro e w' ⟨rfl, ⟨nd, rfl⟩⟩))
                    go_meet
                    case rel => exact ⟨_, (!t108), (by first | rfl | (simp; done) | (simp [*]; done)), H', ⟨by have := HK1.out; have := HJ6.out; first | omega | exact Nat.le_refl _⟩, ⟨by (with_reducible repeat (first | refine blk_drewN ?_ _ | refine blk_drew ?_ | refine blk_alloc ?_ _)); exact BK105.out⟩, ⟨by repeat (first | (with_reducible first | exact HB.out | apply below_alloc | apply pw_below_drewN | apply below_drew1 | refine below_set ?_ GE105.out) | exact HB.out)⟩⟩
                  · replace c13 := Bool.eq_false_iff.mpr c13
                    subst c13
                    have H1 : (spec_ProgramOK.j2 kj6 l0 x3_1 true ((rd_T88 l0 x3_1).f0) ((rd_T88 l0 x3_1).f1) ((rd_T88 l0 x3_1).f2)) = some r := by rw [if_neg (show ¬ (false = true) by decide)] at H; exact H
                    clear H
                    have H := H1
                    clear H1
                    have H' := Aside0.mk H
                    clear H
                    have hcz16_0 : wc.cell? ⟨gb105, 0, none⟩ = some (.int .i64 ((rd_T88 l0 x3_1).f0)) := (blk_cell BK105.out 0).trans rfl
                    have hcz16_1 : wc.cell? ⟨gb105, 1, none⟩ = some (.int .i64 ((rd_T88 l0 x3_1).f1)) := (blk_cell BK105.out 1).trans rfl
                    have hcz16_2 : wc.cell? ⟨gb105, 2, none⟩ = some (.int .i64 ((rd_T88 l0 x3_1).f2)) := (blk_cell BK105.out 2).trans rfl
                    have hfz16_0 := blk_frozen BK105.out 0
                    have hfz16_1 := blk_frozen BK105.out 1
                    have hfz16_2 := blk_frozen BK105.out 2
                    go_wp2_with (first | ((with_reducible refine gate_callee (f := 63) rfl ?_); refine goesL_ (some 28) rfl rfl Try.func63 (by kernel_rfl) rfl #[.int .i64 ((rd_T88 l0 x3_1).f0), .int .i64 1, .int .i64 10] rfl (by (try simp only [List.map_toArray, List.map_cons, List.map_nil]); first | done | rfl | (simp only [List.length_drop, List.length_take]; rfl)) ?_; (with_reducible refine (spec_l01Between.calls ((rd_T88 l0 x3_1).f0) 1 10 false _ A12.out).mono ?_); rintro e w' ⟨rfl, ⟨nd, rfl⟩⟩; refine ⟨_, rfl, ?_⟩))
                    go_meet
                    case rel => exact ⟨_, (true), (by first | rfl | (simp; done) | (simp [*]; done)), H', ⟨by have := HK1.out; have := HJ6.out; first | omega | exact Nat.le_refl _⟩, ⟨by (with_reducible repeat (first | refine blk_drewN ?_ _ | refine blk_drew ?_ | refine blk_alloc ?_ _)); exact BK105.out⟩, ⟨by repeat (first | (with_reducible first | exact HB.out | apply below_alloc | apply pw_below_drewN | apply below_drew1 | refine below_set ?_ GE105.out) | exact HB.out)⟩⟩
                case rest =>
                  clear HC11
                  try clear c1
                  try clear p1
                  try clear q1
                  try clear hx1
                  try clear c2
                  try clear p2
                  try clear c3
                  try clear c4
                  try clear c4b0
                  try clear c5
                  try clear c5b0
                  try clear c6
                  try clear p6
                  try clear c10
                  try clear p10
                  try clear q10
                  try clear hx10
                  try clear c13
                  try clear hcz15_0
                  try clear hcz15_1
                  try clear hcz15_2
                  try clear hcz16_0
                  try clear hcz16_1
                  try clear hcz16_2
                  try clear hcz9_0
                  try clear hcz9_1
                  try clear hcz9_2
                  try clear hfz15_0
                  try clear hfz15_1
                  try clear hfz15_2
                  try clear hfz16_0
                  try clear hfz16_1
                  try clear hfz16_2
                  try clear hfz9_0
                  try clear hfz9_1
                  try clear hfz9_2
                  try clear hx104_0
                  try clear hx104_1
                  try clear hx104_2
                  try clear p1
                  try clear p10
                  try clear p104
                  try clear p2
                  try clear p6
                  try clear q1
                  try clear q10
                  try clear q104
                  obtain ⟨kq, x36_10, rfl, HA, HJ10, BK105, HB⟩ := hcut
                  cases kq with
                  | zero => exact absurd HA.out (by simp [spec_ProgramOK.j2])
                  | succ kj10 =>
                    have H := HA.out
                    clear HA
                    simp only [spec_ProgramOK.j2] at H
                    by_cases c17 : x36_10 = true
                    · subst c17
                      have H1 : (some false) = some r := by rw [if_pos rfl] at H; exact H
                      clear H
                      have H := H1
                      clear H1
                      obtain rfl := Option.some.inj H
                      go_wp2
                      go_ret
                      exact ⟨by first | rfl | (simp [errW_none, errW_some] <;> rfl) | (simp [*, errW_none, errW_some] <;> rfl), by repeat (first | (with_reducible first | exact HB.out | apply below_alloc | apply pw_below_drewN | apply below_drew1 | refine below_set ?_ GE105.out) | exact HB.out)⟩
                    · replace c17 := Bool.eq_false_iff.mpr c17
                      subst c17
                      have H1 : (if ((rd_T88 l0 x3_1).f0) = 10 then (if ((rd_T88 l0 x3_1).f1) = 2 then (spec_ProgramOK.l0 kj10 l0 (wrap64 (x3_1 + 1))) else (if ((rd_T88 l0 x3_1).f1) = 4 then (spec_ProgramOK.l0 kj10 l0 (wrap64 (x3_1 + 1))) else (some false))) else ((spec_l17HasN.f ((rd_T88 l0 x3_1).f0)).bind fun t109 => (if t109 = true then ((spec_l01Between.f ((rd_T88 l0 x3_1).f1) 0 1000).bind fun t110 => (if t110 = true then (spec_ProgramOK.l0 kj10 l0 (wrap64 (x3_1 + 1))) else (some false))) else (if ((rd_T88 l0 x3_1).f1) = 0 then (spec_ProgramOK.l0 kj10 l0 (wrap64 (x3_1 + 1))) else (some false))))) = some r := by rw [if_neg (show ¬ (false = true) by decide)] at H; exact H
                      clear H
                      have H := H1
                      clear H1
                      by_cases c18 : ((rd_T88 l0 x3_1).f0) = 10
                      · rw [if_pos c18] at H
                        have c18b0 : (((rd_T88 l0 x3_1).f0) == 10) = true := beq_iff_eq.mpr c18
                        have c18b1 : (((rd_T88 l0 x3_1).f0) != 10) = false := bne_eq_false_iff_eq.mpr c18
                        clear c18
                        by_cases c19 : ((rd_T88 l0 x3_1).f1) = 2
                        · rw [if_pos c19] at H
                          have c19b0 : (((rd_T88 l0 x3_1).f1) == 2) = true := beq_iff_eq.mpr c19
                          have c19b1 : (((rd_T88 l0 x3_1).f1) != 2) = false := bne_eq_false_iff_eq.mpr c19
                          clear c19
                          have H' := Aside0.mk H
                          clear H
                          have hcz20_0 : wc.cell? ⟨gb105, 0, none⟩ = some (.int .i64 ((rd_T88 l0 x3_1).f0)) := (blk_cell BK105.out 0).trans rfl
                          have hcz20_1 : wc.cell? ⟨gb105, 1, none⟩ = some (.int .i64 ((rd_T88 l0 x3_1).f1)) := (blk_cell BK105.out 1).trans rfl
                          have hcz20_2 : wc.cell? ⟨gb105, 2, none⟩ = some (.int .i64 ((rd_T88 l0 x3_1).f2)) := (blk_cell BK105.out 2).trans rfl
                          have hfz20_0 := blk_frozen BK105.out 0
                          have hfz20_1 := blk_frozen BK105.out 1
                          have hfz20_2 := blk_frozen BK105.out 2
                          go_wp2
                          go_roundg kj10
                          case measure => have := HK1.out; have := HJ6.out; have := HJ10.out; omega
                          case rel => exact ⟨(wrap64 (x3_1 + 1)), (by first | rfl | (simp; done) | (simp [*]; done)), H', ⟨by have := HK1.out; have := HJ6.out; have := HJ10.out; omega⟩, ⟨by repeat (first | (with_reducible first | exact HB.out | apply below_alloc | apply pw_below_drewN | apply below_drew1 | refine below_set ?_ GE105.out) | exact HB.out)⟩⟩
                        · rw [if_neg c19] at H
                          have c19b0 : (((rd_T88 l0 x3_1).f1) == 2) = false := beq_eq_false_iff_ne.mpr c19
                          have c19b1 : (((rd_T88 l0 x3_1).f1) != 2) = true := bne_iff_ne.mpr c19
                          by_cases c21 : ((rd_T88 l0 x3_1).f1) = 4
                          · rw [if_pos c21] at H
                            have c21b0 : (((rd_T88 l0 x3_1).f1) == 4) = true := beq_iff_eq.mpr c21
                            have c21b1 : (((rd_T88 l0 x3_1).f1) != 4) = false := bne_eq_false_iff_eq.mpr c21
                            clear c21
                            have H' := Aside0.mk H
                            clear H
                            have hcz22_0 : wc.cell? ⟨gb105, 0, none⟩ = some (.int .i64 ((rd_T88 l0 x3_1).f0)) := (blk_cell BK105.out 0).trans rfl
                            have hcz22_1 : wc.cell? ⟨gb105, 1, none⟩ = some (.int .i64 ((rd_T88 l0 x3_1).f1)) := (blk_cell BK105.out 1).trans rfl
                            have hcz22_2 : wc.cell? ⟨gb105, 2, none⟩ = some (.int .i64 ((rd_T88 l0 x3_1).f2)) := (blk_cell BK105.out 2).trans rfl
                            have hfz22_0 := blk_frozen BK105.out 0
                            have hfz22_1 := blk_frozen BK105.out 1
                            have hfz22_2 := blk_frozen BK105.out 2
                            go_wp2
                            go_roundg kj10
                            case measure => have := HK1.out; have := HJ6.out; have := HJ10.out; omega
                            case rel => exact ⟨(wrap64 (x3_1 + 1)), (by first | rfl | (simp; done) | (simp [*]; done)), H', ⟨by have := HK1.out; have := HJ6.out; have := HJ10.out; omega⟩, ⟨by repeat (first | (with_reducible first | exact HB.out | apply below_alloc | apply pw_below_drewN | apply below_drew1 | refine below_set ?_ GE105.out) | exact HB.out)⟩⟩
                          · rw [if_neg c21] at H
                            have c21b0 : (((rd_T88 l0 x3_1).f1) == 4) = false := beq_eq_false_iff_ne.mpr c21
                            have c21b1 : (((rd_T88 l0 x3_1).f1) != 4) = true := bne_iff_ne.mpr c21
                            obtain rfl := Option.some.inj H
                            have hcz23_0 : wc.cell? ⟨gb105, 0, none⟩ = some (.int .i64 ((rd_T88 l0 x3_1).f0)) := (blk_cell BK105.out 0).trans rfl
                            have hcz23_1 : wc.cell? ⟨gb105, 1, none⟩ = some (.int .i64 ((rd_T88 l0 x3_1).f1)) := (blk_cell BK105.out 1).trans rfl
                            have hcz23_2 : wc.cell? ⟨gb105, 2, none⟩ = some (.int .i64 ((rd_T88 l0 x3_1).f2)) := (blk_cell BK105.out 2).trans rfl
                            have hfz23_0 := blk_frozen BK105.out 0
                            have hfz23_1 := blk_frozen BK105.out 1
                            have hfz23_2 := blk_frozen BK105.out 2
                            go_wp2
                            go_ret
                            exact ⟨by first | rfl | (simp [errW_none, errW_some] <;> rfl) | (simp [*, errW_none, errW_some] <;> rfl), by repeat (first | (with_reducible first | exact HB.out | apply below_alloc | apply pw_below_drewN | apply below_drew1 | refine below_set ?_ GE105.out) | exact HB.out)⟩
                      · rw [if_neg c18] at H
                        have c18b0 : (((rd_T88 l0 x3_1).f0) == 10) = false := beq_eq_false_iff_ne.mpr c18
                        have c18b1 : (((rd_T88 l0 x3_1).f0) != 10) = true := bne_iff_ne.mpr c18
                        replace H := Option.bind_eq_some_iff.mp H
                        obtain ⟨t109, A240, H⟩ := H
                        replace H : (if t109 = true then ((spec_l01Between.f ((rd_T88 l0 x3_1).f1) 0 1000).bind fun t110 => (if t110 = true then (spec_ProgramOK.l0 kj10 l0 (wrap64 (x3_1 + 1))) else (some false))) else (if ((rd_T88 l0 x3_1).f1) = 0 then (spec_ProgramOK.l0 kj10 l0 (wrap64 (x3_1 + 1))) else (some false))) = some r := H
                        have A24 := Aside0.mk A240
                        clear A240
                        by_cases c25 : t109 = true
                        · subst c25
                          have H1 : ((spec_l01Between.f ((rd_T88 l0 x3_1).f1) 0 1000).bind fun t110 => (if t110 = true then (spec_ProgramOK.l0 kj10 l0 (wrap64 (x3_1 + 1))) else (some false))) = some r := by rw [if_pos rfl] at H; exact H
                          clear H
                          have H := H1
                          clear H1
                          replace H := Option.bind_eq_some_iff.mp H
                          obtain ⟨t110, A260, H⟩ := H
                          replace H : (if t110 = true then (spec_ProgramOK.l0 kj10 l0 (wrap64 (x3_1 + 1))) else (some false)) = some r := H
                          have A26 := Aside0.mk A260
                          clear A260
                          by_cases c27 : t110 = true
                          · subst c27
                            have H1 : (spec_ProgramOK.l0 kj10 l0 (wrap64 (x3_1 + 1))) = some r := by rw [if_pos rfl] at H; exact H
                            clear H
                            have H := H1
                            clear H1
                            have H' := Aside0.mk H
                            clear H
                            have hcz28_0 : wc.cell? ⟨gb105, 0, none⟩ = some (.int .i64 ((rd_T88 l0 x3_1).f0)) := (blk_cell BK105.out 0).trans rfl
                            have hcz28_1 : wc.cell? ⟨gb105, 1, none⟩ = some (.int .i64 ((rd_T88 l0 x3_1).f1)) := (blk_cell BK105.out 1).trans rfl
                            have hcz28_2 : wc.cell? ⟨gb105, 2, none⟩ = some (.int .i64 ((rd_T88 l0 x3_1).f2)) := (blk_cell BK105.out 2).trans rfl
                            have hfz28_0 := blk_frozen BK105.out 0
                            have hfz28_1 := blk_frozen BK105.out 1
                            have hfz28_2 := blk_frozen BK105.out 2
                            go_wp2_with (first | ((with_reducible refine gate_callee (f := 65) rfl ?_); refine goesL_ (some 52) rfl rfl Try.func65 (by kernel_rfl) rfl #[.int .i64 ((rd_T88 l0 x3_1).f0)] rfl (by (try simp only [List.map_toArray, List.map_cons, List.map_nil]); first | done | rfl | (simp only [List.length_drop, List.length_take]; rfl)) ?_; (with_reducible refine (spec_l17HasN.calls ((rd_T88 l0 x3_1).f0) true _ A24.out).mono ?_); rintro e w' ⟨rfl, ⟨nd, rfl⟩⟩; refine ⟨_, rfl, ?_⟩) | ((with_reducible refine gate_callee (f := 63) rfl ?_); refine goesL_ (some 55) rfl rfl Try.func63 (by kernel_rfl) rfl #[.int .i64 ((rd_T88 l0 x3_1).f1), .int .i64 0, .int .i64 1000] rfl (by (try simp only [List.map_toArray, List.map_cons, List.map_nil]); first | done | rfl | (simp only [List.length_drop, List.length_take]; rfl)) ?_; (with_reducible refine (spec_l01Between.calls ((rd_T88 l0 x3_1).f1) 0 1000 true _ A26.out).mono ?_); rintro e w' ⟨rfl, ⟨nd, rfl⟩⟩; refine ⟨_, rfl, ?_⟩))
                            go_roundg kj10
                            case measure => have := HK1.out; have := HJ6.out; have := HJ10.out; omega
                            case rel => exact ⟨(wrap64 (x3_1 + 1)), (by first | rfl | (simp; done) | (simp [*]; done)), H', ⟨by have := HK1.out; have := HJ6.out; have := HJ10.out; omega⟩, ⟨by repeat (first | (with_reducible first | exact HB.out | apply below_alloc | apply pw_below_drewN | apply below_drew1 | refine below_set ?_ GE105.out) | exact HB.out)⟩⟩
                          · replace c27 := Bool.eq_false_iff.mpr c27
                            subst c27
                            have H1 : (some false) = some r := by rw [if_neg (show ¬ (false = true) by decide)] at H; exact H
                            clear H
                            have H := H1
                            clear H1
                            obtain rfl := Option.some.inj H
                            have hcz29_0 : wc.cell? ⟨gb105, 0, none⟩ = some (.int .i64 ((rd_T88 l0 x3_1).f0)) := (blk_cell BK105.out 0).trans rfl
                            have hcz29_1 : wc.cell? ⟨gb105, 1, none⟩ = some (.int .i64 ((rd_T88 l0 x3_1).f1)) := (blk_cell BK105.out 1).trans rfl
                            have hcz29_2 : wc.cell? ⟨gb105, 2, none⟩ = some (.int .i64 ((rd_T88 l0 x3_1).f2)) := (blk_cell BK105.out 2).trans rfl
                            have hfz29_0 := blk_frozen BK105.out 0
                            have hfz29_1 := blk_frozen BK105.out 1
                            have hfz29_2 := blk_frozen BK105.out 2
                            go_wp2_with (first | ((with_reducible refine gate_callee (f := 65) rfl ?_); refine goesL_ (some 52) rfl rfl Try.func65 (by kernel_rfl) rfl #[.int .i64 ((rd_T88 l0 x3_1).f0)] rfl (by (try simp only [List.map_toArray, List.map_cons, List.map_nil]); first | done | rfl | (simp only [List.length_drop, List.length_take]; rfl)) ?_; (with_reducible refine (spec_l17HasN.calls ((rd_T88 l0 x3_1).f0) true _ A24.out).mono ?_); rintro e w' ⟨rfl, ⟨nd, rfl⟩⟩; refine ⟨_, rfl, ?_⟩) | ((with_reducible refine gate_callee (f := 63) rfl ?_); refine goesL_ (some 55) rfl rfl Try.func63 (by kernel_rfl) rfl #[.int .i64 ((rd_T88 l0 x3_1).f1), .int .i64 0, .int .i64 1000] rfl (by (try simp only [List.map_toArray, List.map_cons, List.map_nil]); first | done | rfl | (simp only [List.length_drop, List.length_take]; rfl)) ?_; (with_reducible refine (spec_l01Between.calls ((rd_T88 l0 x3_1).f1) 0 1000 false _ A26.out).mono ?_); rintro e w' ⟨rfl, ⟨nd, rfl⟩⟩; refine ⟨_, rfl, ?_⟩))
                            go_ret
                            exact ⟨by first | rfl | (simp [errW_none, errW_some] <;> rfl) | (simp [*, errW_none, errW_some] <;> rfl), by repeat (first | (with_reducible first | exact HB.out | apply below_alloc | apply pw_below_drewN | apply below_drew1 | refine below_set ?_ GE105.out) | exact HB.out)⟩
                        · replace c25 := Bool.eq_false_iff.mpr c25
                          subst c25
                          have H1 : (if ((rd_T88 l0 x3_1).f1) = 0 then (spec_ProgramOK.l0 kj10 l0 (wrap64 (x3_1 + 1))) else (some false)) = some r := by rw [if_neg (show ¬ (false = true) by decide)] at H; exact H
                          clear H
                          have H := H1
                          clear H1
                          by_cases c30 : ((rd_T88 l0 x3_1).f1) = 0
                          · rw [if_pos c30] at H
                            have c30b0 : (((rd_T88 l0 x3_1).f1) == 0) = true := beq_iff_eq.mpr c30
                            have c30b1 : (((rd_T88 l0 x3_1).f1) != 0) = false := bne_eq_false_iff_eq.mpr c30
                            clear c30
                            have H' := Aside0.mk H
                            clear H
                            have hcz31_0 : wc.cell? ⟨gb105, 0, none⟩ = some (.int .i64 ((rd_T88 l0 x3_1).f0)) := (blk_cell BK105.out 0).trans rfl
                            have hcz31_1 : wc.cell? ⟨gb105, 1, none⟩ = some (.int .i64 ((rd_T88 l0 x3_1).f1)) := (blk_cell BK105.out 1).trans rfl
                            have hcz31_2 : wc.cell? ⟨gb105, 2, none⟩ = some (.int .i64 ((rd_T88 l0 x3_1).f2)) := (blk_cell BK105.out 2).trans rfl
                            have hfz31_0 := blk_frozen BK105.out 0
                            have hfz31_1 := blk_frozen BK105.out 1
                            have hfz31_2 := blk_frozen BK105.out 2
                            go_wp2_with (first | ((with_reducible refine gate_callee (f := 65) rfl ?_); refine goesL_ (some 52) rfl rfl Try.func65 (by kernel_rfl) rfl #[.int .i64 ((rd_T88 l0 x3_1).f0)] rfl (by (try simp only [List.map_toArray, List.map_cons, List.map_nil]); first | done | rfl | (simp only [List.length_drop, List.length_take]; rfl)) ?_; (with_reducible refine (spec_l17HasN.calls ((rd_T88 l0 x3_1).f0) false _ A24.out).mono ?_); rintro e w' ⟨rfl, ⟨nd, rfl⟩⟩; refine ⟨_, rfl, ?_⟩))
                            go_roundg kj10
                            case measure => have := HK1.out; have := HJ6.out; have := HJ10.out; omega
                            case rel => exact ⟨(wrap64 (x3_1 + 1)), (by first | rfl | (simp; done) | (simp [*]; done)), H', ⟨by have := HK1.out; have := HJ6.out; have := HJ10.out; omega⟩, ⟨by repeat (first | (with_reducible first | exact HB.out | apply below_alloc | apply pw_below_drewN | apply below_drew1 | refine below_set ?_ GE105.out) | exact HB.out)⟩⟩
                          · rw [if_neg c30] at H
                            have c30b0 : (((rd_T88 l0 x3_1).f1) == 0) = false := beq_eq_false_iff_ne.mpr c30
                            have c30b1 : (((rd_T88 l0 x3_1).f1) != 0) = true := bne_iff_ne.mpr c30
                            obtain rfl := Option.some.inj H
                            have hcz32_0 : wc.cell? ⟨gb105, 0, none⟩ = some (.int .i64 ((rd_T88 l0 x3_1).f0)) := (blk_cell BK105.out 0).trans rfl
                            have hcz32_1 : wc.cell? ⟨gb105, 1, none⟩ = some (.int .i64 ((rd_T88 l0 x3_1).f1)) := (blk_cell BK105.out 1).trans rfl
                            have hcz32_2 : wc.cell? ⟨gb105, 2, none⟩ = some (.int .i64 ((rd_T88 l0 x3_1).f2)) := (blk_cell BK105.out 2).trans rfl
                            have hfz32_0 := blk_frozen BK105.out 0
                            have hfz32_1 := blk_frozen BK105.out 1
                            have hfz32_2 := blk_frozen BK105.out 2
                            go_wp2_with (first | ((with_reducible refine gate_callee (f := 65) rfl ?_); refine goesL_ (some 52) rfl rfl Try.func65 (by kernel_rfl) rfl #[.int .i64 ((rd_T88 l0 x3_1).f0)] rfl (by (try simp only [List.map_toArray, List.map_cons, List.map_nil]); first | done | rfl | (simp only [List.length_drop, List.length_take]; rfl)) ?_; (with_reducible refine (spec_l17HasN.calls ((rd_T88 l0 x3_1).f0) false _ A24.out).mono ?_); rintro e w' ⟨rfl, ⟨nd, rfl⟩⟩; refine ⟨_, rfl, ?_⟩))
                            go_ret
                            exact ⟨by first | rfl | (simp [errW_none, errW_some] <;> rfl) | (simp [*, errW_none, errW_some] <;> rfl), by repeat (first | (with_reducible first | exact HB.out | apply below_alloc | apply pw_below_drewN | apply below_drew1 | refine below_set ?_ GE105.out) | exact HB.out)⟩
          · rw [if_neg c5] at H
            exact absurd H (by simp)
        · rw [if_neg c4] at H
          have c4b0 : decide (x3_1 < (l0.length : Int)) = false := decide_eq_false c4
          clear c4
          obtain ⟨ji33, hji33⟩ : ∃ j_ : Int, (wrap64 ((l0.length : Int) - 1)) = j_ := ⟨_, rfl⟩
          replace H : (if 0 ≤ (ji33) then (if (ji33) < (l0.length : Int) then ((spec_l17Goes.f ((rd_T88 l0 (ji33)).f0)).bind fun t103 => (some (!t103))) else (none)) else (none)) = some r := by first | (rw [hji33] at H; exact H) | (simp only [hji33] at H ⊢; exact H)
          have hji33w : (IntKind.i64.wrap ((l0.length : Int) - 1)) = ji33 := (i64_w _).trans hji33
          by_cases c34 : 0 ≤ (ji33)
          · rw [if_pos c34] at H
            have c34b0 : decide (0 ≤ (ji33)) = true := decide_eq_true c34
            clear c34
            by_cases c35 : (ji33) < (l0.length : Int)
            · rw [if_pos c35] at H
              have c35b0 : decide ((ji33) < (l0.length : Int)) = true := decide_eq_true c35
              clear c35
              replace H := Option.bind_eq_some_iff.mp H
              obtain ⟨t103, A360, H⟩ := H
              replace H : (some (!t103)) = some r := H
              have A36 := Aside0.mk A360
              clear A360
              obtain rfl := Option.some.inj H
              have p102 : 0 ≤ ((ji33) : Int) := of_decide_eq_true (by first | (with_reducible assumption) | assumption)
              have q102 : (ji33) < (l0.length : Int) := of_decide_eq_true (by first | (with_reducible assumption) | assumption)
              obtain ⟨ad102, e102, hx102_0, hx102_1, hx102_2⟩ := at_T88 HR0.out (ji33) p102 q102
              cases e102
              replace hx102_0 := (HB.out.cell (World.block_lt_of_cell? w _ hx102_0)).trans hx102_0
              replace hx102_1 := (HB.out.cell (World.block_lt_of_cell? w _ hx102_1)).trans hx102_1
              replace hx102_2 := (HB.out.cell (World.block_lt_of_cell? w _ hx102_2)).trans hx102_2
              replace p102 := eq_true p102
              replace q102 := eq_true q102
              go_wp2_with (first | ((with_reducible refine gate_callee (f := 66) rfl ?_); refine goesL_ (some 68) rfl rfl Try.func66 (by kernel_rfl) rfl #[.int .i64 ((rd_T88 l0 (ji33)).f0)] rfl (by (try simp only [List.map_toArray, List.map_cons, List.map_nil]); first | done | (simp only [hji33]; rfl) | rfl | (simp only [List.length_drop, List.length_take]; rfl)) ?_; (with_reducible refine (spec_l17Goes.calls ((rd_T88 l0 (ji33)).f0) t103 _ A36.out).mono ?_); rintro e w' ⟨rfl, ⟨nd, rfl⟩⟩; refine ⟨_, rfl, ?_⟩))
              go_ret
              exact ⟨by first | rfl | (simp [errW_none, errW_some] <;> rfl) | (simp only [← hji33]; first | rfl | (simp [errW_none, errW_some] <;> rfl)) | (simp [*, errW_none, errW_some] <;> rfl), by repeat (first | (with_reducible first | exact HB.out | apply below_alloc | apply pw_below_drewN | apply below_drew1) | exact HB.out)⟩
            · rw [if_neg c35] at H
              exact absurd H (by simp)
          · rw [if_neg c34] at H
            exact absurd H (by simp)
  · replace c3 := Bool.eq_false_iff.mpr c3
    subst c3
    have H1 : (some false) = some r := by rw [if_neg (show ¬ (false = true) by decide)] at H; exact H
    clear H
    have H := H1
    clear H1
    obtain rfl := Option.some.inj H
    go_enter Try.func22, Try.ntmps22
    go_wp2_with (first | ((with_reducible refine gate_callee (f := 63) rfl ?_); refine goesL_ (some 8) rfl rfl Try.func63 (by kernel_rfl) rfl #[.int .i64 (l0.length : Int), .int .i64 1, .int .i64 50000] rfl (by (try simp only [List.map_toArray, List.map_cons, List.map_nil]); first | done | rfl | (simp only [List.length_drop, List.length_take]; rfl)) ?_; (with_reducible refine (spec_l01Between.calls (l0.length : Int) 1 50000 false _ A2.out).mono ?_); rintro e w' ⟨rfl, ⟨nd, rfl⟩⟩; refine ⟨_, rfl, ?_⟩))
    go_ret
    exact ⟨by first | rfl | (simp [errW_none, errW_some] <;> rfl) | (simp [*, errW_none, errW_some] <;> rfl), by repeat (first | (with_reducible first | exact HB.out | apply below_alloc | apply pw_below_drewN | apply below_drew1) | exact HB.out)⟩

end Go.Proofs.Ytgdecbliegelmaa.Q
