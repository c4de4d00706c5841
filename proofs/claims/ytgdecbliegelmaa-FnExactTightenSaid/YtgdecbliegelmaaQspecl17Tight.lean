-- Written by wip/myprint.py (this session's) over the kit's print: not the kit's own print.
import Derived.Test.YtgdecbliegelmaaQ0
import Derived.Test.YtgdecbliegelmaaQspecl17HasTo
import Derived.Test.YtgdecbliegelmaaQspecl17Goes
import Derived.Test.YtgdecbliegelmaaQspecl17Leads
import Derived.Test.YtgdecbliegelmaaQspecl17Without
namespace Go.Proofs.Ytgdecbliegelmaa.Q
open Go.RowKit Go.Proofs.YtgdecbliegelmaaW.PrintWords Go.Proofs.YtgdecbliegelmaaW.PrintLast Go.Proofs.YtgdecbliegelmaaW.PrintMore
attribute [local go_sem] max2_int min2_int max_two min_two max_three min_three max_four min_four   -- for this text's walks alone
set_option linter.unusedVariables false
set_option linter.unusedSimpArgs false

/-! ### spec_l17Tight: function 80 -/
mutual
def spec_l17Tight.l0 : Nat → List (S88) → List (S88) → Int → Option ((List (S88)))
  | 0, _, _, _ => none
  | k + 1, x0, x3, x4 => if x4 < (x0.length : Int) then (if 0 ≤ x4 then ((spec_l17HasTo.f ((rd_T88 x0 x4).f0)).bind fun t106 => (if t106 = true then ((spec_l17Leads.f k x0 ((rd_T88 x0 x4).f2)).bind fun t107 => (if x3.length < 5864062014805 then (spec_l17Tight.l0 k x0 (x3 ++ [(⟨(rd_T88 x0 x4).f0, (rd_T88 x0 x4).f1, t107⟩ : S88)]) (wrap64 (x4 + 1))) else (none))) else (if x3.length < 5864062014805 then (spec_l17Tight.l0 k x0 (x3 ++ [(⟨(rd_T88 x0 x4).f0, (rd_T88 x0 x4).f1, (rd_T88 x0 x4).f2⟩ : S88)]) (wrap64 (x4 + 1))) else (none)))) else (none)) else (spec_l17Tight.l1 k x3 (([] : List Bool)) 0)
def spec_l17Tight.l1 : Nat → List (S88) → List Bool → Int → Option ((List (S88)))
  | 0, _, _, _ => none
  | k + 1, x3, x6, x7 => if x7 < (x3.length : Int) then (if x6.length < 140737488355328 then (spec_l17Tight.l1 k x3 (x6 ++ [true]) (wrap64 (x7 + 1))) else (none)) else (spec_l17Tight.l2 k x3 x6 (([0] : List Int)))
def spec_l17Tight.l2 : Nat → List (S88) → List Bool → List Int → Option ((List (S88)))
  | 0, _, _, _ => none
  | k + 1, x3, x6, x8 => if (x8.length : Int) > 0 then (if 0 ≤ (wrap64 ((x8.length : Int) - 1)) then (if (wrap64 ((x8.length : Int) - 1)) < (x8.length : Int) then (if (wrap64 ((x8.length : Int) - 1)) ≤ (x8.length : Int) then ((some (x8.take ((wrap64 ((x8.length : Int) - 1)) : Int).toNat : List Int)).bind fun y124 => (if 0 ≤ (rd x8 (wrap64 ((x8.length : Int) - 1))) then (if (rd x8 (wrap64 ((x8.length : Int) - 1))) < (x6.length : Int) then (if (rdOf false x6 (rd x8 (wrap64 ((x8.length : Int) - 1))) = true) then ((some (x6.set ((rd x8 (wrap64 ((x8.length : Int) - 1))) : Int).toNat false : List Bool)).bind fun y128 => (if (rd x8 (wrap64 ((x8.length : Int) - 1))) < (x3.length : Int) then ((spec_l17Goes.f ((rd_T88 x3 (rd x8 (wrap64 ((x8.length : Int) - 1)))).f0)).bind fun t130 => (if t130 = true then (if y124.length < 17592186044416 then ((some (y124 ++ [wrap64 ((rd x8 (wrap64 ((x8.length : Int) - 1))) + 1)] : List Int)).bind fun y131 => ((spec_l17HasTo.f ((rd_T88 x3 (rd x8 (wrap64 ((x8.length : Int) - 1)))).f0)).bind fun t135 => (if t135 = true then (if y131.length < 17592186044416 then (spec_l17Tight.l2 k x3 y128 (y131 ++ [(rd_T88 x3 (rd x8 (wrap64 ((x8.length : Int) - 1)))).f2])) else (none)) else (spec_l17Tight.l2 k x3 y128 y131)))) else (none)) else ((spec_l17HasTo.f ((rd_T88 x3 (rd x8 (wrap64 ((x8.length : Int) - 1)))).f0)).bind fun t141 => (if t141 = true then (if y124.length < 17592186044416 then (spec_l17Tight.l2 k x3 y128 (y124 ++ [(rd_T88 x3 (rd x8 (wrap64 ((x8.length : Int) - 1)))).f2])) else (none)) else (spec_l17Tight.l2 k x3 y128 y124))))) else (none))) else (spec_l17Tight.l2 k x3 x6 y124)) else (none)) else (none))) else (none)) else (none)) else (none)) else ((spec_l17Without.f k x3 x6).bind fun t146 => (if 0 ≤ (t146.length : Int) then (if ((t146.length : Int) : Int).toNat ≤ 281474976710656 then (spec_l17Tight.l3 k t146 (List.replicate ((t146.length : Int) : Int).toNat false) (t146.length : Int) (wrap64 ((t146.length : Int) - 1))) else (none)) else (none)))
def spec_l17Tight.l3 : Nat → List (S88) → List Bool → Int → Int → Option ((List (S88)))
  | 0, _, _, _, _ => none
  | k + 1, x3, x6, x10, x11 => if x11 ≥ 0 then (if 0 ≤ x11 then (if x11 < (x3.length : Int) then ((spec_l17HasTo.f ((rd_T88 x3 x11).f0)).bind fun t153 => (if t153 = true then (if ((rd_T88 x3 x11).f2) > x11 then (if ((rd_T88 x3 x11).f2) ≤ x10 then (if x11 < (x6.length : Int) then (spec_l17Tight.l3 k x3 (x6.set (x11 : Int).toNat true) x10 (wrap64 (x11 - 1))) else (none)) else (spec_l17Tight.l3 k x3 x6 x11 (wrap64 (x11 - 1)))) else (spec_l17Tight.l3 k x3 x6 x11 (wrap64 (x11 - 1)))) else (spec_l17Tight.l3 k x3 x6 x11 (wrap64 (x11 - 1))))) else (none)) else (none)) else ((spec_l17Without.f k x3 x6).bind fun t157 => (some t157))
end
def spec_l17Tight.f (k : Nat) (l0 : List (S88)) : Option ((List (S88))) := spec_l17Tight.l0 k l0 (([] : List (S88))) 0
theorem spec_l17Tight.mono_l : ∀ k, (∀ y0 y1 y2, LeO (spec_l17Tight.l0 k y0 y1 y2) (spec_l17Tight.l0 (k + 1) y0 y1 y2)) ∧ (∀ y0 y1 y2, LeO (spec_l17Tight.l1 k y0 y1 y2) (spec_l17Tight.l1 (k + 1) y0 y1 y2)) ∧ (∀ y0 y1 y2, LeO (spec_l17Tight.l2 k y0 y1 y2) (spec_l17Tight.l2 (k + 1) y0 y1 y2)) ∧ (∀ y0 y1 y2 y3, LeO (spec_l17Tight.l3 k y0 y1 y2 y3) (spec_l17Tight.l3 (k + 1) y0 y1 y2 y3))
  | 0 => ⟨fun _ _ _ r h => by simp [spec_l17Tight.l0] at h, fun _ _ _ r h => by simp [spec_l17Tight.l1] at h, fun _ _ _ r h => by simp [spec_l17Tight.l2] at h, fun _ _ _ _ r h => by simp [spec_l17Tight.l3] at h⟩
  | k + 1 => by
    obtain ⟨ih0, ih1, ih2, ih3⟩ := spec_l17Tight.mono_l k
    refine ⟨?_, ?_, ?_, ?_⟩
    · intro y0 y1 y2
      unfold spec_l17Tight.l0
      repeat' first
      | (with_reducible exact ih0 _ _ _)
      | (with_reducible exact ih1 _ _ _)
      | (with_reducible exact ih2 _ _ _)
      | (with_reducible exact ih3 _ _ _ _)
      | (with_reducible exact spec_l17Leads.mono _ _ _)
      | (with_reducible exact spec_l17Without.mono _ _ _)
      | (with_reducible exact LeO.refl _)
      | (with_reducible exact LeO.none _)
      | (with_reducible refine LeO.ite ?_ ?_)
      | (with_reducible refine LeO.bind ?_ (fun _ => ?_))
      | exact ih0 _ _ _
      | exact ih1 _ _ _
      | exact ih2 _ _ _
      | exact ih3 _ _ _ _
      | exact spec_l17Leads.mono _ _ _
      | exact spec_l17Without.mono _ _ _
      | exact LeO.none _
      | refine LeO.ite ?_ ?_
      | refine LeO.bind ?_ (fun _ => ?_)
    · intro y0 y1 y2
      unfold spec_l17Tight.l1
      repeat' first
      | (with_reducible exact ih0 _ _ _)
      | (with_reducible exact ih1 _ _ _)
      | (with_reducible exact ih2 _ _ _)
      | (with_reducible exact ih3 _ _ _ _)
      | (with_reducible exact spec_l17Leads.mono _ _ _)
      | (with_reducible exact spec_l17Without.mono _ _ _)
      | (with_reducible exact LeO.refl _)
      | (with_reducible exact LeO.none _)
      | (with_reducible refine LeO.ite ?_ ?_)
      | (with_reducible refine LeO.bind ?_ (fun _ => ?_))
      | exact ih0 _ _ _
      | exact ih1 _ _ _
      | exact ih2 _ _ _
      | exact ih3 _ _ _ _
      | exact spec_l17Leads.mono _ _ _
      | exact spec_l17Without.mono _ _ _
      | exact LeO.none _
      | refine LeO.ite ?_ ?_
      | refine LeO.bind ?_ (fun _ => ?_)
    · intro y0 y1 y2
      unfold spec_l17Tight.l2
      repeat' first
      | (with_reducible exact ih0 _ _ _)
      | (with_reducible exact ih1 _ _ _)
      | (with_reducible exact ih2 _ _ _)
      | (with_reducible exact ih3 _ _ _ _)
      | (with_reducible exact spec_l17Leads.mono _ _ _)
      | (with_reducible exact spec_l17Without.mono _ _ _)
      | (with_reducible exact LeO.refl _)
      | (with_reducible exact LeO.none _)
      | (with_reducible refine LeO.ite ?_ ?_)
      | (with_reducible refine LeO.bind ?_ (fun _ => ?_))
      | exact ih0 _ _ _
      | exact ih1 _ _ _
      | exact ih2 _ _ _
      | exact ih3 _ _ _ _
      | exact spec_l17Leads.mono _ _ _
      | exact spec_l17Without.mono _ _ _
      | exact LeO.none _
      | refine LeO.ite ?_ ?_
      | refine LeO.bind ?_ (fun _ => ?_)
    · intro y0 y1 y2 y3
      unfold spec_l17Tight.l3
      repeat' first
      | (with_reducible exact ih0 _ _ _)
      | (with_reducible exact ih1 _ _ _)
      | (with_reducible exact ih2 _ _ _)
      | (with_reducible exact ih3 _ _ _ _)
      | (with_reducible exact spec_l17Leads.mono _ _ _)
      | (with_reducible exact spec_l17Without.mono _ _ _)
      | (with_reducible exact LeO.refl _)
      | (with_reducible exact LeO.none _)
      | (with_reducible refine LeO.ite ?_ ?_)
      | (with_reducible refine LeO.bind ?_ (fun _ => ?_))
      | exact ih0 _ _ _
      | exact ih1 _ _ _
      | exact ih2 _ _ _
      | exact ih3 _ _ _ _
      | exact spec_l17Leads.mono _ _ _
      | exact spec_l17Without.mono _ _ _
      | exact LeO.none _
      | refine LeO.ite ?_ ?_
      | refine LeO.bind ?_ (fun _ => ?_)
theorem spec_l17Tight.mono : ∀ a0 k, LeO (spec_l17Tight.f k a0) (spec_l17Tight.f (k + 1) a0) := by
  intro a0 k
  obtain ⟨ih0, ih1, ih2, ih3⟩ := spec_l17Tight.mono_l k
  unfold spec_l17Tight.f
  repeat' first
      | (with_reducible exact ih0 _ _ _)
      | (with_reducible exact ih1 _ _ _)
      | (with_reducible exact ih2 _ _ _)
      | (with_reducible exact ih3 _ _ _ _)
      | (with_reducible exact spec_l17Leads.mono _ _ _)
      | (with_reducible exact spec_l17Without.mono _ _ _)
      | (with_reducible exact LeO.refl _)
      | (with_reducible exact LeO.none _)
      | (with_reducible refine LeO.ite ?_ ?_)
      | (with_reducible refine LeO.bind ?_ (fun _ => ?_))
      | exact ih0 _ _ _
      | exact ih1 _ _ _
      | exact ih2 _ _ _
      | exact ih3 _ _ _ _
      | exact spec_l17Leads.mono _ _ _
      | exact spec_l17Without.mono _ _ _
      | exact LeO.none _
      | refine LeO.ite ?_ ?_
      | refine LeO.bind ?_ (fun _ => ?_)
theorem spec_l17Tight.with_blk {P : Program} {ops : Array Oper} {rest : List Oper} {a : Act} {Q : Exit → Act → World → Prop} {W : World} {g : Nat} {cs : Array Value} {t : TypeId} (hb : W.heap[g]? = some (.cells cs t (0, 0))) (h : (∀ i, W.cell? ⟨g, i, none⟩ = cs[i]?) → wpList P ops Q rest a W) : wpList P ops Q rest a W := h (fun i => blk_cell hb i)
set_option maxHeartbeats 8000000 in
set_option maxRecDepth 100000 in
theorem spec_l17Tight.calls (k : Nat) (A0 : Option Addr) (c0 : Nat) (l0 : List (S88)) (r : List (S88)) (w : World) (hr0 : Kd.C k88 w A0 l0.length l0) (hc0 : l0.length ≤ c0) (h : spec_l17Tight.f k l0 = some r) :
  Calls Try.prog 80 #[.slice A0 l0.length c0] w fun e w' => ∃ v0_ : Value, e = .returned (v0_) ∧ Kd.R k88 88 w' w.heap.size (fun _ => True) v0_ r ∧ Below w.heap.size w w' := by
 have hu88 := Try.underlying88
 have HR0 := Aside0.mk hr0
 have HC0 := Aside0.mk hc0
 clear hr0 hc0
 have HB := Aside0.mk (Below.refl w.heap.size w)
 have H : (spec_l17Tight.l0 k l0 (([] : List (S88))) 0) = some r := h
 clear h
 obtain ⟨y101, hy101⟩ : ∃ y_ : List (S88), y_ = (([] : List (S88))) := ⟨_, rfl⟩
 replace H : (spec_l17Tight.l0 k l0 y101 0) = some r := by first|(rw [hy101];with_reducible exact H)|(have H2_ := (Option.bind_some _ _).symm.trans H;rw [hy101];with_reducible exact H2_)|(have H2_ := (Option.bind_some _ _).symm.trans H;with_reducible exact H2_)|with_reducible exact H|(rw [hy101];exact H)|exact H
 have Ny101 := Aside0.mk hy101
 clear hy101
 have H' := Aside0.mk H
 clear H
 go_enter Try.func80, Try.ntmps80
 go_wp2_with (first|((with_reducible refine gate_dst (N := 12) rfl ?_);refine Kd.R_lit k88 _ 88 ?hg (N := 12) ?hd (xs := ([] : List (S88))) (inner := []) (ok := fun _ => True) (okp := fun _ => True) ?hr ?hp (fun _ hk => hk) trivial (Below.refl _ _) (Nat.le_refl _) (by simp) ?_;(case hd => rfl);(case hg => rfl);(case hr => first|(go_simp;done)|(go_simp;rfl));(case hp => exact (Reps.none _ _));intro v102 w2 ho3 hb hg_ hnew_;clear hg_ hnew_;(first|rw [← Ny101.out] at ho3|(simp only [Int.reduceToNat] at ho3;rw [← Ny101.out] at ho3));have n0_ := Aside0.mk (Kd.R_lower ho3 (below_size (by repeat (first|(with_reducible first|exact HB.out|apply below_alloc|apply pw_below_drewN|apply below_drew1)|exact HB.out))));have n1_ := Aside0.mk (below_step (by repeat (first|(with_reducible first|exact HB.out|apply below_alloc|apply pw_below_drewN|apply below_drew1)|exact HB.out)) hb);clear HB;have HO103 := n0_;have HB := n1_;clear n0_ n1_;clear hb ho3))
 go_loopg [3, 4] k (fun kq v3 v4 w' => ∃ (x3_1 : List (S88)) (x4_1 : Int), v4 = .int .i64 x4_1 ∧ Aside0 (spec_l17Tight.l0 kq l0 x3_1 x4_1 = some r) ∧ Aside0 (kq ≤ k) ∧ Aside0 (Kd.R k88 88 w' w.heap.size (fun _ => True) v3 x3_1) ∧ Aside0 (Below w.heap.size w w'))
 case atStart => exact ⟨(y101), (0), (by first|rfl|(simp;done)|(simp [*];done)), H', ⟨Nat.le_refl _⟩, ⟨by (with_reducible repeat (first|apply Kd.R_alloc|apply Kd.R_drewN|apply Kd.R_drew));exact HO103.out⟩, ⟨by repeat (first|(with_reducible first|exact HB.out|apply below_alloc|apply pw_below_drewN|apply below_drew1)|exact HB.out)⟩⟩
 case round =>
  clear H'
  try clear p2
  obtain ⟨x3_1, x4_1, rfl, HA, HK1, HO_3, HB⟩ := hrel
  cases gk with
  | zero => exact absurd HA.out (by simp [spec_l17Tight.l0])
  | succ k1 =>
   have H := HA.out
   clear HA
   simp only [spec_l17Tight.l0] at H
   by_cases c4 : x4_1 < (l0.length : Int)
   ·rw [if_pos c4] at H
    have c4b0 : decide (x4_1 < (l0.length : Int)) = true := decide_eq_true c4
    clear c4
    by_cases c5 : 0 ≤ x4_1
    ·rw [if_pos c5] at H
     have c5b0 : decide (0 ≤ x4_1) = true := decide_eq_true c5
     clear c5
     replace H := Option.bind_eq_some_iff.mp H
     obtain ⟨t106, A60, H⟩ := H
     replace H : (if t106 = true then ((spec_l17Leads.f k1 l0 ((rd_T88 l0 x4_1).f2)).bind fun t107 => (if x3_1.length < 5864062014805 then (spec_l17Tight.l0 k1 l0 (x3_1 ++ [(⟨(rd_T88 l0 x4_1).f0, (rd_T88 l0 x4_1).f1, t107⟩ : S88)]) (wrap64 (x4_1 + 1))) else (none))) else (if x3_1.length < 5864062014805 then (spec_l17Tight.l0 k1 l0 (x3_1 ++ [(⟨(rd_T88 l0 x4_1).f0, (rd_T88 l0 x4_1).f1, (rd_T88 l0 x4_1).f2⟩ : S88)]) (wrap64 (x4_1 + 1))) else (none))) = some r := H
     have A6 := Aside0.mk A60
     clear A60
     by_cases c7 : t106 = true
     ·subst c7
      have H1 : ((spec_l17Leads.f k1 l0 ((rd_T88 l0 x4_1).f2)).bind fun t107 => (if x3_1.length < 5864062014805 then (spec_l17Tight.l0 k1 l0 (x3_1 ++ [(⟨(rd_T88 l0 x4_1).f0, (rd_T88 l0 x4_1).f1, t107⟩ : S88)]) (wrap64 (x4_1 + 1))) else (none))) = some r := by rw [if_pos rfl] at H;exact H
      clear H
      have H := H1
      clear H1
      replace H := Option.bind_eq_some_iff.mp H
      obtain ⟨t107, A80, H⟩ := H
      replace H : (if x3_1.length < 5864062014805 then (spec_l17Tight.l0 k1 l0 (x3_1 ++ [(⟨(rd_T88 l0 x4_1).f0, (rd_T88 l0 x4_1).f1, t107⟩ : S88)]) (wrap64 (x4_1 + 1))) else (none)) = some r := H
      have A8 := Aside0.mk A80
      clear A80
      by_cases c9 : x3_1.length < 5864062014805
      ·rw [if_pos c9] at H
       have LMc9 := Aside0.mk c9
       clear c9
       obtain ⟨y108, hy108⟩ : ∃ y_ : List (S88), y_ = (x3_1 ++ [(⟨(rd_T88 l0 x4_1).f0, (rd_T88 l0 x4_1).f1, t107⟩ : S88)]) := ⟨_, rfl⟩
       replace H : (spec_l17Tight.l0 k1 l0 y108 (wrap64 (x4_1 + 1))) = some r := by first|(rw [hy108];with_reducible exact H)|(have H2_ := (Option.bind_some _ _).symm.trans H;rw [hy108];with_reducible exact H2_)|(have H2_ := (Option.bind_some _ _).symm.trans H;with_reducible exact H2_)|with_reducible exact H|(rw [hy108];exact H)|exact H
       have Ny108 := Aside0.mk hy108
       clear hy108
       have H' := Aside0.mk H
       clear H
       have p104 : 0 ≤ (x4_1 : Int) := of_decide_eq_true (by first|(with_reducible assumption)|assumption)
       have q104 : x4_1 < (l0.length : Int) := of_decide_eq_true (by first|(with_reducible assumption)|assumption)
       obtain ⟨ad104, e104, hx104_0, hx104_1, hx104_2⟩ := at_T88 HR0.out x4_1 p104 q104
       cases e104
       replace hx104_0 := (HB.out.cell (World.block_lt_of_cell? w _ hx104_0)).trans hx104_0
       replace hx104_1 := (HB.out.cell (World.block_lt_of_cell? w _ hx104_1)).trans hx104_1
       replace hx104_2 := (HB.out.cell (World.block_lt_of_cell? w _ hx104_2)).trans hx104_2
       replace p104 := eq_true p104
       replace q104 := eq_true q104
       go_wp2_with (first|((with_reducible refine gate_dst (N := 5) rfl ?_);refine box_event ?hg (N := 5) ?hd (cs := #[.int .i64 0, .int .i64 0, .int .i64 0]) (t := 88) ?hr ?_;(case hd => rfl);(case hg => rfl);(case hr => first|(go_simp;done)|(go_simp;rfl));intro gb105 hg w10 hbox hb;have n0_ := Aside0.mk (Kd.R_below (Kd.R_elderB (by (with_reducible repeat (first|apply Kd.R_alloc|apply Kd.R_drewN|apply Kd.R_drew));exact HO_3.out) gb105 (Nat.le_of_eq hg.symm)) hb);have n1_ := Aside0.mk (below_step (by repeat (first|(with_reducible first|exact HB.out|apply below_alloc|apply pw_below_drewN|apply below_drew1)|exact HB.out)) hb);have n2_ := Aside0.mk (hbox);have n3_ := Aside0.mk ((by rw [hg];exact (below_size (by repeat (first|(with_reducible first|exact HB.out|apply below_alloc|apply pw_below_drewN|apply below_drew1)|exact HB.out))) : w.heap.size ≤ gb105));have n4_ := Aside0.mk ((by rw [hg];exact (below_size (by repeat (first|(with_reducible first|exact HB.out|apply below_alloc|apply pw_below_drewN|apply below_drew1)|exact HB.out))) : w.heap.size ≤ gb105));clear HO_3;clear HB;have HO_3 := n0_;have HB := n1_;have BK105 := n2_;have GW105 := n3_;have GE105 := n4_;clear n0_ n1_ n2_ n3_ n4_;clear hb hbox hg;have hcz11_0 : w10.cell? ⟨gb105, 0, none⟩ = some (.int .i64 0) := (blk_cell BK105.out 0).trans rfl;have hcz11_1 : w10.cell? ⟨gb105, 1, none⟩ = some (.int .i64 0) := (blk_cell BK105.out 1).trans rfl;have hcz11_2 : w10.cell? ⟨gb105, 2, none⟩ = some (.int .i64 0) := (blk_cell BK105.out 2).trans rfl;have hfz11_0 := blk_frozen BK105.out 0;have hfz11_1 := blk_frozen BK105.out 1;have hfz11_2 := blk_frozen BK105.out 2)|((with_reducible refine gate_callee (f := 64) rfl ?_);refine goesL_ (some 25) rfl rfl Try.func64 (by kernel_rfl) rfl #[.int .i64 ((rd_T88 l0 x4_1).f0)] rfl (by (try simp only [List.map_toArray, List.map_cons, List.map_nil]);first|done|rfl|(simp only [List.length_drop, List.length_take];rfl)) ?_;(with_reducible refine (spec_l17HasTo.calls ((rd_T88 l0 x4_1).f0) true _ A6.out).mono ?_);rintro e w' ⟨rfl, ⟨nd, rfl⟩⟩;refine ⟨_, rfl, ?_⟩;try (refine spec_l17Tight.with_blk (g := gb105) (cs := #[.int .i64 ((rd_T88 l0 x4_1).f0), .int .i64 ((rd_T88 l0 x4_1).f1), .int .i64 ((rd_T88 l0 x4_1).f2)]) (t := 88) ?bk (fun hcq_ => ?_);(case bk => ((with_reducible repeat (first|refine blk_drewN ?_ _|refine blk_drew ?_|refine blk_alloc ?_ _));refine blk_put (cs := #[.int .i64 ((rd_T88 l0 x4_1).f0), .int .i64 ((rd_T88 l0 x4_1).f1), .int .i64 0]) ?_ 2 _ rfl;(with_reducible repeat (first|refine blk_drewN ?_ _|refine blk_drew ?_|refine blk_alloc ?_ _));refine blk_put (cs := #[.int .i64 ((rd_T88 l0 x4_1).f0), .int .i64 0, .int .i64 0]) ?_ 1 _ rfl;(with_reducible repeat (first|refine blk_drewN ?_ _|refine blk_drew ?_|refine blk_alloc ?_ _));refine blk_put (cs := #[.int .i64 0, .int .i64 0, .int .i64 0]) ?_ 0 _ rfl;(with_reducible repeat (first|refine blk_drewN ?_ _|refine blk_drew ?_|refine blk_alloc ?_ _));exact BK105.out));have hcqgb105_0 := (hcq_ 0).trans (show _ = some (.int .i64 ((rd_T88 l0 x4_1).f0)) from rfl);try simp only [World.drewN_drewN] at hcqgb105_0;have hcqgb105_1 := (hcq_ 1).trans (show _ = some (.int .i64 ((rd_T88 l0 x4_1).f1)) from rfl);try simp only [World.drewN_drewN] at hcqgb105_1;have hcqgb105_2 := (hcq_ 2).trans (show _ = some (.int .i64 ((rd_T88 l0 x4_1).f2)) from rfl);try simp only [World.drewN_drewN] at hcqgb105_2;clear hcq_))|((with_reducible refine gate_callee (f := 112) rfl ?_);refine goesL_ (some 29) rfl rfl Try.func112 (by kernel_rfl) rfl #[.slice (some ad104) l0.length c0, .int .i64 ((rd_T88 l0 x4_1).f2)] rfl (by (try simp only [List.map_toArray, List.map_cons, List.map_nil]);first|done|rfl|(simp only [List.length_drop, List.length_take];rfl)) ?_;(with_reducible refine (spec_l17Leads.calls k1 _ _ l0 ((rd_T88 l0 x4_1).f2) t107 _ ?side1 ?side2 A8.out).mono ?_);(case side1 => exact Kd.C_below HR0.out (by repeat (first|(with_reducible first|exact HB.out|apply below_alloc|apply pw_below_drewN|apply below_drew1|refine below_set ?_ GE105.out)|exact HB.out)));(case side2 => exact HC0.out);rintro e w' ⟨rfl, ⟨nd, rfl⟩⟩;refine ⟨_, rfl, ?_⟩;try (refine spec_l17Tight.with_blk (g := gb105) (cs := #[.int .i64 ((rd_T88 l0 x4_1).f0), .int .i64 ((rd_T88 l0 x4_1).f1), .int .i64 ((rd_T88 l0 x4_1).f2)]) (t := 88) ?bk (fun hcq_ => ?_);(case bk => ((with_reducible repeat (first|refine blk_drewN ?_ _|refine blk_drew ?_|refine blk_alloc ?_ _));refine blk_put (cs := #[.int .i64 ((rd_T88 l0 x4_1).f0), .int .i64 ((rd_T88 l0 x4_1).f1), .int .i64 0]) ?_ 2 _ rfl;(with_reducible repeat (first|refine blk_drewN ?_ _|refine blk_drew ?_|refine blk_alloc ?_ _));refine blk_put (cs := #[.int .i64 ((rd_T88 l0 x4_1).f0), .int .i64 0, .int .i64 0]) ?_ 1 _ rfl;(with_reducible repeat (first|refine blk_drewN ?_ _|refine blk_drew ?_|refine blk_alloc ?_ _));refine blk_put (cs := #[.int .i64 0, .int .i64 0, .int .i64 0]) ?_ 0 _ rfl;(with_reducible repeat (first|refine blk_drewN ?_ _|refine blk_drew ?_|refine blk_alloc ?_ _));exact BK105.out));have hcqgb105_0 := (hcq_ 0).trans (show _ = some (.int .i64 ((rd_T88 l0 x4_1).f0)) from rfl);try simp only [World.drewN_drewN] at hcqgb105_0;have hcqgb105_1 := (hcq_ 1).trans (show _ = some (.int .i64 ((rd_T88 l0 x4_1).f1)) from rfl);try simp only [World.drewN_drewN] at hcqgb105_1;have hcqgb105_2 := (hcq_ 2).trans (show _ = some (.int .i64 ((rd_T88 l0 x4_1).f2)) from rfl);try simp only [World.drewN_drewN] at hcqgb105_2;clear hcq_))|((with_reducible refine gate_builtin (b := .append) (xs := #[.tmp 31, .tmp 33]) rfl ?_);at_builtin;refine Kd.R_append k88 (w0 := w) w.heap.size rfl (.tmp 31) (.tmp 33) 36 88 (.agg #[(.int .i64 0), (.int .i64 0), (.int .i64 0)]) 24 rfl Try.underlying36 info88 rfl (by decide) (by omega) u3 x3_1 (⟨(rd_T88 l0 x4_1).f0, (rd_T88 l0 x4_1).f1, t107⟩ : S88) [.int .i64 ((rd_T88 l0 x4_1).f0), .int .i64 ((rd_T88 l0 x4_1).f1), .int .i64 t107] (fun k_ => k_ ≠ gb105) (fun _ => False) rfl (by first|(go_simp;done)|(go_simp;rfl)) ?aP (fun _ hk => hk.elim) ?aF ?aO ?aB ?aS ?aL ?_;(case aP => exact k88_mkM _ _ _ (⟨(rd_T88 l0 x4_1).f0, (rd_T88 l0 x4_1).f1, t107⟩ : S88));(case aB => exact (by repeat (first|(with_reducible first|exact HB.out|apply below_alloc|apply pw_below_drewN|apply below_drew1|refine below_set ?_ GE105.out)|exact HB.out)));(case aF => exact (fun k_ hk => Kd.freshB (g := gb105) (o := .cells #[.int .i64 ((rd_T88 l0 x4_1).f0), .int .i64 ((rd_T88 l0 x4_1).f1), .int .i64 t107] 88 (0, 0)) (by (with_reducible repeat (first|refine blk_drewN ?_ _|refine blk_drew ?_|refine blk_alloc ?_ _));refine blk_put (cs := #[.int .i64 ((rd_T88 l0 x4_1).f0), .int .i64 ((rd_T88 l0 x4_1).f1), .int .i64 ((rd_T88 l0 x4_1).f2)]) ?_ 2 _ rfl;(with_reducible repeat (first|refine blk_drewN ?_ _|refine blk_drew ?_|refine blk_alloc ?_ _));refine blk_put (cs := #[.int .i64 ((rd_T88 l0 x4_1).f0), .int .i64 ((rd_T88 l0 x4_1).f1), .int .i64 0]) ?_ 2 _ rfl;(with_reducible repeat (first|refine blk_drewN ?_ _|refine blk_drew ?_|refine blk_alloc ?_ _));refine blk_put (cs := #[.int .i64 ((rd_T88 l0 x4_1).f0), .int .i64 0, .int .i64 0]) ?_ 1 _ rfl;(with_reducible repeat (first|refine blk_drewN ?_ _|refine blk_drew ?_|refine blk_alloc ?_ _));refine blk_put (cs := #[.int .i64 0, .int .i64 0, .int .i64 0]) ?_ 0 _ rfl;(with_reducible repeat (first|refine blk_drewN ?_ _|refine blk_drew ?_|refine blk_alloc ?_ _));exact BK105.out) k_ hk));(case aO => exact (by (with_reducible repeat (first|apply Kd.R_alloc|apply Kd.R_drewN|apply Kd.R_drew));exact Kd.R_mono (Kd.R_far (p := ⟨gb105, 2, none⟩) (Kd.R_far (p := ⟨gb105, 2, none⟩) (Kd.R_far (p := ⟨gb105, 1, none⟩) (Kd.R_far (p := ⟨gb105, 0, none⟩) (Kd.R_mono HO_3.out (fun k_ hk => (⟨hk, hk.2⟩ : _ ∧ k_ ≠ gb105))) (fun _ hk => hk.2) (.int .i64 ((rd_T88 l0 x4_1).f0))) (fun _ hk => hk.2) (.int .i64 ((rd_T88 l0 x4_1).f1))) (fun _ hk => hk.2) (.int .i64 ((rd_T88 l0 x4_1).f2))) (fun _ hk => hk.2) (.int .i64 t107)) (fun _ hk => hk.1.2)));(case aS => exact (below_size (by repeat (first|(with_reducible first|exact HB.out|apply below_alloc|apply pw_below_drewN|apply below_drew1|refine below_set ?_ GE105.out)|exact HB.out))));(case aL => have := LMc9.out;omega);intro v109 w12 ho hb hg hat;rw [← Ny108.out] at ho;have n0_ := Aside0.mk (blk_grown (g := gb105) (o := .cells #[.int .i64 ((rd_T88 l0 x4_1).f0), .int .i64 ((rd_T88 l0 x4_1).f1), .int .i64 t107] 88 (0, 0)) (by (with_reducible repeat (first|refine blk_drewN ?_ _|refine blk_drew ?_|refine blk_alloc ?_ _));refine blk_put (cs := #[.int .i64 ((rd_T88 l0 x4_1).f0), .int .i64 ((rd_T88 l0 x4_1).f1), .int .i64 ((rd_T88 l0 x4_1).f2)]) ?_ 2 _ rfl;(with_reducible repeat (first|refine blk_drewN ?_ _|refine blk_drew ?_|refine blk_alloc ?_ _));refine blk_put (cs := #[.int .i64 ((rd_T88 l0 x4_1).f0), .int .i64 ((rd_T88 l0 x4_1).f1), .int .i64 0]) ?_ 2 _ rfl;(with_reducible repeat (first|refine blk_drewN ?_ _|refine blk_drew ?_|refine blk_alloc ?_ _));refine blk_put (cs := #[.int .i64 ((rd_T88 l0 x4_1).f0), .int .i64 0, .int .i64 0]) ?_ 1 _ rfl;(with_reducible repeat (first|refine blk_drewN ?_ _|refine blk_drew ?_|refine blk_alloc ?_ _));refine blk_put (cs := #[.int .i64 0, .int .i64 0, .int .i64 0]) ?_ 0 _ rfl;(with_reducible repeat (first|refine blk_drewN ?_ _|refine blk_drew ?_|refine blk_alloc ?_ _));exact BK105.out) hg (Kd.R_away HO_3.out (fun _ hk => hk.2)));have n1_ := Aside0.mk (hb);have n2_ := Aside0.mk (ho);clear BK105;clear HB;clear HO_3;have BK105 := n0_;have HB := n1_;have HO110 := n2_;clear n0_ n1_ n2_;clear ho hb hg hat))
       go_roundg k1
       case measure => have := HK1.out;omega
       case rel => exact ⟨(y108), (wrap64 (x4_1 + 1)), (by first|rfl|(simp;done)|(simp [*];done)), H', ⟨by have := HK1.out;omega⟩, ⟨by (with_reducible repeat (first|apply Kd.R_alloc|apply Kd.R_drewN|apply Kd.R_drew));exact Kd.R_mono HO110.out (fun _ hk => trivial)⟩, ⟨by repeat (first|(with_reducible first|exact HB.out|apply below_alloc|apply pw_below_drewN|apply below_drew1|refine below_set ?_ GE105.out)|exact HB.out)⟩⟩
      ·rw [if_neg c9] at H
       exact absurd H (by simp)
     ·replace c7 := Bool.eq_false_iff.mpr c7
      subst c7
      have H1 : (if x3_1.length < 5864062014805 then (spec_l17Tight.l0 k1 l0 (x3_1 ++ [(⟨(rd_T88 l0 x4_1).f0, (rd_T88 l0 x4_1).f1, (rd_T88 l0 x4_1).f2⟩ : S88)]) (wrap64 (x4_1 + 1))) else (none)) = some r := by rw [if_neg (show ¬ (false = true) by decide)] at H;exact H
      clear H
      have H := H1
      clear H1
      by_cases c13 : x3_1.length < 5864062014805
      ·rw [if_pos c13] at H
       have LMc13 := Aside0.mk c13
       clear c13
       obtain ⟨y111, hy111⟩ : ∃ y_ : List (S88), y_ = (x3_1 ++ [(⟨(rd_T88 l0 x4_1).f0, (rd_T88 l0 x4_1).f1, (rd_T88 l0 x4_1).f2⟩ : S88)]) := ⟨_, rfl⟩
       replace H : (spec_l17Tight.l0 k1 l0 y111 (wrap64 (x4_1 + 1))) = some r := by first|(rw [hy111];with_reducible exact H)|(have H2_ := (Option.bind_some _ _).symm.trans H;rw [hy111];with_reducible exact H2_)|(have H2_ := (Option.bind_some _ _).symm.trans H;with_reducible exact H2_)|with_reducible exact H|(rw [hy111];exact H)|exact H
       have Ny111 := Aside0.mk hy111
       clear hy111
       have H' := Aside0.mk H
       clear H
       have p104 : 0 ≤ (x4_1 : Int) := of_decide_eq_true (by first|(with_reducible assumption)|assumption)
       have q104 : x4_1 < (l0.length : Int) := of_decide_eq_true (by first|(with_reducible assumption)|assumption)
       obtain ⟨ad104, e104, hx104_0, hx104_1, hx104_2⟩ := at_T88 HR0.out x4_1 p104 q104
       cases e104
       replace hx104_0 := (HB.out.cell (World.block_lt_of_cell? w _ hx104_0)).trans hx104_0
       replace hx104_1 := (HB.out.cell (World.block_lt_of_cell? w _ hx104_1)).trans hx104_1
       replace hx104_2 := (HB.out.cell (World.block_lt_of_cell? w _ hx104_2)).trans hx104_2
       replace p104 := eq_true p104
       replace q104 := eq_true q104
       go_wp2_with (first|((with_reducible refine gate_dst (N := 5) rfl ?_);refine box_event ?hg (N := 5) ?hd (cs := #[.int .i64 0, .int .i64 0, .int .i64 0]) (t := 88) ?hr ?_;(case hd => rfl);(case hg => rfl);(case hr => first|(go_simp;done)|(go_simp;rfl));intro gb105 hg w14 hbox hb;have n0_ := Aside0.mk (Kd.R_below (Kd.R_elderB (by (with_reducible repeat (first|apply Kd.R_alloc|apply Kd.R_drewN|apply Kd.R_drew));exact HO_3.out) gb105 (Nat.le_of_eq hg.symm)) hb);have n1_ := Aside0.mk (below_step (by repeat (first|(with_reducible first|exact HB.out|apply below_alloc|apply pw_below_drewN|apply below_drew1)|exact HB.out)) hb);have n2_ := Aside0.mk (hbox);have n3_ := Aside0.mk ((by rw [hg];exact (below_size (by repeat (first|(with_reducible first|exact HB.out|apply below_alloc|apply pw_below_drewN|apply below_drew1)|exact HB.out))) : w.heap.size ≤ gb105));have n4_ := Aside0.mk ((by rw [hg];exact (below_size (by repeat (first|(with_reducible first|exact HB.out|apply below_alloc|apply pw_below_drewN|apply below_drew1)|exact HB.out))) : w.heap.size ≤ gb105));clear HO_3;clear HB;have HO_3 := n0_;have HB := n1_;have BK105 := n2_;have GW105 := n3_;have GE105 := n4_;clear n0_ n1_ n2_ n3_ n4_;clear hb hbox hg;have hcz15_0 : w14.cell? ⟨gb105, 0, none⟩ = some (.int .i64 0) := (blk_cell BK105.out 0).trans rfl;have hcz15_1 : w14.cell? ⟨gb105, 1, none⟩ = some (.int .i64 0) := (blk_cell BK105.out 1).trans rfl;have hcz15_2 : w14.cell? ⟨gb105, 2, none⟩ = some (.int .i64 0) := (blk_cell BK105.out 2).trans rfl;have hfz15_0 := blk_frozen BK105.out 0;have hfz15_1 := blk_frozen BK105.out 1;have hfz15_2 := blk_frozen BK105.out 2)|((with_reducible refine gate_callee (f := 64) rfl ?_);refine goesL_ (some 25) rfl rfl Try.func64 (by kernel_rfl) rfl #[.int .i64 ((rd_T88 l0 x4_1).f0)] rfl (by (try simp only [List.map_toArray, List.map_cons, List.map_nil]);first|done|rfl|(simp only [List.length_drop, List.length_take];rfl)) ?_;(with_reducible refine (spec_l17HasTo.calls ((rd_T88 l0 x4_1).f0) false _ A6.out).mono ?_);rintro e w' ⟨rfl, ⟨nd, rfl⟩⟩;refine ⟨_, rfl, ?_⟩)|((with_reducible refine gate_builtin (b := .append) (xs := #[.tmp 31, .tmp 33]) rfl ?_);at_builtin;refine Kd.R_append k88 (w0 := w) w.heap.size rfl (.tmp 31) (.tmp 33) 36 88 (.agg #[(.int .i64 0), (.int .i64 0), (.int .i64 0)]) 24 rfl Try.underlying36 info88 rfl (by decide) (by omega) u3 x3_1 (⟨(rd_T88 l0 x4_1).f0, (rd_T88 l0 x4_1).f1, (rd_T88 l0 x4_1).f2⟩ : S88) [.int .i64 ((rd_T88 l0 x4_1).f0), .int .i64 ((rd_T88 l0 x4_1).f1), .int .i64 ((rd_T88 l0 x4_1).f2)] (fun k_ => k_ ≠ gb105) (fun _ => False) rfl (by first|(go_simp;done)|(go_simp;rfl)) ?aP (fun _ hk => hk.elim) ?aF ?aO ?aB ?aS ?aL ?_;(case aP => exact k88_mkM _ _ _ (⟨(rd_T88 l0 x4_1).f0, (rd_T88 l0 x4_1).f1, (rd_T88 l0 x4_1).f2⟩ : S88));(case aB => exact (by repeat (first|(with_reducible first|exact HB.out|apply below_alloc|apply pw_below_drewN|apply below_drew1|refine below_set ?_ GE105.out)|exact HB.out)));(case aF => exact (fun k_ hk => Kd.freshB (g := gb105) (o := .cells #[.int .i64 ((rd_T88 l0 x4_1).f0), .int .i64 ((rd_T88 l0 x4_1).f1), .int .i64 ((rd_T88 l0 x4_1).f2)] 88 (0, 0)) (by (with_reducible repeat (first|refine blk_drewN ?_ _|refine blk_drew ?_|refine blk_alloc ?_ _));refine blk_put (cs := #[.int .i64 ((rd_T88 l0 x4_1).f0), .int .i64 ((rd_T88 l0 x4_1).f1), .int .i64 0]) ?_ 2 _ rfl;(with_reducible repeat (first|refine blk_drewN ?_ _|refine blk_drew ?_|refine blk_alloc ?_ _));refine blk_put (cs := #[.int .i64 ((rd_T88 l0 x4_1).f0), .int .i64 0, .int .i64 0]) ?_ 1 _ rfl;(with_reducible repeat (first|refine blk_drewN ?_ _|refine blk_drew ?_|refine blk_alloc ?_ _));refine blk_put (cs := #[.int .i64 0, .int .i64 0, .int .i64 0]) ?_ 0 _ rfl;(with_reducible repeat (first|refine blk_drewN ?_ _|refine blk_drew ?_|refine blk_alloc ?_ _));exact BK105.out) k_ hk));(case aO => exact (by (with_reducible repeat (first|apply Kd.R_alloc|apply Kd.R_drewN|apply Kd.R_drew));exact Kd.R_mono (Kd.R_far (p := ⟨gb105, 2, none⟩) (Kd.R_far (p := ⟨gb105, 1, none⟩) (Kd.R_far (p := ⟨gb105, 0, none⟩) (Kd.R_mono HO_3.out (fun k_ hk => (⟨hk, hk.2⟩ : _ ∧ k_ ≠ gb105))) (fun _ hk => hk.2) (.int .i64 ((rd_T88 l0 x4_1).f0))) (fun _ hk => hk.2) (.int .i64 ((rd_T88 l0 x4_1).f1))) (fun _ hk => hk.2) (.int .i64 ((rd_T88 l0 x4_1).f2))) (fun _ hk => hk.1.2)));(case aS => exact (below_size (by repeat (first|(with_reducible first|exact HB.out|apply below_alloc|apply pw_below_drewN|apply below_drew1|refine below_set ?_ GE105.out)|exact HB.out))));(case aL => have := LMc13.out;omega);intro v112 w16 ho hb hg hat;rw [← Ny111.out] at ho;have n0_ := Aside0.mk (blk_grown (g := gb105) (o := .cells #[.int .i64 ((rd_T88 l0 x4_1).f0), .int .i64 ((rd_T88 l0 x4_1).f1), .int .i64 ((rd_T88 l0 x4_1).f2)] 88 (0, 0)) (by (with_reducible repeat (first|refine blk_drewN ?_ _|refine blk_drew ?_|refine blk_alloc ?_ _));refine blk_put (cs := #[.int .i64 ((rd_T88 l0 x4_1).f0), .int .i64 ((rd_T88 l0 x4_1).f1), .int .i64 0]) ?_ 2 _ rfl;(with_reducible repeat (first|refine blk_drewN ?_ _|refine blk_drew ?_|refine blk_alloc ?_ _));refine blk_put (cs := #[.int .i64 ((rd_T88 l0 x4_1).f0), .int .i64 0, .int .i64 0]) ?_ 1 _ rfl;(with_reducible repeat (first|refine blk_drewN ?_ _|refine blk_drew ?_|refine blk_alloc ?_ _));refine blk_put (cs := #[.int .i64 0, .int .i64 0, .int .i64 0]) ?_ 0 _ rfl;(with_reducible repeat (first|refine blk_drewN ?_ _|refine blk_drew ?_|refine blk_alloc ?_ _));exact BK105.out) hg (Kd.R_away HO_3.out (fun _ hk => hk.2)));have n1_ := Aside0.mk (hb);have n2_ := Aside0.mk (ho);clear BK105;clear HB;clear HO_3;have BK105 := n0_;have HB := n1_;have HO113 := n2_;clear n0_ n1_ n2_;clear ho hb hg hat))
       go_roundg k1
       case measure => have := HK1.out;omega
       case rel => exact ⟨(y111), (wrap64 (x4_1 + 1)), (by first|rfl|(simp;done)|(simp [*];done)), H', ⟨by have := HK1.out;omega⟩, ⟨by (with_reducible repeat (first|apply Kd.R_alloc|apply Kd.R_drewN|apply Kd.R_drew));exact Kd.R_mono HO113.out (fun _ hk => trivial)⟩, ⟨by repeat (first|(with_reducible first|exact HB.out|apply below_alloc|apply pw_below_drewN|apply below_drew1|refine below_set ?_ GE105.out)|exact HB.out)⟩⟩
      ·rw [if_neg c13] at H
       exact absurd H (by simp)
    ·rw [if_neg c5] at H
     exact absurd H (by simp)
   ·rw [if_neg c4] at H
    have c4b0 : decide (x4_1 < (l0.length : Int)) = false := decide_eq_false c4
    clear c4
    obtain ⟨y114, hy114⟩ : ∃ y_ : List Bool, y_ = (([] : List Bool)) := ⟨_, rfl⟩
    replace H : (spec_l17Tight.l1 k1 x3_1 y114 0) = some r := by first|(rw [hy114];with_reducible exact H)|(have H2_ := (Option.bind_some _ _).symm.trans H;rw [hy114];with_reducible exact H2_)|(have H2_ := (Option.bind_some _ _).symm.trans H;with_reducible exact H2_)|with_reducible exact H|(rw [hy114];exact H)|exact H
    have Ny114 := Aside0.mk hy114
    clear hy114
    have H' := Aside0.mk H
    clear H
    go_wp2_with (first|((with_reducible refine gate_dst (N := 35) rfl ?_);refine Kd.R_lit Kd.bool _ 4 ?hg (N := 35) ?hd (xs := ([] : List Bool)) (inner := []) (ok := fun _ => True) (okp := fun _ => True) ?hr ?hp (fun _ hk => hk) trivial (Below.refl _ _) (Nat.le_refl _) (by simp) ?_;(case hd => rfl);(case hg => rfl);(case hr => first|(go_simp;done)|(go_simp;rfl));(case hp => exact (Reps.none _ _));intro v115 w17 ho18 hb hg_ hnew_;clear hg_ hnew_;(first|rw [← Ny114.out] at ho18|(simp only [Int.reduceToNat] at ho18;rw [← Ny114.out] at ho18));have n0_ := Aside0.mk (Kd.R_below (by (with_reducible repeat (first|apply Kd.R_alloc|apply Kd.R_drewN|apply Kd.R_drew));exact HO_3.out) hb);have n1_ := Aside0.mk (Kd.R_lower ho18 (below_size (by repeat (first|(with_reducible first|exact HB.out|apply below_alloc|apply pw_below_drewN|apply below_drew1)|exact HB.out))));have n2_ := Aside0.mk (below_step (by repeat (first|(with_reducible first|exact HB.out|apply below_alloc|apply pw_below_drewN|apply below_drew1)|exact HB.out)) hb);clear HO_3;clear HB;have HO_3 := n0_;have HO116 := n1_;have HB := n2_;clear n0_ n1_ n2_;clear hb ho18))
    go_loopg [6, 7] k1 (fun kq v6 v7 w' => ∃ (x6_2 : List Bool) (x7_2 : Int), v7 = .int .i64 x7_2 ∧ Aside0 (spec_l17Tight.l1 kq x3_1 x6_2 x7_2 = some r) ∧ Aside0 (kq ≤ k1) ∧ Aside0 (Kd.R k88 88 w' w.heap.size (fun _ => True) u3 x3_1) ∧ Aside0 (Kd.R Kd.bool 4 w' w.heap.size (fun _ => True) v6 x6_2) ∧ Aside0 (Below w.heap.size w w'))
    case atStart => exact ⟨(y114), (0), (by first|rfl|(simp;done)|(simp [*];done)), H', ⟨Nat.le_refl _⟩, ⟨by (with_reducible repeat (first|apply Kd.R_alloc|apply Kd.R_drewN|apply Kd.R_drew));exact HO_3.out⟩, ⟨by (with_reducible repeat (first|apply Kd.R_alloc|apply Kd.R_drewN|apply Kd.R_drew));exact HO116.out⟩, ⟨by repeat (first|(with_reducible first|exact HB.out|apply below_alloc|apply pw_below_drewN|apply below_drew1)|exact HB.out)⟩⟩
    case round =>
     clear H'
     try clear c1
     try clear p1
     try clear q1
     try clear hx1
     try clear p2
     try clear c4
     try clear c4b0
     try clear c5
     try clear c5b0
     try clear c6
     try clear p6
     try clear c7
     try clear c8
     try clear c9
     try clear p10
     try clear q10
     try clear hx10
     try clear c11
     try clear c13
     try clear hcz11_0
     try clear hcz11_1
     try clear hcz11_2
     try clear hcz15_0
     try clear hcz15_1
     try clear hcz15_2
     try clear hfz11_0
     try clear hfz11_1
     try clear hfz11_2
     try clear hfz15_0
     try clear hfz15_1
     try clear hfz15_2
     try clear hx104_0
     try clear hx104_1
     try clear hx104_2
     try clear p104
     try clear p2
     try clear q104
     obtain ⟨x6_2, x7_2, rfl, HA, HK2, HO_3, HO_6, HB⟩ := hrel
     cases gk with
     | zero => exact absurd HA.out (by simp [spec_l17Tight.l1])
     | succ k2 =>
      have H := HA.out
      clear HA
      simp only [spec_l17Tight.l1] at H
      by_cases c19 : x7_2 < (x3_1.length : Int)
      ·rw [if_pos c19] at H
       have c19b0 : decide (x7_2 < (x3_1.length : Int)) = true := decide_eq_true c19
       clear c19
       by_cases c20 : x6_2.length < 140737488355328
       ·rw [if_pos c20] at H
        have LMc20 := Aside0.mk c20
        clear c20
        obtain ⟨y117, hy117⟩ : ∃ y_ : List Bool, y_ = (x6_2 ++ [true]) := ⟨_, rfl⟩
        replace H : (spec_l17Tight.l1 k2 x3_1 y117 (wrap64 (x7_2 + 1))) = some r := by first|(rw [hy117];with_reducible exact H)|(have H2_ := (Option.bind_some _ _).symm.trans H;rw [hy117];with_reducible exact H2_)|(have H2_ := (Option.bind_some _ _).symm.trans H;with_reducible exact H2_)|with_reducible exact H|(rw [hy117];exact H)|exact H
        have Ny117 := Aside0.mk hy117
        clear hy117
        have H' := Aside0.mk H
        clear H
        obtain ⟨Ao21, co21, eo21⟩ := Kd.R_slice HO_3.out
        subst eo21
        go_wp2_with (first|((with_reducible refine gate_builtin (b := .append) (xs := #[.tmp 42, .tmp 43]) rfl ?_);at_builtin;refine Kd.R_append Kd.bool (w0 := w) w.heap.size rfl (.tmp 42) (.tmp 43) 106 4 (.bool false) 1 rfl Try.underlying106 info4 rfl (by decide) (by omega) u6 x6_2 true [.bool true] (fun _ => True) (fun _ => False) rfl rfl ?aP (fun _ hk => hk.elim) ?aF ?aO ?aB ?aS ?aL ?_;(case aP => exact rfl);(case aB => exact (by repeat (first|(with_reducible first|exact HB.out|apply below_alloc|apply pw_below_drewN|apply below_drew1)|exact HB.out)));(case aF => exact (fun _ _ => trivial));(case aO => exact (by (with_reducible repeat (first|apply Kd.R_alloc|apply Kd.R_drewN|apply Kd.R_drew));exact HO_6.out));(case aS => exact (below_size (by repeat (first|(with_reducible first|exact HB.out|apply below_alloc|apply pw_below_drewN|apply below_drew1)|exact HB.out))));(case aL => have := LMc20.out;omega);intro v118 w22 ho hb hg hat;rw [← Ny117.out] at ho;have n0_ := Aside0.mk (Kd.R_over' (by (with_reducible repeat (first|apply Kd.R_alloc|apply Kd.R_drewN|apply Kd.R_drew));exact HO_3.out) (Kd.R_typed (by (with_reducible repeat (first|apply Kd.R_alloc|apply Kd.R_drewN|apply Kd.R_drew));exact HO_6.out)) (by decide) hg);have n1_ := Aside0.mk (hb);have n2_ := Aside0.mk (ho);clear HO_3;clear HB;clear HO_6;have HO_3 := n0_;have HB := n1_;have HO119 := n2_;clear n0_ n1_ n2_;clear ho hb hg hat))
        go_roundg k2
        case measure => have := HK1.out;have := HK2.out;omega
        case rel => exact ⟨(y117), (wrap64 (x7_2 + 1)), (by first|rfl|(simp;done)|(simp [*];done)), H', ⟨by have := HK1.out;have := HK2.out;omega⟩, ⟨by (with_reducible repeat (first|apply Kd.R_alloc|apply Kd.R_drewN|apply Kd.R_drew));exact HO_3.out⟩, ⟨by (with_reducible repeat (first|apply Kd.R_alloc|apply Kd.R_drewN|apply Kd.R_drew));exact HO119.out⟩, ⟨by repeat (first|(with_reducible first|exact HB.out|apply below_alloc|apply pw_below_drewN|apply below_drew1)|exact HB.out)⟩⟩
       ·rw [if_neg c20] at H
        exact absurd H (by simp)
      ·rw [if_neg c19] at H
       have c19b0 : decide (x7_2 < (x3_1.length : Int)) = false := decide_eq_false c19
       clear c19
       obtain ⟨y120, hy120⟩ : ∃ y_ : List Int, y_ = (([0] : List Int)) := ⟨_, rfl⟩
       replace H : (spec_l17Tight.l2 k2 x3_1 x6_2 y120) = some r := by first|(rw [hy120];with_reducible exact H)|(have H2_ := (Option.bind_some _ _).symm.trans H;rw [hy120];with_reducible exact H2_)|(have H2_ := (Option.bind_some _ _).symm.trans H;with_reducible exact H2_)|with_reducible exact H|(rw [hy120];exact H)|exact H
       have Ny120 := Aside0.mk hy120
       clear hy120
       have H' := Aside0.mk H
       clear H
       obtain ⟨Ao23, co23, eo23⟩ := Kd.R_slice HO_3.out
       subst eo23
       go_wp2_with (first|((with_reducible refine gate_dst (N := 45) rfl ?_);refine Kd.R_lit (Kd.int .i64) _ 3 ?hg (N := 45) ?hd (xs := ([0] : List Int)) (inner := [.int .i64 0]) (ok := fun _ => True) (okp := fun _ => True) ?hr ?hp (fun _ hk => hk) trivial (Below.refl _ _) (Nat.le_refl _) (by simp) ?_;(case hd => rfl);(case hg => rfl);(case hr => first|(go_simp;done)|(go_simp;rfl));(case hp => exact (Reps.one (show Kd.M (Kd.int .i64) _ _ _ 0 [.int .i64 0] from rfl) (Reps.none _ _)));intro v121 w24 ho25 hb hg_ hnew_;clear hg_ hnew_;(first|rw [← Ny120.out] at ho25|(simp only [Int.reduceToNat] at ho25;rw [← Ny120.out] at ho25));have n0_ := Aside0.mk (Kd.R_below (by (with_reducible repeat (first|apply Kd.R_alloc|apply Kd.R_drewN|apply Kd.R_drew));exact HO_3.out) hb);have n1_ := Aside0.mk (Kd.R_below (by (with_reducible repeat (first|apply Kd.R_alloc|apply Kd.R_drewN|apply Kd.R_drew));exact HO_6.out) hb);have n2_ := Aside0.mk (Kd.R_lower ho25 (below_size (by repeat (first|(with_reducible first|exact HB.out|apply below_alloc|apply pw_below_drewN|apply below_drew1)|exact HB.out))));have n3_ := Aside0.mk (below_step (by repeat (first|(with_reducible first|exact HB.out|apply below_alloc|apply pw_below_drewN|apply below_drew1)|exact HB.out)) hb);clear HO_3;clear HO_6;clear HB;have HO_3 := n0_;have HO_6 := n1_;have HO122 := n2_;have HB := n3_;clear n0_ n1_ n2_ n3_;clear hb ho25))
       go_loopg [8] k2 (fun kq v8 w' => ∃ (x6_3 : List Bool) (x8_3 : List Int), Aside0 (spec_l17Tight.l2 kq x3_1 x6_3 x8_3 = some r) ∧ Aside0 (kq ≤ k2) ∧ Aside0 (Kd.R k88 88 w' w.heap.size (fun _ => True) (.slice Ao23 x3_1.length co23) x3_1) ∧ Aside0 (Kd.R Kd.bool 4 w' w.heap.size (fun _ => True) u6 x6_3) ∧ Aside0 (Kd.R (Kd.int .i64) 3 w' w.heap.size (fun _ => True) v8 x8_3) ∧ Aside0 (Below w.heap.size w w'))
       case atStart => exact ⟨(x6_2), (y120), H', ⟨Nat.le_refl _⟩, ⟨by (with_reducible repeat (first|apply Kd.R_alloc|apply Kd.R_drewN|apply Kd.R_drew));exact HO_3.out⟩, ⟨by (with_reducible repeat (first|apply Kd.R_alloc|apply Kd.R_drewN|apply Kd.R_drew));exact HO_6.out⟩, ⟨by (with_reducible repeat (first|apply Kd.R_alloc|apply Kd.R_drewN|apply Kd.R_drew));exact HO122.out⟩, ⟨by repeat (first|(with_reducible first|exact HB.out|apply below_alloc|apply pw_below_drewN|apply below_drew1)|exact HB.out)⟩⟩
       case round =>
        clear H'
        try clear c1
        try clear p1
        try clear q1
        try clear hx1
        try clear c2
        try clear p2
        try clear c4
        try clear c4b0
        try clear c5
        try clear c5b0
        try clear c6
        try clear p6
        try clear c7
        try clear c8
        try clear c9
        try clear p10
        try clear q10
        try clear hx10
        try clear c11
        try clear c13
        try clear c19
        try clear c19b0
        try clear c20
        try clear hcz11_0
        try clear hcz11_1
        try clear hcz11_2
        try clear hcz15_0
        try clear hcz15_1
        try clear hcz15_2
        try clear hfz11_0
        try clear hfz11_1
        try clear hfz11_2
        try clear hfz15_0
        try clear hfz15_1
        try clear hfz15_2
        try clear hx104_0
        try clear hx104_1
        try clear hx104_2
        try clear p1
        try clear p10
        try clear p104
        try clear p2
        try clear p6
        try clear q1
        try clear q10
        try clear q104
        obtain ⟨x6_3, x8_3, HA, HK3, HO_3, HO_6, HO_8, HB⟩ := hrel
        cases gk with
        | zero => exact absurd HA.out (by simp [spec_l17Tight.l2])
        | succ k3 =>
         have H := HA.out
         clear HA
         simp only [spec_l17Tight.l2] at H
         by_cases c26 : (x8_3.length : Int) > 0
         ·rw [if_pos c26] at H
          have c26b0 : decide (0 < (x8_3.length : Int)) = true := decide_eq_true c26
          have c26b1 : decide (0 < x8_3.length) = true := decide_eq_true (by omega)
          clear c26
          obtain ⟨ji27, hji27⟩ : ∃ j_ : Int, (wrap64 ((x8_3.length : Int) - 1)) = j_ := ⟨_, rfl⟩
          replace H : (if 0 ≤ (ji27) then (if (ji27) < (x8_3.length : Int) then (if (ji27) ≤ (x8_3.length : Int) then ((some (x8_3.take ((ji27) : Int).toNat : List Int)).bind fun y124 => (if 0 ≤ (rd x8_3 (ji27)) then (if (rd x8_3 (ji27)) < (x6_3.length : Int) then (if (rdOf false x6_3 (rd x8_3 (ji27)) = true) then ((some (x6_3.set ((rd x8_3 (ji27)) : Int).toNat false : List Bool)).bind fun y128 => (if (rd x8_3 (ji27)) < (x3_1.length : Int) then ((spec_l17Goes.f ((rd_T88 x3_1 (rd x8_3 (ji27))).f0)).bind fun t130 => (if t130 = true then (if y124.length < 17592186044416 then ((some (y124 ++ [wrap64 ((rd x8_3 (ji27)) + 1)] : List Int)).bind fun y131 => ((spec_l17HasTo.f ((rd_T88 x3_1 (rd x8_3 (ji27))).f0)).bind fun t135 => (if t135 = true then (if y131.length < 17592186044416 then (spec_l17Tight.l2 k3 x3_1 y128 (y131 ++ [(rd_T88 x3_1 (rd x8_3 (ji27))).f2])) else (none)) else (spec_l17Tight.l2 k3 x3_1 y128 y131)))) else (none)) else ((spec_l17HasTo.f ((rd_T88 x3_1 (rd x8_3 (ji27))).f0)).bind fun t141 => (if t141 = true then (if y124.length < 17592186044416 then (spec_l17Tight.l2 k3 x3_1 y128 (y124 ++ [(rd_T88 x3_1 (rd x8_3 (ji27))).f2])) else (none)) else (spec_l17Tight.l2 k3 x3_1 y128 y124))))) else (none))) else (spec_l17Tight.l2 k3 x3_1 x6_3 y124)) else (none)) else (none))) else (none)) else (none)) else (none)) = some r := by first|(rw [hji27] at H;exact H)|(simp only [hji27] at H ⊢;exact H)
          have hji27w : (IntKind.i64.wrap ((x8_3.length : Int) - 1)) = ji27 := (i64_w _).trans hji27
          by_cases c28 : 0 ≤ (ji27)
          ·rw [if_pos c28] at H
           have c28b0 : decide (0 ≤ (ji27)) = true := decide_eq_true c28
           clear c28
           by_cases c29 : (ji27) < (x8_3.length : Int)
           ·rw [if_pos c29] at H
            have c29b0 : decide ((ji27) < (x8_3.length : Int)) = true := decide_eq_true c29
            clear c29
            by_cases c30 : (ji27) ≤ (x8_3.length : Int)
            ·rw [if_pos c30] at H
             have c30b0 := eq_true c30
             have c30b1 : decide ((ji27) ≤ (x8_3.length : Int)) = true := decide_eq_true c30
             clear c30
             obtain ⟨y124, hy124⟩ : ∃ y_ : List Int, y_ = (x8_3.take ((ji27) : Int).toNat) := ⟨_, rfl⟩
             replace H : (if 0 ≤ (rd x8_3 (ji27)) then (if (rd x8_3 (ji27)) < (x6_3.length : Int) then (if (rdOf false x6_3 (rd x8_3 (ji27)) = true) then ((some (x6_3.set ((rd x8_3 (ji27)) : Int).toNat false : List Bool)).bind fun y128 => (if (rd x8_3 (ji27)) < (x3_1.length : Int) then ((spec_l17Goes.f ((rd_T88 x3_1 (rd x8_3 (ji27))).f0)).bind fun t130 => (if t130 = true then (if y124.length < 17592186044416 then ((some (y124 ++ [wrap64 ((rd x8_3 (ji27)) + 1)] : List Int)).bind fun y131 => ((spec_l17HasTo.f ((rd_T88 x3_1 (rd x8_3 (ji27))).f0)).bind fun t135 => (if t135 = true then (if y131.length < 17592186044416 then (spec_l17Tight.l2 k3 x3_1 y128 (y131 ++ [(rd_T88 x3_1 (rd x8_3 (ji27))).f2])) else (none)) else (spec_l17Tight.l2 k3 x3_1 y128 y131)))) else (none)) else ((spec_l17HasTo.f ((rd_T88 x3_1 (rd x8_3 (ji27))).f0)).bind fun t141 => (if t141 = true then (if y124.length < 17592186044416 then (spec_l17Tight.l2 k3 x3_1 y128 (y124 ++ [(rd_T88 x3_1 (rd x8_3 (ji27))).f2])) else (none)) else (spec_l17Tight.l2 k3 x3_1 y128 y124))))) else (none))) else (spec_l17Tight.l2 k3 x3_1 x6_3 y124)) else (none)) else (none)) = some r := by first|(rw [hy124];with_reducible exact H)|(have H2_ := (Option.bind_some _ _).symm.trans H;rw [hy124];with_reducible exact H2_)|(have H2_ := (Option.bind_some _ _).symm.trans H;with_reducible exact H2_)|with_reducible exact H|(rw [hy124];exact H)|exact H
             have Ny124 := Aside0.mk hy124
             clear hy124
             by_cases c31 : 0 ≤ (rd x8_3 (ji27))
             ·rw [if_pos c31] at H
              have c31b0 : decide (0 ≤ (rd x8_3 (ji27))) = true := decide_eq_true c31
              clear c31
              by_cases c32 : (rd x8_3 (ji27)) < (x6_3.length : Int)
              ·rw [if_pos c32] at H
               have c32b0 : decide ((rd x8_3 (ji27)) < (x6_3.length : Int)) = true := decide_eq_true c32
               clear c32
               obtain ⟨bq33, hbq33⟩ : ∃ b_ : Bool, b_ = (rdOf false x6_3 (rd x8_3 (ji27))) := ⟨_, rfl⟩
               replace H : (if (bq33 = true) then ((some (x6_3.set ((rd x8_3 (ji27)) : Int).toNat false : List Bool)).bind fun y128 => (if (rd x8_3 (ji27)) < (x3_1.length : Int) then ((spec_l17Goes.f ((rd_T88 x3_1 (rd x8_3 (ji27))).f0)).bind fun t130 => (if t130 = true then (if y124.length < 17592186044416 then ((some (y124 ++ [wrap64 ((rd x8_3 (ji27)) + 1)] : List Int)).bind fun y131 => ((spec_l17HasTo.f ((rd_T88 x3_1 (rd x8_3 (ji27))).f0)).bind fun t135 => (if t135 = true then (if y131.length < 17592186044416 then (spec_l17Tight.l2 k3 x3_1 y128 (y131 ++ [(rd_T88 x3_1 (rd x8_3 (ji27))).f2])) else (none)) else (spec_l17Tight.l2 k3 x3_1 y128 y131)))) else (none)) else ((spec_l17HasTo.f ((rd_T88 x3_1 (rd x8_3 (ji27))).f0)).bind fun t141 => (if t141 = true then (if y124.length < 17592186044416 then (spec_l17Tight.l2 k3 x3_1 y128 (y124 ++ [(rd_T88 x3_1 (rd x8_3 (ji27))).f2])) else (none)) else (spec_l17Tight.l2 k3 x3_1 y128 y124))))) else (none))) else (spec_l17Tight.l2 k3 x3_1 x6_3 y124)) = some r := by rw [← hbq33] at H;exact H
               have Nbq33 := Aside0.mk hbq33
               clear hbq33
               by_cases c34 : (bq33 = true)
               ·subst c34
                have H1 : ((some (x6_3.set ((rd x8_3 (ji27)) : Int).toNat false : List Bool)).bind fun y128 => (if (rd x8_3 (ji27)) < (x3_1.length : Int) then ((spec_l17Goes.f ((rd_T88 x3_1 (rd x8_3 (ji27))).f0)).bind fun t130 => (if t130 = true then (if y124.length < 17592186044416 then ((some (y124 ++ [wrap64 ((rd x8_3 (ji27)) + 1)] : List Int)).bind fun y131 => ((spec_l17HasTo.f ((rd_T88 x3_1 (rd x8_3 (ji27))).f0)).bind fun t135 => (if t135 = true then (if y131.length < 17592186044416 then (spec_l17Tight.l2 k3 x3_1 y128 (y131 ++ [(rd_T88 x3_1 (rd x8_3 (ji27))).f2])) else (none)) else (spec_l17Tight.l2 k3 x3_1 y128 y131)))) else (none)) else ((spec_l17HasTo.f ((rd_T88 x3_1 (rd x8_3 (ji27))).f0)).bind fun t141 => (if t141 = true then (if y124.length < 17592186044416 then (spec_l17Tight.l2 k3 x3_1 y128 (y124 ++ [(rd_T88 x3_1 (rd x8_3 (ji27))).f2])) else (none)) else (spec_l17Tight.l2 k3 x3_1 y128 y124))))) else (none))) = some r := by rw [if_pos rfl] at H;exact H
                clear H
                have H := H1
                clear H1
                obtain ⟨y128, hy128⟩ : ∃ y_ : List Bool, y_ = (x6_3.set ((rd x8_3 (ji27)) : Int).toNat false) := ⟨_, rfl⟩
                replace H : (if (rd x8_3 (ji27)) < (x3_1.length : Int) then ((spec_l17Goes.f ((rd_T88 x3_1 (rd x8_3 (ji27))).f0)).bind fun t130 => (if t130 = true then (if y124.length < 17592186044416 then ((some (y124 ++ [wrap64 ((rd x8_3 (ji27)) + 1)] : List Int)).bind fun y131 => ((spec_l17HasTo.f ((rd_T88 x3_1 (rd x8_3 (ji27))).f0)).bind fun t135 => (if t135 = true then (if y131.length < 17592186044416 then (spec_l17Tight.l2 k3 x3_1 y128 (y131 ++ [(rd_T88 x3_1 (rd x8_3 (ji27))).f2])) else (none)) else (spec_l17Tight.l2 k3 x3_1 y128 y131)))) else (none)) else ((spec_l17HasTo.f ((rd_T88 x3_1 (rd x8_3 (ji27))).f0)).bind fun t141 => (if t141 = true then (if y124.length < 17592186044416 then (spec_l17Tight.l2 k3 x3_1 y128 (y124 ++ [(rd_T88 x3_1 (rd x8_3 (ji27))).f2])) else (none)) else (spec_l17Tight.l2 k3 x3_1 y128 y124))))) else (none)) = some r := by first|(rw [hy128];with_reducible exact H)|(have H2_ := (Option.bind_some _ _).symm.trans H;rw [hy128];with_reducible exact H2_)|(have H2_ := (Option.bind_some _ _).symm.trans H;with_reducible exact H2_)|with_reducible exact H|(rw [hy128];exact H)|exact H
                have Ny128 := Aside0.mk hy128
                clear hy128
                by_cases c36 : (rd x8_3 (ji27)) < (x3_1.length : Int)
                ·rw [if_pos c36] at H
                 have c36b0 : decide ((rd x8_3 (ji27)) < (x3_1.length : Int)) = true := decide_eq_true c36
                 clear c36
                 replace H := Option.bind_eq_some_iff.mp H
                 obtain ⟨t130, A370, H⟩ := H
                 replace H : (if t130 = true then (if y124.length < 17592186044416 then ((some (y124 ++ [wrap64 ((rd x8_3 (ji27)) + 1)] : List Int)).bind fun y131 => ((spec_l17HasTo.f ((rd_T88 x3_1 (rd x8_3 (ji27))).f0)).bind fun t135 => (if t135 = true then (if y131.length < 17592186044416 then (spec_l17Tight.l2 k3 x3_1 y128 (y131 ++ [(rd_T88 x3_1 (rd x8_3 (ji27))).f2])) else (none)) else (spec_l17Tight.l2 k3 x3_1 y128 y131)))) else (none)) else ((spec_l17HasTo.f ((rd_T88 x3_1 (rd x8_3 (ji27))).f0)).bind fun t141 => (if t141 = true then (if y124.length < 17592186044416 then (spec_l17Tight.l2 k3 x3_1 y128 (y124 ++ [(rd_T88 x3_1 (rd x8_3 (ji27))).f2])) else (none)) else (spec_l17Tight.l2 k3 x3_1 y128 y124)))) = some r := H
                 have A37 := Aside0.mk A370
                 clear A370
                 by_cases c38 : t130 = true
                 ·subst c38
                  have H1 : (if y124.length < 17592186044416 then ((some (y124 ++ [wrap64 ((rd x8_3 (ji27)) + 1)] : List Int)).bind fun y131 => ((spec_l17HasTo.f ((rd_T88 x3_1 (rd x8_3 (ji27))).f0)).bind fun t135 => (if t135 = true then (if y131.length < 17592186044416 then (spec_l17Tight.l2 k3 x3_1 y128 (y131 ++ [(rd_T88 x3_1 (rd x8_3 (ji27))).f2])) else (none)) else (spec_l17Tight.l2 k3 x3_1 y128 y131)))) else (none)) = some r := by rw [if_pos rfl] at H;exact H
                  clear H
                  have H := H1
                  clear H1
                  by_cases c39 : y124.length < 17592186044416
                  ·rw [if_pos c39] at H
                   have LMc39 := Aside0.mk c39
                   clear c39
                   obtain ⟨y131, hy131⟩ : ∃ y_ : List Int, y_ = (y124 ++ [wrap64 ((rd x8_3 (ji27)) + 1)]) := ⟨_, rfl⟩
                   replace H : ((spec_l17HasTo.f ((rd_T88 x3_1 (rd x8_3 (ji27))).f0)).bind fun t135 => (if t135 = true then (if y131.length < 17592186044416 then (spec_l17Tight.l2 k3 x3_1 y128 (y131 ++ [(rd_T88 x3_1 (rd x8_3 (ji27))).f2])) else (none)) else (spec_l17Tight.l2 k3 x3_1 y128 y131))) = some r := by first|(rw [hy131];with_reducible exact H)|(have H2_ := (Option.bind_some _ _).symm.trans H;rw [hy131];with_reducible exact H2_)|(have H2_ := (Option.bind_some _ _).symm.trans H;with_reducible exact H2_)|with_reducible exact H|(rw [hy131];exact H)|exact H
                   have Ny131 := Aside0.mk hy131
                   clear hy131
                   replace H := Option.bind_eq_some_iff.mp H
                   obtain ⟨t135, A400, H⟩ := H
                   replace H : (if t135 = true then (if y131.length < 17592186044416 then (spec_l17Tight.l2 k3 x3_1 y128 (y131 ++ [(rd_T88 x3_1 (rd x8_3 (ji27))).f2])) else (none)) else (spec_l17Tight.l2 k3 x3_1 y128 y131)) = some r := H
                   have A40 := Aside0.mk A400
                   clear A400
                   by_cases c41 : t135 = true
                   ·subst c41
                    have H1 : (if y131.length < 17592186044416 then (spec_l17Tight.l2 k3 x3_1 y128 (y131 ++ [(rd_T88 x3_1 (rd x8_3 (ji27))).f2])) else (none)) = some r := by rw [if_pos rfl] at H;exact H
                    clear H
                    have H := H1
                    clear H1
                    by_cases c42 : y131.length < 17592186044416
                    ·rw [if_pos c42] at H
                     have LMc42 := Aside0.mk c42
                     clear c42
                     obtain ⟨y137, hy137⟩ : ∃ y_ : List Int, y_ = (y131 ++ [(rd_T88 x3_1 (rd x8_3 (ji27))).f2]) := ⟨_, rfl⟩
                     replace H : (spec_l17Tight.l2 k3 x3_1 y128 y137) = some r := by first|(rw [hy137];with_reducible exact H)|(have H2_ := (Option.bind_some _ _).symm.trans H;rw [hy137];with_reducible exact H2_)|(have H2_ := (Option.bind_some _ _).symm.trans H;with_reducible exact H2_)|with_reducible exact H|(rw [hy137];exact H)|exact H
                     have Ny137 := Aside0.mk hy137
                     clear hy137
                     have H' := Aside0.mk H
                     clear H
                     obtain ⟨Ao43, co43, eo43⟩ := Kd.R_slice HO_8.out
                     subst eo43
                     have p123 : 0 ≤ ((ji27) : Int) := of_decide_eq_true (by first|(with_reducible assumption)|assumption)
                     have q123 : (ji27) < (x8_3.length : Int) := of_decide_eq_true (by first|(with_reducible assumption)|assumption)
                     obtain ⟨ad123, e123, hx123_0⟩ := Kd.at_int (Kd.R_reads' HO_8.out).2.2 (ji27) p123 q123
                     cases e123
                     replace p123 := eq_true p123
                     replace q123 := eq_true q123
                     have q44 : ((ji27) : Int) ≤ ((x8_3.length : Int) : Int) := of_decide_eq_true (by first|(with_reducible assumption)|assumption)
                     obtain ⟨i044, hi044, _, hsz44, _⟩ := info_parts info3
                     have hcut44 := cut_to (P := Try.prog) 62 3 .i64 Try.underlying62 hi044 (some ad123) x8_3.length co43 (ji27) (of_decide_eq_true (by first|(with_reducible assumption)|assumption)) q44 (Kd.R_reads' HO_8.out).2.1
                     have hr44 := Kd.R_take (m := ((ji27) : Int).toNat) HO_8.out (by omega)
                     have hy44 : y124.length = ((ji27) : Int).toNat := (by rw [Ny124.out, List.length_take];omega)
                     rw [← Ny124.out] at hr44
                     rw [← hy44] at hr44 hcut44
                     clear hy44 hi044 hsz44 HO_8
                     have HO126 := Aside0.mk hr44
                     clear hr44
                     replace q44 := eq_true q44
                     obtain ⟨Ao45, co45, eo45⟩ := Kd.R_slice HO_6.out
                     subst eo45
                     have p127 : 0 ≤ ((rd x8_3 (ji27)) : Int) := of_decide_eq_true (by first|(with_reducible assumption)|assumption)
                     have q127 : (rd x8_3 (ji27)) < (x6_3.length : Int) := of_decide_eq_true (by first|(with_reducible assumption)|assumption)
                     obtain ⟨ad127, e127, hx127_0⟩ := Kd.at_bool (Kd.R_reads' HO_6.out).2.2 (rd x8_3 (ji27)) p127 q127
                     (try rw [← Nbq33.out] at hx127_0)
                     cases e127
                     replace p127 := eq_true p127
                     replace q127 := eq_true q127
                     have p35 : 0 ≤ ((rd x8_3 (ji27)) : Int) := of_decide_eq_true (by first|(with_reducible assumption)|assumption)
                     have q35 : ((rd x8_3 (ji27)) : Int) < ((x6_3.length : Int) : Int) := of_decide_eq_true (by first|(with_reducible assumption)|assumption)
                     obtain ⟨go35, co35, eo35, gb35, gl35, cl35, HG35⟩ := Kd.R_form HO_6.out (by omega)
                     (first|cases eo35|(injection eo35 with ea_ en_ ec_;(first|subst ea_|(injection ea_ with ea_;subst ea_));subst ec_;clear en_))
                     have GB35 := Aside0.mk gb35
                     have GG35 := Aside0.mk HG35
                     clear gb35 gl35 HG35
                     (first|simp only [add_plain] at hx127_0|skip)
                     obtain ⟨hx35_0, hf35_0⟩ := Kd.R_celln false HO_6.out ((rd x8_3 (ji27)) : Int) p35 q35
                     replace p35 := eq_true p35
                     replace q35 := eq_true q35
                     have HP46 := Kd.R_putg HO_6.out ((rd x8_3 (ji27)) : Int) false
                     go_wp2_with (first|((with_reducible refine gate_store (t := 4) (p := 67) rfl ?_);refine store_event (t := 4) (p := 67) (v := ?vo_w47) (w1 := (wr.setCell ⟨go35, ((rd x8_3 (ji27)) : Int).toNat, none⟩ (.bool false))) ?hg ?ho ?hn ?hr ?_;(case ho => rfl);(case hg => rfl);(case hn => rfl);(case hr => first|(go_simp;done)|(go_simp;rfl));intro w47 hw;have hg : wr.grownBy w47 (some go35) := (by rw [hw];exact HP46.2);have hp_ : Kd.R Kd.bool 4 w47 w.heap.size (fun _ => True) (.slice (some ⟨go35, 0, none⟩) x6_3.length co45) y128 := (by rw [hw, Ny128.out];exact HP46.1);clear HP46;have n0_ := Aside0.mk (Kd.R_over' (v := (.slice (some ⟨go35, 0, none⟩) x6_3.length co45)) (by (with_reducible repeat (first|apply Kd.R_alloc|apply Kd.R_drewN|apply Kd.R_drew));exact HO_3.out) (Kd.R_typed HO_6.out) (by decide) hg);have n1_ := Aside0.mk (hp_);have n2_ := Aside0.mk (Kd.R_over' (v := (.slice (some ⟨go35, 0, none⟩) x6_3.length co45)) (by (with_reducible repeat (first|apply Kd.R_alloc|apply Kd.R_drewN|apply Kd.R_drew));exact HO126.out) (Kd.R_typed HO_6.out) (by decide) hg);have n3_ := Aside0.mk ((by rw [hw];exact below_set (HB.out) GB35.out : Below w.heap.size w w47));clear HO_3;clear HO_6;clear HO126;clear HB;have HO_3 := n0_;have HO_6 := n1_;have HO126 := n2_;have HB := n3_;clear n0_ n1_ n2_ n3_;clear hg hw hp_;have p129 : 0 ≤ ((rd x8_3 (ji27)) : Int) := of_decide_eq_true (by first|(with_reducible assumption)|assumption);have q129 : (rd x8_3 (ji27)) < (x3_1.length : Int) := of_decide_eq_true (by first|(with_reducible assumption)|assumption);obtain ⟨ad129, e129, hx129_0, hx129_1, hx129_2⟩ := at_T88 (Kd.R_reads' HO_3.out).2.2 (rd x8_3 (ji27)) p129 q129;cases e129;replace p129 := eq_true p129;replace q129 := eq_true q129)|((with_reducible refine gate_callee (f := 66) rfl ?_);refine goesL_ (some 73) rfl rfl Try.func66 (by kernel_rfl) rfl #[.int .i64 ((rd_T88 x3_1 (rd x8_3 (ji27))).f0)] rfl (by (try simp only [List.map_toArray, List.map_cons, List.map_nil]);first|done|(simp only [hji27];rfl)|rfl|(simp only [List.length_drop, List.length_take];rfl)) ?_;(with_reducible refine (spec_l17Goes.calls ((rd_T88 x3_1 (rd x8_3 (ji27))).f0) true _ A37.out).mono ?_);rintro e w' ⟨rfl, ⟨nd, rfl⟩⟩;refine ⟨_, rfl, ?_⟩)|((with_reducible refine gate_builtin (b := .append) (xs := #[.tmp 74, .tmp 77]) rfl ?_);at_builtin;refine Kd.R_append (Kd.int .i64) (w0 := w) w.heap.size rfl (.tmp 74) (.tmp 77) 62 3 (.int .i64 0) 8 rfl Try.underlying62 info3 rfl (by decide) (by omega) (.slice (some ad123) y124.length co43) y124 (wrap64 ((rd x8_3 (ji27)) + 1)) [.int .i64 (wrap64 ((rd x8_3 (ji27)) + 1))] (fun _ => True) (fun _ => False) rfl rfl ?aP (fun _ hk => hk.elim) ?aF ?aO ?aB ?aS ?aL ?_;(case aP => exact rfl);(case aB => exact (by repeat (first|(with_reducible first|exact HB.out|apply below_alloc|apply pw_below_drewN|apply below_drew1)|exact HB.out)));(case aF => exact (fun _ _ => trivial));(case aO => exact (by (with_reducible repeat (first|apply Kd.R_alloc|apply Kd.R_drewN|apply Kd.R_drew));exact HO126.out));(case aS => exact (below_size (by repeat (first|(with_reducible first|exact HB.out|apply below_alloc|apply pw_below_drewN|apply below_drew1)|exact HB.out))));(case aL => have := LMc39.out;omega);intro v132 w48 ho hb hg hat;rw [← Ny131.out] at ho;have n0_ := Aside0.mk (Kd.R_over' (by (with_reducible repeat (first|apply Kd.R_alloc|apply Kd.R_drewN|apply Kd.R_drew));exact HO_3.out) (Kd.R_typed (by (with_reducible repeat (first|apply Kd.R_alloc|apply Kd.R_drewN|apply Kd.R_drew));exact HO126.out)) (by decide) hg);have n1_ := Aside0.mk (Kd.R_over' (by (with_reducible repeat (first|apply Kd.R_alloc|apply Kd.R_drewN|apply Kd.R_drew));exact HO_6.out) (Kd.R_typed (by (with_reducible repeat (first|apply Kd.R_alloc|apply Kd.R_drewN|apply Kd.R_drew));exact HO126.out)) (by decide) hg);have n2_ := Aside0.mk (hb);have n3_ := Aside0.mk (ho);clear HO_3;clear HO_6;clear HB;clear HO126;have HO_3 := n0_;have HO_6 := n1_;have HB := n2_;have HO133 := n3_;clear n0_ n1_ n2_ n3_;clear ho hb hg hat;have p134 : 0 ≤ ((rd x8_3 (ji27)) : Int) := of_decide_eq_true (by first|(with_reducible assumption)|assumption);have q134 : (rd x8_3 (ji27)) < (x3_1.length : Int) := of_decide_eq_true (by first|(with_reducible assumption)|assumption);obtain ⟨ad134, e134, hx134_0, hx134_1, hx134_2⟩ := at_T88 (Kd.R_reads' HO_3.out).2.2 (rd x8_3 (ji27)) p134 q134;obtain rfl : ad129 = ad134 := (by injection e134);replace p134 := eq_true p134;replace q134 := eq_true q134)|((with_reducible refine gate_callee (f := 64) rfl ?_);refine goesL_ (some 84) rfl rfl Try.func64 (by kernel_rfl) rfl #[.int .i64 ((rd_T88 x3_1 (rd x8_3 (ji27))).f0)] rfl (by (try simp only [List.map_toArray, List.map_cons, List.map_nil]);first|done|(simp only [hji27];rfl)|rfl|(simp only [List.length_drop, List.length_take];rfl)) ?_;(with_reducible refine (spec_l17HasTo.calls ((rd_T88 x3_1 (rd x8_3 (ji27))).f0) true _ A40.out).mono ?_);rintro e w' ⟨rfl, ⟨nd, rfl⟩⟩;refine ⟨_, rfl, ?_⟩;have p136 : 0 ≤ ((rd x8_3 (ji27)) : Int) := of_decide_eq_true (by first|(with_reducible assumption)|assumption);have q136 : (rd x8_3 (ji27)) < (x3_1.length : Int) := of_decide_eq_true (by first|(with_reducible assumption)|assumption);obtain ⟨ad136, e136, hx136_0, hx136_1, hx136_2⟩ := at_T88 (Kd.R_reads' HO_3.out).2.2 (rd x8_3 (ji27)) p136 q136;obtain rfl : ad129 = ad136 := (by injection e136);replace p136 := eq_true p136;replace q136 := eq_true q136)|((with_reducible refine gate_builtin (b := .append) (xs := #[.tmp 85, .tmp 91]) rfl ?_);at_builtin;refine Kd.R_append (Kd.int .i64) (w0 := w) w.heap.size rfl (.tmp 85) (.tmp 91) 62 3 (.int .i64 0) 8 rfl Try.underlying62 info3 rfl (by decide) (by omega) v132 y131 ((rd_T88 x3_1 (rd x8_3 (ji27))).f2) [.int .i64 ((rd_T88 x3_1 (rd x8_3 (ji27))).f2)] (fun _ => True) (fun _ => False) rfl rfl ?aP (fun _ hk => hk.elim) ?aF ?aO ?aB ?aS ?aL ?_;(case aP => exact rfl);(case aB => exact (by repeat (first|(with_reducible first|exact HB.out|apply below_alloc|apply pw_below_drewN|apply below_drew1)|exact HB.out)));(case aF => exact (fun _ _ => trivial));(case aO => exact (by (with_reducible repeat (first|apply Kd.R_alloc|apply Kd.R_drewN|apply Kd.R_drew));exact HO133.out));(case aS => exact (below_size (by repeat (first|(with_reducible first|exact HB.out|apply below_alloc|apply pw_below_drewN|apply below_drew1)|exact HB.out))));(case aL => have := LMc42.out;omega);intro v138 w49 ho hb hg hat;rw [← Ny137.out] at ho;have n0_ := Aside0.mk (Kd.R_over' (by (with_reducible repeat (first|apply Kd.R_alloc|apply Kd.R_drewN|apply Kd.R_drew));exact HO_3.out) (Kd.R_typed (by (with_reducible repeat (first|apply Kd.R_alloc|apply Kd.R_drewN|apply Kd.R_drew));exact HO133.out)) (by decide) hg);have n1_ := Aside0.mk (Kd.R_over' (by (with_reducible repeat (first|apply Kd.R_alloc|apply Kd.R_drewN|apply Kd.R_drew));exact HO_6.out) (Kd.R_typed (by (with_reducible repeat (first|apply Kd.R_alloc|apply Kd.R_drewN|apply Kd.R_drew));exact HO133.out)) (by decide) hg);have n2_ := Aside0.mk (hb);have n3_ := Aside0.mk (ho);clear HO_3;clear HO_6;clear HB;clear HO133;have HO_3 := n0_;have HO_6 := n1_;have HB := n2_;have HO139 := n3_;clear n0_ n1_ n2_ n3_;clear ho hb hg hat))
                     go_roundg k3
                     case measure => have := HK1.out;have := HK2.out;have := HK3.out;omega
                     case rel => exact ⟨(y128), (y137), H', ⟨by have := HK1.out;have := HK2.out;have := HK3.out;omega⟩, ⟨by (with_reducible repeat (first|apply Kd.R_alloc|apply Kd.R_drewN|apply Kd.R_drew));exact HO_3.out⟩, ⟨by (with_reducible repeat (first|apply Kd.R_alloc|apply Kd.R_drewN|apply Kd.R_drew));exact HO_6.out⟩, ⟨by (with_reducible repeat (first|apply Kd.R_alloc|apply Kd.R_drewN|apply Kd.R_drew));exact HO139.out⟩, ⟨by repeat (first|(with_reducible first|exact HB.out|apply below_alloc|apply pw_below_drewN|apply below_drew1)|exact HB.out)⟩⟩
                    ·rw [if_neg c42] at H
                     exact absurd H (by simp)
                   ·replace c41 := Bool.eq_false_iff.mpr c41
                    subst c41
                    have H1 : (spec_l17Tight.l2 k3 x3_1 y128 y131) = some r := by rw [if_neg (show ¬ (false = true) by decide)] at H;exact H
                    clear H
                    have H := H1
                    clear H1
                    have H' := Aside0.mk H
                    clear H
                    obtain ⟨Ao50, co50, eo50⟩ := Kd.R_slice HO_8.out
                    subst eo50
                    have p123 : 0 ≤ ((ji27) : Int) := of_decide_eq_true (by first|(with_reducible assumption)|assumption)
                    have q123 : (ji27) < (x8_3.length : Int) := of_decide_eq_true (by first|(with_reducible assumption)|assumption)
                    obtain ⟨ad123, e123, hx123_0⟩ := Kd.at_int (Kd.R_reads' HO_8.out).2.2 (ji27) p123 q123
                    cases e123
                    replace p123 := eq_true p123
                    replace q123 := eq_true q123
                    have q51 : ((ji27) : Int) ≤ ((x8_3.length : Int) : Int) := of_decide_eq_true (by first|(with_reducible assumption)|assumption)
                    obtain ⟨i051, hi051, _, hsz51, _⟩ := info_parts info3
                    have hcut51 := cut_to (P := Try.prog) 62 3 .i64 Try.underlying62 hi051 (some ad123) x8_3.length co50 (ji27) (of_decide_eq_true (by first|(with_reducible assumption)|assumption)) q51 (Kd.R_reads' HO_8.out).2.1
                    have hr51 := Kd.R_take (m := ((ji27) : Int).toNat) HO_8.out (by omega)
                    have hy51 : y124.length = ((ji27) : Int).toNat := (by rw [Ny124.out, List.length_take];omega)
                    rw [← Ny124.out] at hr51
                    rw [← hy51] at hr51 hcut51
                    clear hy51 hi051 hsz51 HO_8
                    have HO126 := Aside0.mk hr51
                    clear hr51
                    replace q51 := eq_true q51
                    obtain ⟨Ao52, co52, eo52⟩ := Kd.R_slice HO_6.out
                    subst eo52
                    have p127 : 0 ≤ ((rd x8_3 (ji27)) : Int) := of_decide_eq_true (by first|(with_reducible assumption)|assumption)
                    have q127 : (rd x8_3 (ji27)) < (x6_3.length : Int) := of_decide_eq_true (by first|(with_reducible assumption)|assumption)
                    obtain ⟨ad127, e127, hx127_0⟩ := Kd.at_bool (Kd.R_reads' HO_6.out).2.2 (rd x8_3 (ji27)) p127 q127
                    (try rw [← Nbq33.out] at hx127_0)
                    cases e127
                    replace p127 := eq_true p127
                    replace q127 := eq_true q127
                    have p35 : 0 ≤ ((rd x8_3 (ji27)) : Int) := of_decide_eq_true (by first|(with_reducible assumption)|assumption)
                    have q35 : ((rd x8_3 (ji27)) : Int) < ((x6_3.length : Int) : Int) := of_decide_eq_true (by first|(with_reducible assumption)|assumption)
                    obtain ⟨go35, co35, eo35, gb35, gl35, cl35, HG35⟩ := Kd.R_form HO_6.out (by omega)
                    (first|cases eo35|(injection eo35 with ea_ en_ ec_;(first|subst ea_|(injection ea_ with ea_;subst ea_));subst ec_;clear en_))
                    have GB35 := Aside0.mk gb35
                    have GG35 := Aside0.mk HG35
                    clear gb35 gl35 HG35
                    (first|simp only [add_plain] at hx127_0|skip)
                    obtain ⟨hx35_0, hf35_0⟩ := Kd.R_celln false HO_6.out ((rd x8_3 (ji27)) : Int) p35 q35
                    replace p35 := eq_true p35
                    replace q35 := eq_true q35
                    have HP53 := Kd.R_putg HO_6.out ((rd x8_3 (ji27)) : Int) false
                    go_wp2_with (first|((with_reducible refine gate_store (t := 4) (p := 67) rfl ?_);refine store_event (t := 4) (p := 67) (v := ?vo_w54) (w1 := (wr.setCell ⟨go35, ((rd x8_3 (ji27)) : Int).toNat, none⟩ (.bool false))) ?hg ?ho ?hn ?hr ?_;(case ho => rfl);(case hg => rfl);(case hn => rfl);(case hr => first|(go_simp;done)|(go_simp;rfl));intro w54 hw;have hg : wr.grownBy w54 (some go35) := (by rw [hw];exact HP53.2);have hp_ : Kd.R Kd.bool 4 w54 w.heap.size (fun _ => True) (.slice (some ⟨go35, 0, none⟩) x6_3.length co52) y128 := (by rw [hw, Ny128.out];exact HP53.1);clear HP53;have n0_ := Aside0.mk (Kd.R_over' (v := (.slice (some ⟨go35, 0, none⟩) x6_3.length co52)) (by (with_reducible repeat (first|apply Kd.R_alloc|apply Kd.R_drewN|apply Kd.R_drew));exact HO_3.out) (Kd.R_typed HO_6.out) (by decide) hg);have n1_ := Aside0.mk (hp_);have n2_ := Aside0.mk (Kd.R_over' (v := (.slice (some ⟨go35, 0, none⟩) x6_3.length co52)) (by (with_reducible repeat (first|apply Kd.R_alloc|apply Kd.R_drewN|apply Kd.R_drew));exact HO126.out) (Kd.R_typed HO_6.out) (by decide) hg);have n3_ := Aside0.mk ((by rw [hw];exact below_set (HB.out) GB35.out : Below w.heap.size w w54));clear HO_3;clear HO_6;clear HO126;clear HB;have HO_3 := n0_;have HO_6 := n1_;have HO126 := n2_;have HB := n3_;clear n0_ n1_ n2_ n3_;clear hg hw hp_;have p129 : 0 ≤ ((rd x8_3 (ji27)) : Int) := of_decide_eq_true (by first|(with_reducible assumption)|assumption);have q129 : (rd x8_3 (ji27)) < (x3_1.length : Int) := of_decide_eq_true (by first|(with_reducible assumption)|assumption);obtain ⟨ad129, e129, hx129_0, hx129_1, hx129_2⟩ := at_T88 (Kd.R_reads' HO_3.out).2.2 (rd x8_3 (ji27)) p129 q129;cases e129;replace p129 := eq_true p129;replace q129 := eq_true q129)|((with_reducible refine gate_callee (f := 66) rfl ?_);refine goesL_ (some 73) rfl rfl Try.func66 (by kernel_rfl) rfl #[.int .i64 ((rd_T88 x3_1 (rd x8_3 (ji27))).f0)] rfl (by (try simp only [List.map_toArray, List.map_cons, List.map_nil]);first|done|(simp only [hji27];rfl)|rfl|(simp only [List.length_drop, List.length_take];rfl)) ?_;(with_reducible refine (spec_l17Goes.calls ((rd_T88 x3_1 (rd x8_3 (ji27))).f0) true _ A37.out).mono ?_);rintro e w' ⟨rfl, ⟨nd, rfl⟩⟩;refine ⟨_, rfl, ?_⟩)|((with_reducible refine gate_builtin (b := .append) (xs := #[.tmp 74, .tmp 77]) rfl ?_);at_builtin;refine Kd.R_append (Kd.int .i64) (w0 := w) w.heap.size rfl (.tmp 74) (.tmp 77) 62 3 (.int .i64 0) 8 rfl Try.underlying62 info3 rfl (by decide) (by omega) (.slice (some ad123) y124.length co50) y124 (wrap64 ((rd x8_3 (ji27)) + 1)) [.int .i64 (wrap64 ((rd x8_3 (ji27)) + 1))] (fun _ => True) (fun _ => False) rfl rfl ?aP (fun _ hk => hk.elim) ?aF ?aO ?aB ?aS ?aL ?_;(case aP => exact rfl);(case aB => exact (by repeat (first|(with_reducible first|exact HB.out|apply below_alloc|apply pw_below_drewN|apply below_drew1)|exact HB.out)));(case aF => exact (fun _ _ => trivial));(case aO => exact (by (with_reducible repeat (first|apply Kd.R_alloc|apply Kd.R_drewN|apply Kd.R_drew));exact HO126.out));(case aS => exact (below_size (by repeat (first|(with_reducible first|exact HB.out|apply below_alloc|apply pw_below_drewN|apply below_drew1)|exact HB.out))));(case aL => have := LMc39.out;omega);intro v132 w55 ho hb hg hat;rw [← Ny131.out] at ho;have n0_ := Aside0.mk (Kd.R_over' (by (with_reducible repeat (first|apply Kd.R_alloc|apply Kd.R_drewN|apply Kd.R_drew));exact HO_3.out) (Kd.R_typed (by (with_reducible repeat (first|apply Kd.R_alloc|apply Kd.R_drewN|apply Kd.R_drew));exact HO126.out)) (by decide) hg);have n1_ := Aside0.mk (Kd.R_over' (by (with_reducible repeat (first|apply Kd.R_alloc|apply Kd.R_drewN|apply Kd.R_drew));exact HO_6.out) (Kd.R_typed (by (with_reducible repeat (first|apply Kd.R_alloc|apply Kd.R_drewN|apply Kd.R_drew));exact HO126.out)) (by decide) hg);have n2_ := Aside0.mk (hb);have n3_ := Aside0.mk (ho);clear HO_3;clear HO_6;clear HB;clear HO126;have HO_3 := n0_;have HO_6 := n1_;have HB := n2_;have HO133 := n3_;clear n0_ n1_ n2_ n3_;clear ho hb hg hat;have p134 : 0 ≤ ((rd x8_3 (ji27)) : Int) := of_decide_eq_true (by first|(with_reducible assumption)|assumption);have q134 : (rd x8_3 (ji27)) < (x3_1.length : Int) := of_decide_eq_true (by first|(with_reducible assumption)|assumption);obtain ⟨ad134, e134, hx134_0, hx134_1, hx134_2⟩ := at_T88 (Kd.R_reads' HO_3.out).2.2 (rd x8_3 (ji27)) p134 q134;obtain rfl : ad129 = ad134 := (by injection e134);replace p134 := eq_true p134;replace q134 := eq_true q134)|((with_reducible refine gate_callee (f := 64) rfl ?_);refine goesL_ (some 84) rfl rfl Try.func64 (by kernel_rfl) rfl #[.int .i64 ((rd_T88 x3_1 (rd x8_3 (ji27))).f0)] rfl (by (try simp only [List.map_toArray, List.map_cons, List.map_nil]);first|done|(simp only [hji27];rfl)|rfl|(simp only [List.length_drop, List.length_take];rfl)) ?_;(with_reducible refine (spec_l17HasTo.calls ((rd_T88 x3_1 (rd x8_3 (ji27))).f0) false _ A40.out).mono ?_);rintro e w' ⟨rfl, ⟨nd, rfl⟩⟩;refine ⟨_, rfl, ?_⟩))
                    go_roundg k3
                    case measure => have := HK1.out;have := HK2.out;have := HK3.out;omega
                    case rel => exact ⟨(y128), (y131), H', ⟨by have := HK1.out;have := HK2.out;have := HK3.out;omega⟩, ⟨by (with_reducible repeat (first|apply Kd.R_alloc|apply Kd.R_drewN|apply Kd.R_drew));exact HO_3.out⟩, ⟨by (with_reducible repeat (first|apply Kd.R_alloc|apply Kd.R_drewN|apply Kd.R_drew));exact HO_6.out⟩, ⟨by (with_reducible repeat (first|apply Kd.R_alloc|apply Kd.R_drewN|apply Kd.R_drew));exact HO133.out⟩, ⟨by repeat (first|(with_reducible first|exact HB.out|apply below_alloc|apply pw_below_drewN|apply below_drew1)|exact HB.out)⟩⟩
                  ·rw [if_neg c39] at H
                   exact absurd H (by simp)
                 ·replace c38 := Bool.eq_false_iff.mpr c38
                  subst c38
                  have H1 : ((spec_l17HasTo.f ((rd_T88 x3_1 (rd x8_3 (ji27))).f0)).bind fun t141 => (if t141 = true then (if y124.length < 17592186044416 then (spec_l17Tight.l2 k3 x3_1 y128 (y124 ++ [(rd_T88 x3_1 (rd x8_3 (ji27))).f2])) else (none)) else (spec_l17Tight.l2 k3 x3_1 y128 y124))) = some r := by rw [if_neg (show ¬ (false = true) by decide)] at H;exact H
                  clear H
                  have H := H1
                  clear H1
                  replace H := Option.bind_eq_some_iff.mp H
                  obtain ⟨t141, A560, H⟩ := H
                  replace H : (if t141 = true then (if y124.length < 17592186044416 then (spec_l17Tight.l2 k3 x3_1 y128 (y124 ++ [(rd_T88 x3_1 (rd x8_3 (ji27))).f2])) else (none)) else (spec_l17Tight.l2 k3 x3_1 y128 y124)) = some r := H
                  have A56 := Aside0.mk A560
                  clear A560
                  by_cases c57 : t141 = true
                  ·subst c57
                   have H1 : (if y124.length < 17592186044416 then (spec_l17Tight.l2 k3 x3_1 y128 (y124 ++ [(rd_T88 x3_1 (rd x8_3 (ji27))).f2])) else (none)) = some r := by rw [if_pos rfl] at H;exact H
                   clear H
                   have H := H1
                   clear H1
                   by_cases c58 : y124.length < 17592186044416
                   ·rw [if_pos c58] at H
                    have LMc58 := Aside0.mk c58
                    clear c58
                    obtain ⟨y143, hy143⟩ : ∃ y_ : List Int, y_ = (y124 ++ [(rd_T88 x3_1 (rd x8_3 (ji27))).f2]) := ⟨_, rfl⟩
                    replace H : (spec_l17Tight.l2 k3 x3_1 y128 y143) = some r := by first|(rw [hy143];with_reducible exact H)|(have H2_ := (Option.bind_some _ _).symm.trans H;rw [hy143];with_reducible exact H2_)|(have H2_ := (Option.bind_some _ _).symm.trans H;with_reducible exact H2_)|with_reducible exact H|(rw [hy143];exact H)|exact H
                    have Ny143 := Aside0.mk hy143
                    clear hy143
                    have H' := Aside0.mk H
                    clear H
                    obtain ⟨Ao59, co59, eo59⟩ := Kd.R_slice HO_8.out
                    subst eo59
                    have p123 : 0 ≤ ((ji27) : Int) := of_decide_eq_true (by first|(with_reducible assumption)|assumption)
                    have q123 : (ji27) < (x8_3.length : Int) := of_decide_eq_true (by first|(with_reducible assumption)|assumption)
                    obtain ⟨ad123, e123, hx123_0⟩ := Kd.at_int (Kd.R_reads' HO_8.out).2.2 (ji27) p123 q123
                    cases e123
                    replace p123 := eq_true p123
                    replace q123 := eq_true q123
                    have q60 : ((ji27) : Int) ≤ ((x8_3.length : Int) : Int) := of_decide_eq_true (by first|(with_reducible assumption)|assumption)
                    obtain ⟨i060, hi060, _, hsz60, _⟩ := info_parts info3
                    have hcut60 := cut_to (P := Try.prog) 62 3 .i64 Try.underlying62 hi060 (some ad123) x8_3.length co59 (ji27) (of_decide_eq_true (by first|(with_reducible assumption)|assumption)) q60 (Kd.R_reads' HO_8.out).2.1
                    have hr60 := Kd.R_take (m := ((ji27) : Int).toNat) HO_8.out (by omega)
                    have hy60 : y124.length = ((ji27) : Int).toNat := (by rw [Ny124.out, List.length_take];omega)
                    rw [← Ny124.out] at hr60
                    rw [← hy60] at hr60 hcut60
                    clear hy60 hi060 hsz60 HO_8
                    have HO126 := Aside0.mk hr60
                    clear hr60
                    replace q60 := eq_true q60
                    obtain ⟨Ao61, co61, eo61⟩ := Kd.R_slice HO_6.out
                    subst eo61
                    have p127 : 0 ≤ ((rd x8_3 (ji27)) : Int) := of_decide_eq_true (by first|(with_reducible assumption)|assumption)
                    have q127 : (rd x8_3 (ji27)) < (x6_3.length : Int) := of_decide_eq_true (by first|(with_reducible assumption)|assumption)
                    obtain ⟨ad127, e127, hx127_0⟩ := Kd.at_bool (Kd.R_reads' HO_6.out).2.2 (rd x8_3 (ji27)) p127 q127
                    (try rw [← Nbq33.out] at hx127_0)
                    cases e127
                    replace p127 := eq_true p127
                    replace q127 := eq_true q127
                    have p35 : 0 ≤ ((rd x8_3 (ji27)) : Int) := of_decide_eq_true (by first|(with_reducible assumption)|assumption)
                    have q35 : ((rd x8_3 (ji27)) : Int) < ((x6_3.length : Int) : Int) := of_decide_eq_true (by first|(with_reducible assumption)|assumption)
                    obtain ⟨go35, co35, eo35, gb35, gl35, cl35, HG35⟩ := Kd.R_form HO_6.out (by omega)
                    (first|cases eo35|(injection eo35 with ea_ en_ ec_;(first|subst ea_|(injection ea_ with ea_;subst ea_));subst ec_;clear en_))
                    have GB35 := Aside0.mk gb35
                    have GG35 := Aside0.mk HG35
                    clear gb35 gl35 HG35
                    (first|simp only [add_plain] at hx127_0|skip)
                    obtain ⟨hx35_0, hf35_0⟩ := Kd.R_celln false HO_6.out ((rd x8_3 (ji27)) : Int) p35 q35
                    replace p35 := eq_true p35
                    replace q35 := eq_true q35
                    have HP62 := Kd.R_putg HO_6.out ((rd x8_3 (ji27)) : Int) false
                    go_wp2_with (first|((with_reducible refine gate_store (t := 4) (p := 67) rfl ?_);refine store_event (t := 4) (p := 67) (v := ?vo_w63) (w1 := (wr.setCell ⟨go35, ((rd x8_3 (ji27)) : Int).toNat, none⟩ (.bool false))) ?hg ?ho ?hn ?hr ?_;(case ho => rfl);(case hg => rfl);(case hn => rfl);(case hr => first|(go_simp;done)|(go_simp;rfl));intro w63 hw;have hg : wr.grownBy w63 (some go35) := (by rw [hw];exact HP62.2);have hp_ : Kd.R Kd.bool 4 w63 w.heap.size (fun _ => True) (.slice (some ⟨go35, 0, none⟩) x6_3.length co61) y128 := (by rw [hw, Ny128.out];exact HP62.1);clear HP62;have n0_ := Aside0.mk (Kd.R_over' (v := (.slice (some ⟨go35, 0, none⟩) x6_3.length co61)) (by (with_reducible repeat (first|apply Kd.R_alloc|apply Kd.R_drewN|apply Kd.R_drew));exact HO_3.out) (Kd.R_typed HO_6.out) (by decide) hg);have n1_ := Aside0.mk (hp_);have n2_ := Aside0.mk (Kd.R_over' (v := (.slice (some ⟨go35, 0, none⟩) x6_3.length co61)) (by (with_reducible repeat (first|apply Kd.R_alloc|apply Kd.R_drewN|apply Kd.R_drew));exact HO126.out) (Kd.R_typed HO_6.out) (by decide) hg);have n3_ := Aside0.mk ((by rw [hw];exact below_set (HB.out) GB35.out : Below w.heap.size w w63));clear HO_3;clear HO_6;clear HO126;clear HB;have HO_3 := n0_;have HO_6 := n1_;have HO126 := n2_;have HB := n3_;clear n0_ n1_ n2_ n3_;clear hg hw hp_;have p129 : 0 ≤ ((rd x8_3 (ji27)) : Int) := of_decide_eq_true (by first|(with_reducible assumption)|assumption);have q129 : (rd x8_3 (ji27)) < (x3_1.length : Int) := of_decide_eq_true (by first|(with_reducible assumption)|assumption);obtain ⟨ad129, e129, hx129_0, hx129_1, hx129_2⟩ := at_T88 (Kd.R_reads' HO_3.out).2.2 (rd x8_3 (ji27)) p129 q129;cases e129;replace p129 := eq_true p129;replace q129 := eq_true q129)|((with_reducible refine gate_callee (f := 66) rfl ?_);refine goesL_ (some 73) rfl rfl Try.func66 (by kernel_rfl) rfl #[.int .i64 ((rd_T88 x3_1 (rd x8_3 (ji27))).f0)] rfl (by (try simp only [List.map_toArray, List.map_cons, List.map_nil]);first|done|(simp only [hji27];rfl)|rfl|(simp only [List.length_drop, List.length_take];rfl)) ?_;(with_reducible refine (spec_l17Goes.calls ((rd_T88 x3_1 (rd x8_3 (ji27))).f0) false _ A37.out).mono ?_);rintro e w' ⟨rfl, ⟨nd, rfl⟩⟩;refine ⟨_, rfl, ?_⟩;have p140 : 0 ≤ ((rd x8_3 (ji27)) : Int) := of_decide_eq_true (by first|(with_reducible assumption)|assumption);have q140 : (rd x8_3 (ji27)) < (x3_1.length : Int) := of_decide_eq_true (by first|(with_reducible assumption)|assumption);obtain ⟨ad140, e140, hx140_0, hx140_1, hx140_2⟩ := at_T88 (Kd.R_reads' HO_3.out).2.2 (rd x8_3 (ji27)) p140 q140;obtain rfl : ad129 = ad140 := (by injection e140);replace p140 := eq_true p140;replace q140 := eq_true q140)|((with_reducible refine gate_callee (f := 64) rfl ?_);refine goesL_ (some 84) rfl rfl Try.func64 (by kernel_rfl) rfl #[.int .i64 ((rd_T88 x3_1 (rd x8_3 (ji27))).f0)] rfl (by (try simp only [List.map_toArray, List.map_cons, List.map_nil]);first|done|(simp only [hji27];rfl)|rfl|(simp only [List.length_drop, List.length_take];rfl)) ?_;(with_reducible refine (spec_l17HasTo.calls ((rd_T88 x3_1 (rd x8_3 (ji27))).f0) true _ A56.out).mono ?_);rintro e w' ⟨rfl, ⟨nd, rfl⟩⟩;refine ⟨_, rfl, ?_⟩;have p142 : 0 ≤ ((rd x8_3 (ji27)) : Int) := of_decide_eq_true (by first|(with_reducible assumption)|assumption);have q142 : (rd x8_3 (ji27)) < (x3_1.length : Int) := of_decide_eq_true (by first|(with_reducible assumption)|assumption);obtain ⟨ad142, e142, hx142_0, hx142_1, hx142_2⟩ := at_T88 (Kd.R_reads' HO_3.out).2.2 (rd x8_3 (ji27)) p142 q142;obtain rfl : ad129 = ad142 := (by injection e142);replace p142 := eq_true p142;replace q142 := eq_true q142)|((with_reducible refine gate_builtin (b := .append) (xs := #[.tmp 85, .tmp 91]) rfl ?_);at_builtin;refine Kd.R_append (Kd.int .i64) (w0 := w) w.heap.size rfl (.tmp 85) (.tmp 91) 62 3 (.int .i64 0) 8 rfl Try.underlying62 info3 rfl (by decide) (by omega) (.slice (some ad123) y124.length co59) y124 ((rd_T88 x3_1 (rd x8_3 (ji27))).f2) [.int .i64 ((rd_T88 x3_1 (rd x8_3 (ji27))).f2)] (fun _ => True) (fun _ => False) rfl rfl ?aP (fun _ hk => hk.elim) ?aF ?aO ?aB ?aS ?aL ?_;(case aP => exact rfl);(case aB => exact (by repeat (first|(with_reducible first|exact HB.out|apply below_alloc|apply pw_below_drewN|apply below_drew1)|exact HB.out)));(case aF => exact (fun _ _ => trivial));(case aO => exact (by (with_reducible repeat (first|apply Kd.R_alloc|apply Kd.R_drewN|apply Kd.R_drew));exact HO126.out));(case aS => exact (below_size (by repeat (first|(with_reducible first|exact HB.out|apply below_alloc|apply pw_below_drewN|apply below_drew1)|exact HB.out))));(case aL => have := LMc58.out;omega);intro v144 w64 ho hb hg hat;rw [← Ny143.out] at ho;have n0_ := Aside0.mk (Kd.R_over' (by (with_reducible repeat (first|apply Kd.R_alloc|apply Kd.R_drewN|apply Kd.R_drew));exact HO_3.out) (Kd.R_typed (by (with_reducible repeat (first|apply Kd.R_alloc|apply Kd.R_drewN|apply Kd.R_drew));exact HO126.out)) (by decide) hg);have n1_ := Aside0.mk (Kd.R_over' (by (with_reducible repeat (first|apply Kd.R_alloc|apply Kd.R_drewN|apply Kd.R_drew));exact HO_6.out) (Kd.R_typed (by (with_reducible repeat (first|apply Kd.R_alloc|apply Kd.R_drewN|apply Kd.R_drew));exact HO126.out)) (by decide) hg);have n2_ := Aside0.mk (hb);have n3_ := Aside0.mk (ho);clear HO_3;clear HO_6;clear HB;clear HO126;have HO_3 := n0_;have HO_6 := n1_;have HB := n2_;have HO145 := n3_;clear n0_ n1_ n2_ n3_;clear ho hb hg hat))
                    go_roundg k3
                    case measure => have := HK1.out;have := HK2.out;have := HK3.out;omega
                    case rel => exact ⟨(y128), (y143), H', ⟨by have := HK1.out;have := HK2.out;have := HK3.out;omega⟩, ⟨by (with_reducible repeat (first|apply Kd.R_alloc|apply Kd.R_drewN|apply Kd.R_drew));exact HO_3.out⟩, ⟨by (with_reducible repeat (first|apply Kd.R_alloc|apply Kd.R_drewN|apply Kd.R_drew));exact HO_6.out⟩, ⟨by (with_reducible repeat (first|apply Kd.R_alloc|apply Kd.R_drewN|apply Kd.R_drew));exact HO145.out⟩, ⟨by repeat (first|(with_reducible first|exact HB.out|apply below_alloc|apply pw_below_drewN|apply below_drew1)|exact HB.out)⟩⟩
                   ·rw [if_neg c58] at H
                    exact absurd H (by simp)
                  ·replace c57 := Bool.eq_false_iff.mpr c57
                   subst c57
                   have H1 : (spec_l17Tight.l2 k3 x3_1 y128 y124) = some r := by rw [if_neg (show ¬ (false = true) by decide)] at H;exact H
                   clear H
                   have H := H1
                   clear H1
                   have H' := Aside0.mk H
                   clear H
                   obtain ⟨Ao65, co65, eo65⟩ := Kd.R_slice HO_8.out
                   subst eo65
                   have p123 : 0 ≤ ((ji27) : Int) := of_decide_eq_true (by first|(with_reducible assumption)|assumption)
                   have q123 : (ji27) < (x8_3.length : Int) := of_decide_eq_true (by first|(with_reducible assumption)|assumption)
                   obtain ⟨ad123, e123, hx123_0⟩ := Kd.at_int (Kd.R_reads' HO_8.out).2.2 (ji27) p123 q123
                   cases e123
                   replace p123 := eq_true p123
                   replace q123 := eq_true q123
                   have q66 : ((ji27) : Int) ≤ ((x8_3.length : Int) : Int) := of_decide_eq_true (by first|(with_reducible assumption)|assumption)
                   obtain ⟨i066, hi066, _, hsz66, _⟩ := info_parts info3
                   have hcut66 := cut_to (P := Try.prog) 62 3 .i64 Try.underlying62 hi066 (some ad123) x8_3.length co65 (ji27) (of_decide_eq_true (by first|(with_reducible assumption)|assumption)) q66 (Kd.R_reads' HO_8.out).2.1
                   have hr66 := Kd.R_take (m := ((ji27) : Int).toNat) HO_8.out (by omega)
                   have hy66 : y124.length = ((ji27) : Int).toNat := (by rw [Ny124.out, List.length_take];omega)
                   rw [← Ny124.out] at hr66
                   rw [← hy66] at hr66 hcut66
                   clear hy66 hi066 hsz66 HO_8
                   have HO126 := Aside0.mk hr66
                   clear hr66
                   replace q66 := eq_true q66
                   obtain ⟨Ao67, co67, eo67⟩ := Kd.R_slice HO_6.out
                   subst eo67
                   have p127 : 0 ≤ ((rd x8_3 (ji27)) : Int) := of_decide_eq_true (by first|(with_reducible assumption)|assumption)
                   have q127 : (rd x8_3 (ji27)) < (x6_3.length : Int) := of_decide_eq_true (by first|(with_reducible assumption)|assumption)
                   obtain ⟨ad127, e127, hx127_0⟩ := Kd.at_bool (Kd.R_reads' HO_6.out).2.2 (rd x8_3 (ji27)) p127 q127
                   (try rw [← Nbq33.out] at hx127_0)
                   cases e127
                   replace p127 := eq_true p127
                   replace q127 := eq_true q127
                   have p35 : 0 ≤ ((rd x8_3 (ji27)) : Int) := of_decide_eq_true (by first|(with_reducible assumption)|assumption)
                   have q35 : ((rd x8_3 (ji27)) : Int) < ((x6_3.length : Int) : Int) := of_decide_eq_true (by first|(with_reducible assumption)|assumption)
                   obtain ⟨go35, co35, eo35, gb35, gl35, cl35, HG35⟩ := Kd.R_form HO_6.out (by omega)
                   (first|cases eo35|(injection eo35 with ea_ en_ ec_;(first|subst ea_|(injection ea_ with ea_;subst ea_));subst ec_;clear en_))
                   have GB35 := Aside0.mk gb35
                   have GG35 := Aside0.mk HG35
                   clear gb35 gl35 HG35
                   (first|simp only [add_plain] at hx127_0|skip)
                   obtain ⟨hx35_0, hf35_0⟩ := Kd.R_celln false HO_6.out ((rd x8_3 (ji27)) : Int) p35 q35
                   replace p35 := eq_true p35
                   replace q35 := eq_true q35
                   have HP68 := Kd.R_putg HO_6.out ((rd x8_3 (ji27)) : Int) false
                   go_wp2_with (first|((with_reducible refine gate_store (t := 4) (p := 67) rfl ?_);refine store_event (t := 4) (p := 67) (v := ?vo_w69) (w1 := (wr.setCell ⟨go35, ((rd x8_3 (ji27)) : Int).toNat, none⟩ (.bool false))) ?hg ?ho ?hn ?hr ?_;(case ho => rfl);(case hg => rfl);(case hn => rfl);(case hr => first|(go_simp;done)|(go_simp;rfl));intro w69 hw;have hg : wr.grownBy w69 (some go35) := (by rw [hw];exact HP68.2);have hp_ : Kd.R Kd.bool 4 w69 w.heap.size (fun _ => True) (.slice (some ⟨go35, 0, none⟩) x6_3.length co67) y128 := (by rw [hw, Ny128.out];exact HP68.1);clear HP68;have n0_ := Aside0.mk (Kd.R_over' (v := (.slice (some ⟨go35, 0, none⟩) x6_3.length co67)) (by (with_reducible repeat (first|apply Kd.R_alloc|apply Kd.R_drewN|apply Kd.R_drew));exact HO_3.out) (Kd.R_typed HO_6.out) (by decide) hg);have n1_ := Aside0.mk (hp_);have n2_ := Aside0.mk (Kd.R_over' (v := (.slice (some ⟨go35, 0, none⟩) x6_3.length co67)) (by (with_reducible repeat (first|apply Kd.R_alloc|apply Kd.R_drewN|apply Kd.R_drew));exact HO126.out) (Kd.R_typed HO_6.out) (by decide) hg);have n3_ := Aside0.mk ((by rw [hw];exact below_set (HB.out) GB35.out : Below w.heap.size w w69));clear HO_3;clear HO_6;clear HO126;clear HB;have HO_3 := n0_;have HO_6 := n1_;have HO126 := n2_;have HB := n3_;clear n0_ n1_ n2_ n3_;clear hg hw hp_;have p129 : 0 ≤ ((rd x8_3 (ji27)) : Int) := of_decide_eq_true (by first|(with_reducible assumption)|assumption);have q129 : (rd x8_3 (ji27)) < (x3_1.length : Int) := of_decide_eq_true (by first|(with_reducible assumption)|assumption);obtain ⟨ad129, e129, hx129_0, hx129_1, hx129_2⟩ := at_T88 (Kd.R_reads' HO_3.out).2.2 (rd x8_3 (ji27)) p129 q129;cases e129;replace p129 := eq_true p129;replace q129 := eq_true q129)|((with_reducible refine gate_callee (f := 66) rfl ?_);refine goesL_ (some 73) rfl rfl Try.func66 (by kernel_rfl) rfl #[.int .i64 ((rd_T88 x3_1 (rd x8_3 (ji27))).f0)] rfl (by (try simp only [List.map_toArray, List.map_cons, List.map_nil]);first|done|(simp only [hji27];rfl)|rfl|(simp only [List.length_drop, List.length_take];rfl)) ?_;(with_reducible refine (spec_l17Goes.calls ((rd_T88 x3_1 (rd x8_3 (ji27))).f0) false _ A37.out).mono ?_);rintro e w' ⟨rfl, ⟨nd, rfl⟩⟩;refine ⟨_, rfl, ?_⟩;have p140 : 0 ≤ ((rd x8_3 (ji27)) : Int) := of_decide_eq_true (by first|(with_reducible assumption)|assumption);have q140 : (rd x8_3 (ji27)) < (x3_1.length : Int) := of_decide_eq_true (by first|(with_reducible assumption)|assumption);obtain ⟨ad140, e140, hx140_0, hx140_1, hx140_2⟩ := at_T88 (Kd.R_reads' HO_3.out).2.2 (rd x8_3 (ji27)) p140 q140;obtain rfl : ad129 = ad140 := (by injection e140);replace p140 := eq_true p140;replace q140 := eq_true q140)|((with_reducible refine gate_callee (f := 64) rfl ?_);refine goesL_ (some 84) rfl rfl Try.func64 (by kernel_rfl) rfl #[.int .i64 ((rd_T88 x3_1 (rd x8_3 (ji27))).f0)] rfl (by (try simp only [List.map_toArray, List.map_cons, List.map_nil]);first|done|(simp only [hji27];rfl)|rfl|(simp only [List.length_drop, List.length_take];rfl)) ?_;(with_reducible refine (spec_l17HasTo.calls ((rd_T88 x3_1 (rd x8_3 (ji27))).f0) false _ A56.out).mono ?_);rintro e w' ⟨rfl, ⟨nd, rfl⟩⟩;refine ⟨_, rfl, ?_⟩))
                   go_roundg k3
                   case measure => have := HK1.out;have := HK2.out;have := HK3.out;omega
                   case rel => exact ⟨(y128), (y124), H', ⟨by have := HK1.out;have := HK2.out;have := HK3.out;omega⟩, ⟨by (with_reducible repeat (first|apply Kd.R_alloc|apply Kd.R_drewN|apply Kd.R_drew));exact HO_3.out⟩, ⟨by (with_reducible repeat (first|apply Kd.R_alloc|apply Kd.R_drewN|apply Kd.R_drew));exact HO_6.out⟩, ⟨by (with_reducible repeat (first|apply Kd.R_alloc|apply Kd.R_drewN|apply Kd.R_drew));exact HO126.out⟩, ⟨by repeat (first|(with_reducible first|exact HB.out|apply below_alloc|apply pw_below_drewN|apply below_drew1)|exact HB.out)⟩⟩
                ·rw [if_neg c36] at H
                 exact absurd H (by simp)
               ·replace c34 := Bool.eq_false_iff.mpr c34
                subst c34
                have H1 : (spec_l17Tight.l2 k3 x3_1 x6_3 y124) = some r := by rw [if_neg (show ¬ (false = true) by decide)] at H;exact H
                clear H
                have H := H1
                clear H1
                have H' := Aside0.mk H
                clear H
                obtain ⟨Ao70, co70, eo70⟩ := Kd.R_slice HO_8.out
                subst eo70
                have p123 : 0 ≤ ((ji27) : Int) := of_decide_eq_true (by first|(with_reducible assumption)|assumption)
                have q123 : (ji27) < (x8_3.length : Int) := of_decide_eq_true (by first|(with_reducible assumption)|assumption)
                obtain ⟨ad123, e123, hx123_0⟩ := Kd.at_int (Kd.R_reads' HO_8.out).2.2 (ji27) p123 q123
                cases e123
                replace p123 := eq_true p123
                replace q123 := eq_true q123
                have q71 : ((ji27) : Int) ≤ ((x8_3.length : Int) : Int) := of_decide_eq_true (by first|(with_reducible assumption)|assumption)
                obtain ⟨i071, hi071, _, hsz71, _⟩ := info_parts info3
                have hcut71 := cut_to (P := Try.prog) 62 3 .i64 Try.underlying62 hi071 (some ad123) x8_3.length co70 (ji27) (of_decide_eq_true (by first|(with_reducible assumption)|assumption)) q71 (Kd.R_reads' HO_8.out).2.1
                have hr71 := Kd.R_take (m := ((ji27) : Int).toNat) HO_8.out (by omega)
                have hy71 : y124.length = ((ji27) : Int).toNat := (by rw [Ny124.out, List.length_take];omega)
                rw [← Ny124.out] at hr71
                rw [← hy71] at hr71 hcut71
                clear hy71 hi071 hsz71 HO_8
                have HO126 := Aside0.mk hr71
                clear hr71
                replace q71 := eq_true q71
                obtain ⟨Ao72, co72, eo72⟩ := Kd.R_slice HO_6.out
                subst eo72
                have p127 : 0 ≤ ((rd x8_3 (ji27)) : Int) := of_decide_eq_true (by first|(with_reducible assumption)|assumption)
                have q127 : (rd x8_3 (ji27)) < (x6_3.length : Int) := of_decide_eq_true (by first|(with_reducible assumption)|assumption)
                obtain ⟨ad127, e127, hx127_0⟩ := Kd.at_bool (Kd.R_reads' HO_6.out).2.2 (rd x8_3 (ji27)) p127 q127
                (try rw [← Nbq33.out] at hx127_0)
                cases e127
                replace p127 := eq_true p127
                replace q127 := eq_true q127
                go_wp2
                go_roundg k3
                case measure => have := HK1.out;have := HK2.out;have := HK3.out;omega
                case rel => exact ⟨(x6_3), (y124), H', ⟨by have := HK1.out;have := HK2.out;have := HK3.out;omega⟩, ⟨by (with_reducible repeat (first|apply Kd.R_alloc|apply Kd.R_drewN|apply Kd.R_drew));exact HO_3.out⟩, ⟨by (with_reducible repeat (first|apply Kd.R_alloc|apply Kd.R_drewN|apply Kd.R_drew));exact HO_6.out⟩, ⟨by (with_reducible repeat (first|apply Kd.R_alloc|apply Kd.R_drewN|apply Kd.R_drew));exact HO126.out⟩, ⟨by repeat (first|(with_reducible first|exact HB.out|apply below_alloc|apply pw_below_drewN|apply below_drew1)|exact HB.out)⟩⟩
              ·rw [if_neg c32] at H
               exact absurd H (by simp)
             ·rw [if_neg c31] at H
              exact absurd H (by simp)
            ·rw [if_neg c30] at H
             exact absurd H (by simp)
           ·rw [if_neg c29] at H
            exact absurd H (by simp)
          ·rw [if_neg c28] at H
           exact absurd H (by simp)
         ·rw [if_neg c26] at H
          have c26b0 : decide (0 < (x8_3.length : Int)) = false := decide_eq_false c26
          have c26b1 : decide (0 < x8_3.length) = false := decide_eq_false (by omega)
          clear c26
          replace H := Option.bind_eq_some_iff.mp H
          obtain ⟨t146, A730, H⟩ := H
          replace H : (if 0 ≤ (t146.length : Int) then (if ((t146.length : Int) : Int).toNat ≤ 281474976710656 then (spec_l17Tight.l3 k3 t146 (List.replicate ((t146.length : Int) : Int).toNat false) (t146.length : Int) (wrap64 ((t146.length : Int) - 1))) else (none)) else (none)) = some r := H
          have A73 := Aside0.mk A730
          clear A730
          by_cases c74 : 0 ≤ (t146.length : Int)
          ·rw [if_pos c74] at H
           have c74b0 := eq_true c74
           have c74b1 : decide (0 ≤ (t146.length : Int)) = true := decide_eq_true c74
           clear c74
           by_cases c75 : ((t146.length : Int) : Int).toNat ≤ 281474976710656
           ·rw [if_pos c75] at H
            have c75b0 := eq_true c75
            have c75b1 : decide (((t146.length : Int) : Int).toNat ≤ 281474976710656) = true := decide_eq_true c75
            clear c75
            obtain ⟨y149, hy149⟩ : ∃ y_ : List Bool, y_ = (List.replicate ((t146.length : Int) : Int).toNat false) := ⟨_, rfl⟩
            replace H : (spec_l17Tight.l3 k3 t146 y149 (t146.length : Int) (wrap64 ((t146.length : Int) - 1))) = some r := by first|(rw [hy149];with_reducible exact H)|(have H2_ := (Option.bind_some _ _).symm.trans H;rw [hy149];with_reducible exact H2_)|(have H2_ := (Option.bind_some _ _).symm.trans H;with_reducible exact H2_)|with_reducible exact H|(rw [hy149];exact H)|exact H
            have Ny149 := Aside0.mk hy149
            clear hy149
            have H' := Aside0.mk H
            clear H
            obtain ⟨Ao76, co76, eo76⟩ := Kd.R_slice HO_8.out
            subst eo76
            obtain ⟨Ao77, co77, eo77⟩ := Kd.R_slice HO_6.out
            subst eo77
            go_wp2_with (first|((with_reducible refine gate_callee (f := 113) rfl ?_);refine goesL_ (some 95) rfl rfl Try.func113 (by kernel_rfl) rfl #[.slice Ao23 x3_1.length co23, .slice Ao77 x6_3.length co77] rfl (by (try simp only [List.map_toArray, List.map_cons, List.map_nil]);first|done|rfl|(simp only [List.length_drop, List.length_take];rfl)) ?_;(with_reducible refine (spec_l17Without.calls k3 _ _ x3_1 _ _ x6_3 t146 _ ?side1 ?side2 ?side3 ?side4 A73.out).mono ?_);(case side1 => repeat (first|exact (Kd.R_reads' HO_3.out).2.2|(with_reducible refine Kd.C_alloc ?_ _)|(with_reducible refine Kd.C_drewN ?_ _)|(with_reducible refine Kd.C_drew ?_)));(case side2 => exact (Kd.R_reads' HO_3.out).2.1);(case side3 => repeat (first|exact (Kd.R_reads' HO_6.out).2.2|(with_reducible refine Kd.C_alloc ?_ _)|(with_reducible refine Kd.C_drewN ?_ _)|(with_reducible refine Kd.C_drew ?_)));(case side4 => exact (Kd.R_reads' HO_6.out).2.1);rintro e w78 ⟨v147, rfl, ho0, hb⟩;refine ⟨_, rfl, ?_⟩;have n0_ := Aside0.mk (Kd.R_elder' (by (with_reducible repeat (first|apply Kd.R_alloc|apply Kd.R_drewN|apply Kd.R_drew));exact HO_3.out) (Kd.R_base ho0) hb);have n1_ := Aside0.mk (Kd.R_below (by (with_reducible repeat (first|apply Kd.R_alloc|apply Kd.R_drewN|apply Kd.R_drew));exact HO_6.out) hb);have n2_ := Aside0.mk (Kd.R_below (by (with_reducible repeat (first|apply Kd.R_alloc|apply Kd.R_drewN|apply Kd.R_drew));exact HO_8.out) hb);have n3_ := Aside0.mk (Kd.R_lower (Kd.R_new' ho0 (Kd.R_lt (by (with_reducible repeat (first|apply Kd.R_alloc|apply Kd.R_drewN|apply Kd.R_drew));exact HO_3.out))) (below_size (by repeat (first|(with_reducible first|exact HB.out|apply below_alloc|apply pw_below_drewN|apply below_drew1)|exact HB.out))));have n4_ := Aside0.mk (below_step (by repeat (first|(with_reducible first|exact HB.out|apply below_alloc|apply pw_below_drewN|apply below_drew1)|exact HB.out)) hb);clear HO_3;clear HO_6;clear HO_8;clear HB;have HO_3 := n0_;have HO_6 := n1_;have HO_8 := n2_;have HO148 := n3_;have HB := n4_;clear n0_ n1_ n2_ n3_ n4_;(try clear hb);(try clear hb2);(try clear hk);(try clear hi);(try clear ho0);obtain ⟨Ao79, co79, eo79⟩ := Kd.R_slice HO148.out;subst eo79)|((with_reducible refine gate_dst (N := 98) rfl ?_);refine Kd.R_make Kd.bool _ 4 rfl (N := 98) rfl 106 _ _ rfl (t146.length : Int) rfl rfl Try.underlying106 (.bool false) 1 info4 rfl (by decide) (by omega) false (ok := fun _ => True) (okp := fun _ => True) rfl (fun _ hk => hk) trivial (of_decide_eq_true (by first|(with_reducible assumption)|assumption)) (Nat.le_trans (Nat.mul_le_mul_right _ (of_decide_eq_true (by first|(with_reducible assumption)|assumption) : (t146.length : Int).toNat ≤ 281474976710656)) (by omega)) (Below.refl _ _) (Nat.le_refl _) ?_;intro v150 w80 ho81 hb hg_ hnew_;clear hg_ hnew_;(first|rw [← Ny149.out] at ho81|(simp only [Int.reduceToNat] at ho81;rw [← Ny149.out] at ho81));have n0_ := Aside0.mk (Kd.R_below (by (with_reducible repeat (first|apply Kd.R_alloc|apply Kd.R_drewN|apply Kd.R_drew));exact HO_3.out) hb);have n1_ := Aside0.mk (Kd.R_elder' (by (with_reducible repeat (first|apply Kd.R_alloc|apply Kd.R_drewN|apply Kd.R_drew));exact HO_6.out) (Kd.R_base ho81) hb);have n2_ := Aside0.mk (Kd.R_below (by (with_reducible repeat (first|apply Kd.R_alloc|apply Kd.R_drewN|apply Kd.R_drew));exact HO_8.out) hb);have n3_ := Aside0.mk (Kd.R_below (by (with_reducible repeat (first|apply Kd.R_alloc|apply Kd.R_drewN|apply Kd.R_drew));exact HO148.out) hb);have n4_ := Aside0.mk (Kd.R_lower (Kd.R_new' ho81 (Kd.R_lt (by (with_reducible repeat (first|apply Kd.R_alloc|apply Kd.R_drewN|apply Kd.R_drew));exact HO_6.out))) (below_size (by repeat (first|(with_reducible first|exact HB.out|apply below_alloc|apply pw_below_drewN|apply below_drew1)|exact HB.out))));have n5_ := Aside0.mk (below_step (by repeat (first|(with_reducible first|exact HB.out|apply below_alloc|apply pw_below_drewN|apply below_drew1)|exact HB.out)) hb);clear HO_3;clear HO_6;clear HO_8;clear HO148;clear HB;have HO_3 := n0_;have HO_6 := n1_;have HO_8 := n2_;have HO148 := n3_;have HO151 := n4_;have HB := n5_;clear n0_ n1_ n2_ n3_ n4_ n5_;clear hb ho81))
            go_loopg [10, 11] k3 (fun kq v10 v11 w' => ∃ (x6_4 : List Bool) (x10_4 : Int) (x11_4 : Int), v10 = .int .i64 x10_4 ∧ v11 = .int .i64 x11_4 ∧ Aside0 (spec_l17Tight.l3 kq t146 x6_4 x10_4 x11_4 = some r) ∧ Aside0 (kq ≤ k3) ∧ Aside0 (Kd.R k88 88 w' w.heap.size (fun _ => True) (.slice Ao79 t146.length co79) t146) ∧ Aside0 (Kd.R Kd.bool 4 w' w.heap.size (fun _ => True) v150 x6_4) ∧ Aside0 (Below w.heap.size w w'))
            case atStart => exact ⟨(y149), ((t146.length : Int)), (wrap64 ((t146.length : Int) - 1)), (by first|rfl|(simp;done)|(simp [*];done)), (by first|rfl|(simp;done)|(simp [*];done)), H', ⟨Nat.le_refl _⟩, ⟨by (with_reducible repeat (first|apply Kd.R_alloc|apply Kd.R_drewN|apply Kd.R_drew));exact Kd.R_mono HO148.out (fun _ hk => trivial)⟩, ⟨by (with_reducible repeat (first|apply Kd.R_alloc|apply Kd.R_drewN|apply Kd.R_drew));exact Kd.R_mono HO151.out (fun _ hk => trivial)⟩, ⟨by repeat (first|(with_reducible first|exact HB.out|apply below_alloc|apply pw_below_drewN|apply below_drew1)|exact HB.out)⟩⟩
            case round =>
             clear H'
             try clear c1
             try clear p1
             try clear q1
             try clear hx1
             try clear c2
             try clear p2
             try clear c3
             try clear p3
             try clear q3
             try clear hx3
             try clear hf3
             try clear c4
             try clear c4b0
             try clear q4
             try clear c5
             try clear c5b0
             try clear q5
             try clear c6
             try clear p6
             try clear q6
             try clear c7
             try clear q7
             try clear c8
             try clear c9
             try clear p10
             try clear q10
             try clear hx10
             try clear c11
             try clear p12
             try clear q12
             try clear hx12
             try clear c13
             try clear p13
             try clear q13
             try clear hx13
             try clear p14
             try clear q14
             try clear hx14
             try clear c19
             try clear c19b0
             try clear c20
             try clear c26
             try clear c26b0
             try clear c26b1
             try clear c28
             try clear c28b0
             try clear c29
             try clear c29b0
             try clear c30
             try clear c30b0
             try clear c30b1
             try clear c31
             try clear c31b0
             try clear c32
             try clear c32b0
             try clear q33
             try clear c34
             try clear p35
             try clear q35
             try clear hx35
             try clear hf35
             try clear c36
             try clear c36b0
             try clear c38
             try clear c39
             try clear c41
             try clear c42
             try clear q44
             try clear q51
             try clear c57
             try clear c58
             try clear q60
             try clear c64
             try clear p64
             try clear c66
             try clear q66
             try clear q71
             try clear c74
             try clear c74b0
             try clear c74b1
             try clear c75
             try clear c75b0
             try clear c75b1
             try clear hcz11_0
             try clear hcz11_1
             try clear hcz11_2
             try clear hcz15_0
             try clear hcz15_1
             try clear hcz15_2
             try clear hfz11_0
             try clear hfz11_1
             try clear hfz11_2
             try clear hfz15_0
             try clear hfz15_1
             try clear hfz15_2
             try clear hx104_0
             try clear hx104_1
             try clear hx104_2
             try clear hx123_0
             try clear hx127_0
             try clear hx129_0
             try clear hx129_1
             try clear hx129_2
             try clear hx134_0
             try clear hx134_1
             try clear hx134_2
             try clear hx136_0
             try clear hx136_1
             try clear hx136_2
             try clear hx140_0
             try clear hx140_1
             try clear hx140_2
             try clear hx142_0
             try clear hx142_1
             try clear hx142_2
             try clear hx35_0
             try clear p1
             try clear p10
             try clear p104
             try clear p123
             try clear p127
             try clear p129
             try clear p134
             try clear p136
             try clear p140
             try clear p142
             try clear p2
             try clear p35
             try clear p6
             try clear q1
             try clear q10
             try clear q104
             try clear q123
             try clear q127
             try clear q129
             try clear q134
             try clear q136
             try clear q140
             try clear q142
             try clear q35
             try clear q44
             try clear q51
             try clear q60
             try clear q66
             try clear q71
             obtain ⟨x6_4, x10_4, x11_4, rfl, rfl, HA, HK4, HO_3, HO_6, HB⟩ := hrel
             cases gk with
             | zero => exact absurd HA.out (by simp [spec_l17Tight.l3])
             | succ k4 =>
              have H := HA.out
              clear HA
              simp only [spec_l17Tight.l3] at H
              by_cases c82 : x11_4 ≥ 0
              ·rw [if_pos c82] at H
               have c82b0 : decide (0 ≤ x11_4) = true := decide_eq_true c82
               clear c82
               by_cases c83 : 0 ≤ x11_4
               ·rw [if_pos c83] at H
                have c83b0 : decide (0 ≤ x11_4) = true := decide_eq_true c83
                clear c83
                by_cases c84 : x11_4 < (t146.length : Int)
                ·rw [if_pos c84] at H
                 have c84b0 : decide (x11_4 < (t146.length : Int)) = true := decide_eq_true c84
                 clear c84
                 replace H := Option.bind_eq_some_iff.mp H
                 obtain ⟨t153, A850, H⟩ := H
                 replace H : (if t153 = true then (if ((rd_T88 t146 x11_4).f2) > x11_4 then (if ((rd_T88 t146 x11_4).f2) ≤ x10_4 then (if x11_4 < (x6_4.length : Int) then (spec_l17Tight.l3 k4 t146 (x6_4.set (x11_4 : Int).toNat true) x10_4 (wrap64 (x11_4 - 1))) else (none)) else (spec_l17Tight.l3 k4 t146 x6_4 x11_4 (wrap64 (x11_4 - 1)))) else (spec_l17Tight.l3 k4 t146 x6_4 x11_4 (wrap64 (x11_4 - 1)))) else (spec_l17Tight.l3 k4 t146 x6_4 x11_4 (wrap64 (x11_4 - 1)))) = some r := H
                 have A85 := Aside0.mk A850
                 clear A850
                 by_cases c86 : t153 = true
                 ·subst c86
                  have H1 : (if ((rd_T88 t146 x11_4).f2) > x11_4 then (if ((rd_T88 t146 x11_4).f2) ≤ x10_4 then (if x11_4 < (x6_4.length : Int) then (spec_l17Tight.l3 k4 t146 (x6_4.set (x11_4 : Int).toNat true) x10_4 (wrap64 (x11_4 - 1))) else (none)) else (spec_l17Tight.l3 k4 t146 x6_4 x11_4 (wrap64 (x11_4 - 1)))) else (spec_l17Tight.l3 k4 t146 x6_4 x11_4 (wrap64 (x11_4 - 1)))) = some r := by rw [if_pos rfl] at H;exact H
                  clear H
                  have H := H1
                  clear H1
                  by_cases c87 : ((rd_T88 t146 x11_4).f2) > x11_4
                  ·rw [if_pos c87] at H
                   have c87b0 : decide (x11_4 < ((rd_T88 t146 x11_4).f2)) = true := decide_eq_true c87
                   clear c87
                   by_cases c88 : ((rd_T88 t146 x11_4).f2) ≤ x10_4
                   ·rw [if_pos c88] at H
                    have c88b0 : decide (((rd_T88 t146 x11_4).f2) ≤ x10_4) = true := decide_eq_true c88
                    clear c88
                    by_cases c89 : x11_4 < (x6_4.length : Int)
                    ·rw [if_pos c89] at H
                     have c89b0 : decide (x11_4 < (x6_4.length : Int)) = true := decide_eq_true c89
                     clear c89
                     obtain ⟨y156, hy156⟩ : ∃ y_ : List Bool, y_ = (x6_4.set (x11_4 : Int).toNat true) := ⟨_, rfl⟩
                     replace H : (spec_l17Tight.l3 k4 t146 y156 x10_4 (wrap64 (x11_4 - 1))) = some r := by first|(rw [hy156];with_reducible exact H)|(have H2_ := (Option.bind_some _ _).symm.trans H;rw [hy156];with_reducible exact H2_)|(have H2_ := (Option.bind_some _ _).symm.trans H;with_reducible exact H2_)|with_reducible exact H|(rw [hy156];exact H)|exact H
                     have Ny156 := Aside0.mk hy156
                     clear hy156
                     have H' := Aside0.mk H
                     clear H
                     have p152 : 0 ≤ (x11_4 : Int) := of_decide_eq_true (by first|(with_reducible assumption)|assumption)
                     have q152 : x11_4 < (t146.length : Int) := of_decide_eq_true (by first|(with_reducible assumption)|assumption)
                     obtain ⟨ad152, e152, hx152_0, hx152_1, hx152_2⟩ := at_T88 (Kd.R_reads' HO_3.out).2.2 x11_4 p152 q152
                     cases e152
                     replace p152 := eq_true p152
                     replace q152 := eq_true q152
                     go_wp2_with (first|((with_reducible refine gate_callee (f := 64) rfl ?_);refine goesL_ (some 113) rfl rfl Try.func64 (by kernel_rfl) rfl #[.int .i64 ((rd_T88 t146 x11_4).f0)] rfl (by (try simp only [List.map_toArray, List.map_cons, List.map_nil]);first|done|rfl|(simp only [List.length_drop, List.length_take];rfl)) ?_;(with_reducible refine (spec_l17HasTo.calls ((rd_T88 t146 x11_4).f0) true _ A85.out).mono ?_);rintro e w' ⟨rfl, ⟨nd, rfl⟩⟩;refine ⟨_, rfl, ?_⟩;(try (rw [drewN_self wr];generalize hq_ : World.drewN wr _ = wr;have n0_ : Aside0 (Kd.R k88 88 wr w.heap.size (fun _ => True) (.slice (some ad152) t146.length co79) t146) := ⟨by rw [← hq_];exact (by (with_reducible repeat (first|apply Kd.R_alloc|apply Kd.R_drewN|apply Kd.R_drew));exact HO_3.out)⟩;have n1_ : Aside0 (Kd.R Kd.bool 4 wr w.heap.size (fun _ => True) v150 x6_4) := ⟨by rw [← hq_];exact (by (with_reducible repeat (first|apply Kd.R_alloc|apply Kd.R_drewN|apply Kd.R_drew));exact HO_6.out)⟩;have n2_ : Aside0 (Below w.heap.size w wr) := ⟨by rw [← hq_];exact (by repeat (first|(with_reducible first|exact HB.out|apply below_alloc|apply pw_below_drewN|apply below_drew1)|exact HB.out))⟩;clear HO_3 HO_6 HB hq_;have HO_3 := n0_;have HO_6 := n1_;have HB := n2_;clear n0_ n1_ n2_));have p154 : 0 ≤ (x11_4 : Int) := of_decide_eq_true (by first|(with_reducible assumption)|assumption);have q154 : x11_4 < (t146.length : Int) := of_decide_eq_true (by first|(with_reducible assumption)|assumption);obtain ⟨ad154, e154, hx154_0, hx154_1, hx154_2⟩ := at_T88 (Kd.R_reads' HO_3.out).2.2 x11_4 p154 q154;obtain rfl : ad152 = ad154 := (by injection e154);replace p154 := eq_true p154;replace q154 := eq_true q154;have p155 : 0 ≤ (x11_4 : Int) := of_decide_eq_true (by first|(with_reducible assumption)|assumption);have q155 : x11_4 < (t146.length : Int) := of_decide_eq_true (by first|(with_reducible assumption)|assumption);obtain ⟨ad155, e155, hx155_0, hx155_1, hx155_2⟩ := at_T88 (Kd.R_reads' HO_3.out).2.2 x11_4 p155 q155;obtain rfl : ad152 = ad155 := (by injection e155);replace p155 := eq_true p155;replace q155 := eq_true q155;have p90 : 0 ≤ (x11_4 : Int) := of_decide_eq_true (by first|(with_reducible assumption)|assumption);have q90 : (x11_4 : Int) < ((x6_4.length : Int) : Int) := of_decide_eq_true (by first|(with_reducible assumption)|assumption);obtain ⟨go90, co90, eo90, gb90, gl90, cl90, HG90⟩ := Kd.R_form HO_6.out (by omega);(first|cases eo90|(injection eo90 with ea_ en_ ec_;(first|subst ea_|(injection ea_ with ea_;subst ea_));subst ec_;clear en_));have GB90 := Aside0.mk gb90;have GG90 := Aside0.mk HG90;clear gb90 gl90 HG90;obtain ⟨hx90_0, hf90_0⟩ := Kd.R_celln false HO_6.out (x11_4 : Int) p90 q90;replace p90 := eq_true p90;replace q90 := eq_true q90;obtain ⟨hy91_, hz91_⟩ := Kd.R_celln false HO_6.out (x11_4 : Int) (of_decide_eq_true (by first|(with_reducible assumption)|assumption)) (of_decide_eq_true (by first|(with_reducible assumption)|assumption));have HP91 := Kd.R_putg HO_6.out (x11_4 : Int) true)|((with_reducible refine gate_store (t := 4) (p := 134) rfl ?_);refine store_event (t := 4) (p := 134) (v := ?vo_w92) (w1 := (wr.setCell ⟨go90, (x11_4 : Int).toNat, none⟩ (.bool true))) ?hg ?ho ?hn ?hr ?_;(case ho => rfl);(case hg => rfl);(case hn => rfl);(case hr => first|(go_simp;done)|(go_simp;rfl));intro w92 hw;have hg : wr.grownBy w92 (some go90) := (by rw [hw];exact HP91.2);have hp_ : Kd.R Kd.bool 4 w92 w.heap.size (fun _ => True) (.slice (some ⟨go90, 0, none⟩) x6_4.length co90) y156 := (by rw [hw, Ny156.out];exact HP91.1);clear HP91;have n0_ := Aside0.mk (Kd.R_over' (v := (.slice (some ⟨go90, 0, none⟩) x6_4.length co90)) (by (with_reducible repeat (first|apply Kd.R_alloc|apply Kd.R_drewN|apply Kd.R_drew));exact HO_3.out) (Kd.R_typed HO_6.out) (by decide) hg);have n1_ := Aside0.mk (hp_);have n2_ := Aside0.mk ((by rw [hw];exact below_set (HB.out) GB90.out : Below w.heap.size w w92));clear HO_3;clear HO_6;clear HB;have HO_3 := n0_;have HO_6 := n1_;have HB := n2_;clear n0_ n1_ n2_;clear hg hw hp_))
                     go_roundg k4
                     case measure => have := HK1.out;have := HK2.out;have := HK3.out;have := HK4.out;omega
                     case rel => exact ⟨(y156), (x10_4), (wrap64 (x11_4 - 1)), (by first|rfl|(simp;done)|(simp [*];done)), (by first|rfl|(simp;done)|(simp [*];done)), H', ⟨by have := HK1.out;have := HK2.out;have := HK3.out;have := HK4.out;omega⟩, ⟨by (with_reducible repeat (first|apply Kd.R_alloc|apply Kd.R_drewN|apply Kd.R_drew));exact HO_3.out⟩, ⟨by (with_reducible repeat (first|apply Kd.R_alloc|apply Kd.R_drewN|apply Kd.R_drew));exact HO_6.out⟩, ⟨by repeat (first|(with_reducible first|exact HB.out|apply below_alloc|apply pw_below_drewN|apply below_drew1)|exact HB.out)⟩⟩
                    ·rw [if_neg c89] at H
                     exact absurd H (by simp)
                   ·rw [if_neg c88] at H
                    have c88b0 : decide (((rd_T88 t146 x11_4).f2) ≤ x10_4) = false := decide_eq_false c88
                    clear c88
                    have H' := Aside0.mk H
                    clear H
                    have p152 : 0 ≤ (x11_4 : Int) := of_decide_eq_true (by first|(with_reducible assumption)|assumption)
                    have q152 : x11_4 < (t146.length : Int) := of_decide_eq_true (by first|(with_reducible assumption)|assumption)
                    obtain ⟨ad152, e152, hx152_0, hx152_1, hx152_2⟩ := at_T88 (Kd.R_reads' HO_3.out).2.2 x11_4 p152 q152
                    cases e152
                    replace p152 := eq_true p152
                    replace q152 := eq_true q152
                    go_wp2_with (first|((with_reducible refine gate_callee (f := 64) rfl ?_);refine goesL_ (some 113) rfl rfl Try.func64 (by kernel_rfl) rfl #[.int .i64 ((rd_T88 t146 x11_4).f0)] rfl (by (try simp only [List.map_toArray, List.map_cons, List.map_nil]);first|done|rfl|(simp only [List.length_drop, List.length_take];rfl)) ?_;(with_reducible refine (spec_l17HasTo.calls ((rd_T88 t146 x11_4).f0) true _ A85.out).mono ?_);rintro e w' ⟨rfl, ⟨nd, rfl⟩⟩;refine ⟨_, rfl, ?_⟩;have p154 : 0 ≤ (x11_4 : Int) := of_decide_eq_true (by first|(with_reducible assumption)|assumption);have q154 : x11_4 < (t146.length : Int) := of_decide_eq_true (by first|(with_reducible assumption)|assumption);obtain ⟨ad154, e154, hx154_0, hx154_1, hx154_2⟩ := at_T88 (Kd.R_reads' HO_3.out).2.2 x11_4 p154 q154;obtain rfl : ad152 = ad154 := (by injection e154);replace p154 := eq_true p154;replace q154 := eq_true q154;have p155 : 0 ≤ (x11_4 : Int) := of_decide_eq_true (by first|(with_reducible assumption)|assumption);have q155 : x11_4 < (t146.length : Int) := of_decide_eq_true (by first|(with_reducible assumption)|assumption);obtain ⟨ad155, e155, hx155_0, hx155_1, hx155_2⟩ := at_T88 (Kd.R_reads' HO_3.out).2.2 x11_4 p155 q155;obtain rfl : ad152 = ad155 := (by injection e155);replace p155 := eq_true p155;replace q155 := eq_true q155))
                    go_roundg k4
                    case measure => have := HK1.out;have := HK2.out;have := HK3.out;have := HK4.out;omega
                    case rel => exact ⟨(x6_4), (x11_4), (wrap64 (x11_4 - 1)), (by first|rfl|(simp;done)|(simp [*];done)), (by first|rfl|(simp;done)|(simp [*];done)), H', ⟨by have := HK1.out;have := HK2.out;have := HK3.out;have := HK4.out;omega⟩, ⟨by (with_reducible repeat (first|apply Kd.R_alloc|apply Kd.R_drewN|apply Kd.R_drew));exact HO_3.out⟩, ⟨by (with_reducible repeat (first|apply Kd.R_alloc|apply Kd.R_drewN|apply Kd.R_drew));exact HO_6.out⟩, ⟨by repeat (first|(with_reducible first|exact HB.out|apply below_alloc|apply pw_below_drewN|apply below_drew1)|exact HB.out)⟩⟩
                  ·rw [if_neg c87] at H
                   have c87b0 : decide (x11_4 < ((rd_T88 t146 x11_4).f2)) = false := decide_eq_false c87
                   clear c87
                   have H' := Aside0.mk H
                   clear H
                   have p152 : 0 ≤ (x11_4 : Int) := of_decide_eq_true (by first|(with_reducible assumption)|assumption)
                   have q152 : x11_4 < (t146.length : Int) := of_decide_eq_true (by first|(with_reducible assumption)|assumption)
                   obtain ⟨ad152, e152, hx152_0, hx152_1, hx152_2⟩ := at_T88 (Kd.R_reads' HO_3.out).2.2 x11_4 p152 q152
                   cases e152
                   replace p152 := eq_true p152
                   replace q152 := eq_true q152
                   go_wp2_with (first|((with_reducible refine gate_callee (f := 64) rfl ?_);refine goesL_ (some 113) rfl rfl Try.func64 (by kernel_rfl) rfl #[.int .i64 ((rd_T88 t146 x11_4).f0)] rfl (by (try simp only [List.map_toArray, List.map_cons, List.map_nil]);first|done|rfl|(simp only [List.length_drop, List.length_take];rfl)) ?_;(with_reducible refine (spec_l17HasTo.calls ((rd_T88 t146 x11_4).f0) true _ A85.out).mono ?_);rintro e w' ⟨rfl, ⟨nd, rfl⟩⟩;refine ⟨_, rfl, ?_⟩;have p154 : 0 ≤ (x11_4 : Int) := of_decide_eq_true (by first|(with_reducible assumption)|assumption);have q154 : x11_4 < (t146.length : Int) := of_decide_eq_true (by first|(with_reducible assumption)|assumption);obtain ⟨ad154, e154, hx154_0, hx154_1, hx154_2⟩ := at_T88 (Kd.R_reads' HO_3.out).2.2 x11_4 p154 q154;obtain rfl : ad152 = ad154 := (by injection e154);replace p154 := eq_true p154;replace q154 := eq_true q154))
                   go_roundg k4
                   case measure => have := HK1.out;have := HK2.out;have := HK3.out;have := HK4.out;omega
                   case rel => exact ⟨(x6_4), (x11_4), (wrap64 (x11_4 - 1)), (by first|rfl|(simp;done)|(simp [*];done)), (by first|rfl|(simp;done)|(simp [*];done)), H', ⟨by have := HK1.out;have := HK2.out;have := HK3.out;have := HK4.out;omega⟩, ⟨by (with_reducible repeat (first|apply Kd.R_alloc|apply Kd.R_drewN|apply Kd.R_drew));exact HO_3.out⟩, ⟨by (with_reducible repeat (first|apply Kd.R_alloc|apply Kd.R_drewN|apply Kd.R_drew));exact HO_6.out⟩, ⟨by repeat (first|(with_reducible first|exact HB.out|apply below_alloc|apply pw_below_drewN|apply below_drew1)|exact HB.out)⟩⟩
                 ·replace c86 := Bool.eq_false_iff.mpr c86
                  subst c86
                  have H1 : (spec_l17Tight.l3 k4 t146 x6_4 x11_4 (wrap64 (x11_4 - 1))) = some r := by rw [if_neg (show ¬ (false = true) by decide)] at H;exact H
                  clear H
                  have H := H1
                  clear H1
                  have H' := Aside0.mk H
                  clear H
                  have p152 : 0 ≤ (x11_4 : Int) := of_decide_eq_true (by first|(with_reducible assumption)|assumption)
                  have q152 : x11_4 < (t146.length : Int) := of_decide_eq_true (by first|(with_reducible assumption)|assumption)
                  obtain ⟨ad152, e152, hx152_0, hx152_1, hx152_2⟩ := at_T88 (Kd.R_reads' HO_3.out).2.2 x11_4 p152 q152
                  cases e152
                  replace p152 := eq_true p152
                  replace q152 := eq_true q152
                  go_wp2_with (first|((with_reducible refine gate_callee (f := 64) rfl ?_);refine goesL_ (some 113) rfl rfl Try.func64 (by kernel_rfl) rfl #[.int .i64 ((rd_T88 t146 x11_4).f0)] rfl (by (try simp only [List.map_toArray, List.map_cons, List.map_nil]);first|done|rfl|(simp only [List.length_drop, List.length_take];rfl)) ?_;(with_reducible refine (spec_l17HasTo.calls ((rd_T88 t146 x11_4).f0) false _ A85.out).mono ?_);rintro e w' ⟨rfl, ⟨nd, rfl⟩⟩;refine ⟨_, rfl, ?_⟩))
                  go_roundg k4
                  case measure => have := HK1.out;have := HK2.out;have := HK3.out;have := HK4.out;omega
                  case rel => exact ⟨(x6_4), (x11_4), (wrap64 (x11_4 - 1)), (by first|rfl|(simp;done)|(simp [*];done)), (by first|rfl|(simp;done)|(simp [*];done)), H', ⟨by have := HK1.out;have := HK2.out;have := HK3.out;have := HK4.out;omega⟩, ⟨by (with_reducible repeat (first|apply Kd.R_alloc|apply Kd.R_drewN|apply Kd.R_drew));exact HO_3.out⟩, ⟨by (with_reducible repeat (first|apply Kd.R_alloc|apply Kd.R_drewN|apply Kd.R_drew));exact HO_6.out⟩, ⟨by repeat (first|(with_reducible first|exact HB.out|apply below_alloc|apply pw_below_drewN|apply below_drew1)|exact HB.out)⟩⟩
                ·rw [if_neg c84] at H
                 exact absurd H (by simp)
               ·rw [if_neg c83] at H
                exact absurd H (by simp)
              ·rw [if_neg c82] at H
               have c82b0 : decide (0 ≤ x11_4) = false := decide_eq_false c82
               clear c82
               replace H := Option.bind_eq_some_iff.mp H
               obtain ⟨t157, A930, H⟩ := H
               replace H : (some t157) = some r := H
               have A93 := Aside0.mk A930
               clear A930
               obtain rfl := Option.some.inj H
               obtain ⟨Ao94, co94, eo94⟩ := Kd.R_slice HO_6.out
               subst eo94
               go_wp2_with (first|((with_reducible refine gate_callee (f := 113) rfl ?_);refine goesL_ (some 138) rfl rfl Try.func113 (by kernel_rfl) rfl #[.slice Ao79 t146.length co79, .slice Ao94 x6_4.length co94] rfl (by (try simp only [List.map_toArray, List.map_cons, List.map_nil]);first|done|rfl|(simp only [List.length_drop, List.length_take];rfl)) ?_;(with_reducible refine (spec_l17Without.calls k4 _ _ t146 _ _ x6_4 t157 _ ?side1 ?side2 ?side3 ?side4 A93.out).mono ?_);(case side1 => repeat (first|exact (Kd.R_reads' HO_3.out).2.2|(with_reducible refine Kd.C_alloc ?_ _)|(with_reducible refine Kd.C_drewN ?_ _)|(with_reducible refine Kd.C_drew ?_)));(case side2 => exact (Kd.R_reads' HO_3.out).2.1);(case side3 => repeat (first|exact (Kd.R_reads' HO_6.out).2.2|(with_reducible refine Kd.C_alloc ?_ _)|(with_reducible refine Kd.C_drewN ?_ _)|(with_reducible refine Kd.C_drew ?_)));(case side4 => exact (Kd.R_reads' HO_6.out).2.1);rintro e w95 ⟨v158, rfl, ho0, hb⟩;refine ⟨_, rfl, ?_⟩;have n0_ := Aside0.mk (Kd.R_elder' (by (with_reducible repeat (first|apply Kd.R_alloc|apply Kd.R_drewN|apply Kd.R_drew));exact HO_3.out) (Kd.R_base ho0) hb);have n1_ := Aside0.mk (Kd.R_below (by (with_reducible repeat (first|apply Kd.R_alloc|apply Kd.R_drewN|apply Kd.R_drew));exact HO_6.out) hb);have n2_ := Aside0.mk (Kd.R_lower (Kd.R_new' ho0 (Kd.R_lt (by (with_reducible repeat (first|apply Kd.R_alloc|apply Kd.R_drewN|apply Kd.R_drew));exact HO_3.out))) (below_size (by repeat (first|(with_reducible first|exact HB.out|apply below_alloc|apply pw_below_drewN|apply below_drew1)|exact HB.out))));have n3_ := Aside0.mk (below_step (by repeat (first|(with_reducible first|exact HB.out|apply below_alloc|apply pw_below_drewN|apply below_drew1)|exact HB.out)) hb);clear HO_3;clear HO_6;clear HB;have HO_3 := n0_;have HO_6 := n1_;have HO159 := n2_;have HB := n3_;clear n0_ n1_ n2_ n3_;(try clear hb);(try clear hb2);(try clear hk);(try clear hi);(try clear ho0)))
               go_ret
               exact ⟨_, by first|rfl|(simp [errW_none, errW_some] <;> rfl)|(simp [*, errW_none, errW_some] <;> rfl), by (with_reducible repeat (first|apply Kd.R_alloc|apply Kd.R_drewN|apply Kd.R_drew));exact Kd.R_mono HO159.out (fun _ hk => trivial), by repeat (first|(with_reducible first|exact HB.out|apply below_alloc|apply pw_below_drewN|apply below_drew1)|exact HB.out)⟩
           ·rw [if_neg c75] at H
            exact absurd H (by simp)
          ·rw [if_neg c74] at H
           exact absurd H (by simp)

end Go.Proofs.Ytgdecbliegelmaa.Q
