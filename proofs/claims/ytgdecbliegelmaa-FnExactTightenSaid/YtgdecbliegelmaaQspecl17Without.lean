-- Written by wip/myprint.py (this session's) over the kit's print: not the kit's own print.
import Derived.Test.YtgdecbliegelmaaQ0
import Derived.Test.YtgdecbliegelmaaQspecl17HasTo
namespace Go.Proofs.Ytgdecbliegelmaa.Q
open Go.RowKit Go.Proofs.YtgdecbliegelmaaW.PrintWords Go.Proofs.YtgdecbliegelmaaW.PrintLast Go.Proofs.YtgdecbliegelmaaW.PrintMore
attribute [local go_sem] max2_int min2_int max_two min_two max_three min_three max_four min_four   -- for this text's walks alone
set_option linter.unusedVariables false
set_option linter.unusedSimpArgs false

/-! ### spec_l17Without: function 113 -/
mutual
def spec_l17Without.l0 : Nat → List (S88) → List Bool → List Int → Int → Int → Option ((List (S88)))
  | 0, _, _, _, _, _ => none
  | k + 1, x0, x1, x5, x6, x7 => if x7 < (x0.length : Int) then (if x5.length < 17592186044416 then ((some (x5 ++ [x6] : List Int)).bind fun y104 => (if 0 ≤ x7 then (if x7 < (x1.length : Int) then (if rdOf false x1 x7 = true then (spec_l17Without.l0 k x0 x1 y104 x6 (wrap64 (x7 + 1))) else (spec_l17Without.l0 k x0 x1 y104 (wrap64 (x6 + 1)) (wrap64 (x7 + 1)))) else (none)) else (none))) else (none)) else (spec_l17Without.l1 k x0 x1 x5 (([] : List (S88))) 0)
def spec_l17Without.l1 : Nat → List (S88) → List Bool → List Int → List (S88) → Int → Option ((List (S88)))
  | 0, _, _, _, _, _ => none
  | k + 1, x0, x1, x5, x8, x9 => if x9 < (x0.length : Int) then (if 0 ≤ x9 then (if x9 < (x1.length : Int) then (if rdOf false x1 x9 = true then (spec_l17Without.l1 k x0 x1 x5 x8 (wrap64 (x9 + 1))) else ((spec_l17HasTo.f ((rd_T88 x0 x9).f0)).bind fun t114 => (if t114 = true then (if 0 ≤ ((rd_T88 x0 x9).f2) then (if ((rd_T88 x0 x9).f2) < (x5.length : Int) then (if x8.length < 5864062014805 then (spec_l17Without.l1 k x0 x1 x5 (x8 ++ [(⟨(rd_T88 x0 x9).f0, (rd_T88 x0 x9).f1, rd x5 ((rd_T88 x0 x9).f2)⟩ : S88)]) (wrap64 (x9 + 1))) else (none)) else (none)) else (none)) else (if x8.length < 5864062014805 then (spec_l17Without.l1 k x0 x1 x5 (x8 ++ [(⟨(rd_T88 x0 x9).f0, (rd_T88 x0 x9).f1, (rd_T88 x0 x9).f2⟩ : S88)]) (wrap64 (x9 + 1))) else (none))))) else (none)) else (none)) else (some x8)
end
def spec_l17Without.f (k : Nat) (l0 : List (S88)) (l1 : List Bool) : Option ((List (S88))) := spec_l17Without.l0 k l0 l1 (([] : List Int)) 0 0
theorem spec_l17Without.mono_l : ∀ k, (∀ y0 y1 y2 y3 y4, LeO (spec_l17Without.l0 k y0 y1 y2 y3 y4) (spec_l17Without.l0 (k + 1) y0 y1 y2 y3 y4)) ∧ (∀ y0 y1 y2 y3 y4, LeO (spec_l17Without.l1 k y0 y1 y2 y3 y4) (spec_l17Without.l1 (k + 1) y0 y1 y2 y3 y4))
  | 0 => ⟨fun _ _ _ _ _ r h => by simp [spec_l17Without.l0] at h, fun _ _ _ _ _ r h => by simp [spec_l17Without.l1] at h⟩
  | k + 1 => by
    obtain ⟨ih0, ih1⟩ := spec_l17Without.mono_l k
    refine ⟨?_, ?_⟩
    · intro y0 y1 y2 y3 y4
      unfold spec_l17Without.l0
      repeat' first
      | (with_reducible exact ih0 _ _ _ _ _)
      | (with_reducible exact ih1 _ _ _ _ _)
      | (with_reducible exact LeO.refl _)
      | (with_reducible exact LeO.none _)
      | (with_reducible refine LeO.ite ?_ ?_)
      | (with_reducible refine LeO.bind ?_ (fun _ => ?_))
      | exact ih0 _ _ _ _ _
      | exact ih1 _ _ _ _ _
      | exact LeO.none _
      | refine LeO.ite ?_ ?_
      | refine LeO.bind ?_ (fun _ => ?_)
    · intro y0 y1 y2 y3 y4
      unfold spec_l17Without.l1
      repeat' first
      | (with_reducible exact ih0 _ _ _ _ _)
      | (with_reducible exact ih1 _ _ _ _ _)
      | (with_reducible exact LeO.refl _)
      | (with_reducible exact LeO.none _)
      | (with_reducible refine LeO.ite ?_ ?_)
      | (with_reducible refine LeO.bind ?_ (fun _ => ?_))
      | exact ih0 _ _ _ _ _
      | exact ih1 _ _ _ _ _
      | exact LeO.none _
      | refine LeO.ite ?_ ?_
      | refine LeO.bind ?_ (fun _ => ?_)
theorem spec_l17Without.mono : ∀ a0 a1 k, LeO (spec_l17Without.f k a0 a1) (spec_l17Without.f (k + 1) a0 a1) := by
  intro a0 a1 k
  obtain ⟨ih0, ih1⟩ := spec_l17Without.mono_l k
  unfold spec_l17Without.f
  repeat' first
      | (with_reducible exact ih0 _ _ _ _ _)
      | (with_reducible exact ih1 _ _ _ _ _)
      | (with_reducible exact LeO.refl _)
      | (with_reducible exact LeO.none _)
      | (with_reducible refine LeO.ite ?_ ?_)
      | (with_reducible refine LeO.bind ?_ (fun _ => ?_))
      | exact ih0 _ _ _ _ _
      | exact ih1 _ _ _ _ _
      | exact LeO.none _
      | refine LeO.ite ?_ ?_
      | refine LeO.bind ?_ (fun _ => ?_)
theorem spec_l17Without.with_blk {P : Program} {ops : Array Oper} {rest : List Oper} {a : Act} {Q : Exit → Act → World → Prop} {W : World} {g : Nat} {cs : Array Value} {t : TypeId} (hb : W.heap[g]? = some (.cells cs t (0, 0))) (h : (∀ i, W.cell? ⟨g, i, none⟩ = cs[i]?) → wpList P ops Q rest a W) : wpList P ops Q rest a W := h (fun i => blk_cell hb i)
set_option maxHeartbeats 8000000 in
set_option maxRecDepth 100000 in
theorem spec_l17Without.calls (k : Nat) (A0 : Option Addr) (c0 : Nat) (l0 : List (S88)) (A1 : Option Addr) (c1 : Nat) (l1 : List Bool) (r : List (S88)) (w : World) (hr0 : Kd.C k88 w A0 l0.length l0) (hc0 : l0.length ≤ c0) (hr1 : Kd.C Kd.bool w A1 l1.length l1) (hc1 : l1.length ≤ c1) (h : spec_l17Without.f k l0 l1 = some r) :
  Calls Try.prog 113 #[.slice A0 l0.length c0, .slice A1 l1.length c1] w fun e w' => ∃ v0_ : Value, e = .returned (v0_) ∧ Kd.R k88 88 w' w.heap.size (fun _ => True) v0_ r ∧ Below w.heap.size w w' := by
 have hu88 := Try.underlying88
 have HR0 := Aside0.mk hr0
 have HC0 := Aside0.mk hc0
 clear hr0 hc0
 have HR1 := Aside0.mk hr1
 have HC1 := Aside0.mk hc1
 clear hr1 hc1
 have HB := Aside0.mk (Below.refl w.heap.size w)
 have H : (spec_l17Without.l0 k l0 l1 (([] : List Int)) 0 0) = some r := h
 clear h
 obtain ⟨y101, hy101⟩ : ∃ y_ : List Int, y_ = (([] : List Int)) := ⟨_, rfl⟩
 replace H : (spec_l17Without.l0 k l0 l1 y101 0 0) = some r := by first|(rw [hy101];with_reducible exact H)|(have H2_ := (Option.bind_some _ _).symm.trans H;rw [hy101];with_reducible exact H2_)|(have H2_ := (Option.bind_some _ _).symm.trans H;with_reducible exact H2_)|with_reducible exact H|(rw [hy101];exact H)|exact H
 have Ny101 := Aside0.mk hy101
 clear hy101
 have H' := Aside0.mk H
 clear H
 go_enter Try.func113, Try.ntmps113
 go_wp2_with (first|((with_reducible refine gate_dst (N := 11) rfl ?_);refine Kd.R_lit (Kd.int .i64) _ 3 ?hg (N := 11) ?hd (xs := ([] : List Int)) (inner := []) (ok := fun _ => True) (okp := fun _ => True) ?hr ?hp (fun _ hk => hk) trivial (Below.refl _ _) (Nat.le_refl _) (by simp) ?_;(case hd => rfl);(case hg => rfl);(case hr => first|(go_simp;done)|(go_simp;rfl));(case hp => exact (Reps.none _ _));intro v102 w3 ho4 hb hg_ hnew_;clear hg_ hnew_;(first|rw [← Ny101.out] at ho4|(simp only [Int.reduceToNat] at ho4;rw [← Ny101.out] at ho4));have n0_ := Aside0.mk (Kd.R_lower ho4 (below_size (by repeat (first|(with_reducible first|exact HB.out|apply below_alloc|apply pw_below_drewN|apply below_drew1)|exact HB.out))));have n1_ := Aside0.mk (below_step (by repeat (first|(with_reducible first|exact HB.out|apply below_alloc|apply pw_below_drewN|apply below_drew1)|exact HB.out)) hb);clear HB;have HO103 := n0_;have HB := n1_;clear n0_ n1_;clear hb ho4))
 go_loopg [5, 6, 7] k (fun kq v5 v6 v7 w' => ∃ (x5_1 : List Int) (x6_1 : Int) (x7_1 : Int), v6 = .int .i64 x6_1 ∧ v7 = .int .i64 x7_1 ∧ Aside0 (spec_l17Without.l0 kq l0 l1 x5_1 x6_1 x7_1 = some r) ∧ Aside0 (kq ≤ k) ∧ Aside0 (Kd.R (Kd.int .i64) 3 w' w.heap.size (fun _ => True) v5 x5_1) ∧ Aside0 (Below w.heap.size w w'))
 case atStart => exact ⟨(y101), (0), (0), (by first|rfl|(simp;done)|(simp [*];done)), (by first|rfl|(simp;done)|(simp [*];done)), H', ⟨Nat.le_refl _⟩, ⟨by (with_reducible repeat (first|apply Kd.R_alloc|apply Kd.R_drewN|apply Kd.R_drew));exact HO103.out⟩, ⟨by repeat (first|(with_reducible first|exact HB.out|apply below_alloc|apply pw_below_drewN|apply below_drew1)|exact HB.out)⟩⟩
 case round =>
  clear H'
  try clear c1
  try clear p2
  obtain ⟨x5_1, x6_1, x7_1, rfl, rfl, HA, HK1, HO_5, HB⟩ := hrel
  cases gk with
  | zero => exact absurd HA.out (by simp [spec_l17Without.l0])
  | succ k1 =>
   have H := HA.out
   clear HA
   simp only [spec_l17Without.l0] at H
   by_cases c5 : x7_1 < (l0.length : Int)
   ·rw [if_pos c5] at H
    have c5b0 : decide (x7_1 < (l0.length : Int)) = true := decide_eq_true c5
    clear c5
    by_cases c6 : x5_1.length < 17592186044416
    ·rw [if_pos c6] at H
     have LMc6 := Aside0.mk c6
     clear c6
     obtain ⟨y104, hy104⟩ : ∃ y_ : List Int, y_ = (x5_1 ++ [x6_1]) := ⟨_, rfl⟩
     replace H : (if 0 ≤ x7_1 then (if x7_1 < (l1.length : Int) then (if rdOf false l1 x7_1 = true then (spec_l17Without.l0 k1 l0 l1 y104 x6_1 (wrap64 (x7_1 + 1))) else (spec_l17Without.l0 k1 l0 l1 y104 (wrap64 (x6_1 + 1)) (wrap64 (x7_1 + 1)))) else (none)) else (none)) = some r := by first|(rw [hy104];with_reducible exact H)|(have H2_ := (Option.bind_some _ _).symm.trans H;rw [hy104];with_reducible exact H2_)|(have H2_ := (Option.bind_some _ _).symm.trans H;with_reducible exact H2_)|with_reducible exact H|(rw [hy104];exact H)|exact H
     have Ny104 := Aside0.mk hy104
     clear hy104
     by_cases c7 : 0 ≤ x7_1
     ·rw [if_pos c7] at H
      have c7b0 : decide (0 ≤ x7_1) = true := decide_eq_true c7
      clear c7
      by_cases c8 : x7_1 < (l1.length : Int)
      ·rw [if_pos c8] at H
       have c8b0 : decide (x7_1 < (l1.length : Int)) = true := decide_eq_true c8
       clear c8
       obtain ⟨bq9, hbq9⟩ : ∃ b_ : Bool, b_ = (rdOf false l1 x7_1) := ⟨_, rfl⟩
       replace H : (if bq9 = true then (spec_l17Without.l0 k1 l0 l1 y104 x6_1 (wrap64 (x7_1 + 1))) else (spec_l17Without.l0 k1 l0 l1 y104 (wrap64 (x6_1 + 1)) (wrap64 (x7_1 + 1)))) = some r := by rw [← hbq9] at H;exact H
       have Nbq9 := Aside0.mk hbq9
       clear hbq9
       by_cases c10 : bq9 = true
       ·subst c10
        have H1 : (spec_l17Without.l0 k1 l0 l1 y104 x6_1 (wrap64 (x7_1 + 1))) = some r := by rw [if_pos rfl] at H;exact H
        clear H
        have H := H1
        clear H1
        have H' := Aside0.mk H
        clear H
        go_wp2_with (first|((with_reducible refine gate_builtin (b := .append) (xs := #[.tmp 18, .tmp 20]) rfl ?_);at_builtin;refine Kd.R_append (Kd.int .i64) (w0 := w) w.heap.size rfl (.tmp 18) (.tmp 20) 62 3 (.int .i64 0) 8 rfl Try.underlying62 info3 rfl (by decide) (by omega) u5 x5_1 x6_1 [.int .i64 x6_1] (fun _ => True) (fun _ => False) rfl rfl ?aP (fun _ hk => hk.elim) ?aF ?aO ?aB ?aS ?aL ?_;(case aP => exact rfl);(case aB => exact (by repeat (first|(with_reducible first|exact HB.out|apply below_alloc|apply pw_below_drewN|apply below_drew1)|exact HB.out)));(case aF => exact (fun _ _ => trivial));(case aO => exact (by (with_reducible repeat (first|apply Kd.R_alloc|apply Kd.R_drewN|apply Kd.R_drew));exact HO_5.out));(case aS => exact (below_size (by repeat (first|(with_reducible first|exact HB.out|apply below_alloc|apply pw_below_drewN|apply below_drew1)|exact HB.out))));(case aL => have := LMc6.out;omega);intro v105 w11 ho hb hg hat;rw [← Ny104.out] at ho;have n0_ := Aside0.mk (hb);have n1_ := Aside0.mk (ho);clear HB;clear HO_5;have HB := n0_;have HO106 := n1_;clear n0_ n1_;clear ho hb hg hat;have p107 : 0 ≤ (x7_1 : Int) := of_decide_eq_true (by first|(with_reducible assumption)|assumption);have q107 : x7_1 < (l1.length : Int) := of_decide_eq_true (by first|(with_reducible assumption)|assumption);obtain ⟨ad107, e107, hx107_0⟩ := Kd.at_bool HR1.out x7_1 p107 q107;(try rw [← Nbq9.out] at hx107_0);cases e107;replace hx107_0 := (HB.out.cell (World.block_lt_of_cell? w _ hx107_0)).trans hx107_0;replace p107 := eq_true p107;replace q107 := eq_true q107))
        go_roundg k1
        case measure => have := HK1.out;omega
        case rel => exact ⟨(y104), (x6_1), (wrap64 (x7_1 + 1)), (by first|rfl|(simp;done)|(simp [*];done)), (by first|rfl|(simp;done)|(simp [*];done)), H', ⟨by have := HK1.out;omega⟩, ⟨by (with_reducible repeat (first|apply Kd.R_alloc|apply Kd.R_drewN|apply Kd.R_drew));exact HO106.out⟩, ⟨by repeat (first|(with_reducible first|exact HB.out|apply below_alloc|apply pw_below_drewN|apply below_drew1)|exact HB.out)⟩⟩
       ·replace c10 := Bool.eq_false_iff.mpr c10
        subst c10
        have H1 : (spec_l17Without.l0 k1 l0 l1 y104 (wrap64 (x6_1 + 1)) (wrap64 (x7_1 + 1))) = some r := by rw [if_neg (show ¬ (false = true) by decide)] at H;exact H
        clear H
        have H := H1
        clear H1
        have H' := Aside0.mk H
        clear H
        go_wp2_with (first|((with_reducible refine gate_builtin (b := .append) (xs := #[.tmp 18, .tmp 20]) rfl ?_);at_builtin;refine Kd.R_append (Kd.int .i64) (w0 := w) w.heap.size rfl (.tmp 18) (.tmp 20) 62 3 (.int .i64 0) 8 rfl Try.underlying62 info3 rfl (by decide) (by omega) u5 x5_1 x6_1 [.int .i64 x6_1] (fun _ => True) (fun _ => False) rfl rfl ?aP (fun _ hk => hk.elim) ?aF ?aO ?aB ?aS ?aL ?_;(case aP => exact rfl);(case aB => exact (by repeat (first|(with_reducible first|exact HB.out|apply below_alloc|apply pw_below_drewN|apply below_drew1)|exact HB.out)));(case aF => exact (fun _ _ => trivial));(case aO => exact (by (with_reducible repeat (first|apply Kd.R_alloc|apply Kd.R_drewN|apply Kd.R_drew));exact HO_5.out));(case aS => exact (below_size (by repeat (first|(with_reducible first|exact HB.out|apply below_alloc|apply pw_below_drewN|apply below_drew1)|exact HB.out))));(case aL => have := LMc6.out;omega);intro v105 w12 ho hb hg hat;rw [← Ny104.out] at ho;have n0_ := Aside0.mk (hb);have n1_ := Aside0.mk (ho);clear HB;clear HO_5;have HB := n0_;have HO106 := n1_;clear n0_ n1_;clear ho hb hg hat;have p107 : 0 ≤ (x7_1 : Int) := of_decide_eq_true (by first|(with_reducible assumption)|assumption);have q107 : x7_1 < (l1.length : Int) := of_decide_eq_true (by first|(with_reducible assumption)|assumption);obtain ⟨ad107, e107, hx107_0⟩ := Kd.at_bool HR1.out x7_1 p107 q107;(try rw [← Nbq9.out] at hx107_0);cases e107;replace hx107_0 := (HB.out.cell (World.block_lt_of_cell? w _ hx107_0)).trans hx107_0;replace p107 := eq_true p107;replace q107 := eq_true q107))
        go_roundg k1
        case measure => have := HK1.out;omega
        case rel => exact ⟨(y104), (wrap64 (x6_1 + 1)), (wrap64 (x7_1 + 1)), (by first|rfl|(simp;done)|(simp [*];done)), (by first|rfl|(simp;done)|(simp [*];done)), H', ⟨by have := HK1.out;omega⟩, ⟨by (with_reducible repeat (first|apply Kd.R_alloc|apply Kd.R_drewN|apply Kd.R_drew));exact HO106.out⟩, ⟨by repeat (first|(with_reducible first|exact HB.out|apply below_alloc|apply pw_below_drewN|apply below_drew1)|exact HB.out)⟩⟩
      ·rw [if_neg c8] at H
       exact absurd H (by simp)
     ·rw [if_neg c7] at H
      exact absurd H (by simp)
    ·rw [if_neg c6] at H
     exact absurd H (by simp)
   ·rw [if_neg c5] at H
    have c5b0 : decide (x7_1 < (l0.length : Int)) = false := decide_eq_false c5
    clear c5
    obtain ⟨y108, hy108⟩ : ∃ y_ : List (S88), y_ = (([] : List (S88))) := ⟨_, rfl⟩
    replace H : (spec_l17Without.l1 k1 l0 l1 x5_1 y108 0) = some r := by first|(rw [hy108];with_reducible exact H)|(have H2_ := (Option.bind_some _ _).symm.trans H;rw [hy108];with_reducible exact H2_)|(have H2_ := (Option.bind_some _ _).symm.trans H;with_reducible exact H2_)|with_reducible exact H|(rw [hy108];exact H)|exact H
    have Ny108 := Aside0.mk hy108
    clear hy108
    have H' := Aside0.mk H
    clear H
    go_wp2_with (first|((with_reducible refine gate_dst (N := 29) rfl ?_);refine Kd.R_lit k88 _ 88 ?hg (N := 29) ?hd (xs := ([] : List (S88))) (inner := []) (ok := fun _ => True) (okp := fun _ => True) ?hr ?hp (fun _ hk => hk) trivial (Below.refl _ _) (Nat.le_refl _) (by simp) ?_;(case hd => rfl);(case hg => rfl);(case hr => first|(go_simp;done)|(go_simp;rfl));(case hp => exact (Reps.none _ _));intro v109 w13 ho14 hb hg_ hnew_;clear hg_ hnew_;(first|rw [← Ny108.out] at ho14|(simp only [Int.reduceToNat] at ho14;rw [← Ny108.out] at ho14));have n0_ := Aside0.mk (Kd.R_below (by (with_reducible repeat (first|apply Kd.R_alloc|apply Kd.R_drewN|apply Kd.R_drew));exact HO_5.out) hb);have n1_ := Aside0.mk (Kd.R_lower ho14 (below_size (by repeat (first|(with_reducible first|exact HB.out|apply below_alloc|apply pw_below_drewN|apply below_drew1)|exact HB.out))));have n2_ := Aside0.mk (below_step (by repeat (first|(with_reducible first|exact HB.out|apply below_alloc|apply pw_below_drewN|apply below_drew1)|exact HB.out)) hb);clear HO_5;clear HB;have HO_5 := n0_;have HO110 := n1_;have HB := n2_;clear n0_ n1_ n2_;clear hb ho14))
    go_loopg [8, 9] k1 (fun kq v8 v9 w' => ∃ (x8_2 : List (S88)) (x9_2 : Int), v9 = .int .i64 x9_2 ∧ Aside0 (spec_l17Without.l1 kq l0 l1 x5_1 x8_2 x9_2 = some r) ∧ Aside0 (kq ≤ k1) ∧ Aside0 (Kd.R (Kd.int .i64) 3 w' w.heap.size (fun _ => True) u5 x5_1) ∧ Aside0 (Kd.R k88 88 w' w.heap.size (fun _ => True) v8 x8_2) ∧ Aside0 (Below w.heap.size w w'))
    case atStart => exact ⟨(y108), (0), (by first|rfl|(simp;done)|(simp [*];done)), H', ⟨Nat.le_refl _⟩, ⟨by (with_reducible repeat (first|apply Kd.R_alloc|apply Kd.R_drewN|apply Kd.R_drew));exact HO_5.out⟩, ⟨by (with_reducible repeat (first|apply Kd.R_alloc|apply Kd.R_drewN|apply Kd.R_drew));exact HO110.out⟩, ⟨by repeat (first|(with_reducible first|exact HB.out|apply below_alloc|apply pw_below_drewN|apply below_drew1)|exact HB.out)⟩⟩
    case round =>
     clear H'
     try clear c1
     try clear p1
     try clear q1
     try clear hx1
     try clear p2
     try clear c5
     try clear c5b0
     try clear c6
     try clear p6
     try clear c7
     try clear c7b0
     try clear c8
     try clear c8b0
     try clear q9
     try clear c10
     try clear p10
     try clear q10
     try clear hx10
     try clear c11
     try clear hx107_0
     try clear p107
     try clear p2
     try clear q107
     obtain ⟨x8_2, x9_2, rfl, HA, HK2, HO_5, HO_8, HB⟩ := hrel
     cases gk with
     | zero => exact absurd HA.out (by simp [spec_l17Without.l1])
     | succ k2 =>
      have H := HA.out
      clear HA
      simp only [spec_l17Without.l1] at H
      by_cases c15 : x9_2 < (l0.length : Int)
      ·rw [if_pos c15] at H
       have c15b0 : decide (x9_2 < (l0.length : Int)) = true := decide_eq_true c15
       clear c15
       by_cases c16 : 0 ≤ x9_2
       ·rw [if_pos c16] at H
        have c16b0 : decide (0 ≤ x9_2) = true := decide_eq_true c16
        clear c16
        by_cases c17 : x9_2 < (l1.length : Int)
        ·rw [if_pos c17] at H
         have c17b0 : decide (x9_2 < (l1.length : Int)) = true := decide_eq_true c17
         clear c17
         obtain ⟨bq18, hbq18⟩ : ∃ b_ : Bool, b_ = (rdOf false l1 x9_2) := ⟨_, rfl⟩
         replace H : (if bq18 = true then (spec_l17Without.l1 k2 l0 l1 x5_1 x8_2 (wrap64 (x9_2 + 1))) else ((spec_l17HasTo.f ((rd_T88 l0 x9_2).f0)).bind fun t114 => (if t114 = true then (if 0 ≤ ((rd_T88 l0 x9_2).f2) then (if ((rd_T88 l0 x9_2).f2) < (x5_1.length : Int) then (if x8_2.length < 5864062014805 then (spec_l17Without.l1 k2 l0 l1 x5_1 (x8_2 ++ [(⟨(rd_T88 l0 x9_2).f0, (rd_T88 l0 x9_2).f1, rd x5_1 ((rd_T88 l0 x9_2).f2)⟩ : S88)]) (wrap64 (x9_2 + 1))) else (none)) else (none)) else (none)) else (if x8_2.length < 5864062014805 then (spec_l17Without.l1 k2 l0 l1 x5_1 (x8_2 ++ [(⟨(rd_T88 l0 x9_2).f0, (rd_T88 l0 x9_2).f1, (rd_T88 l0 x9_2).f2⟩ : S88)]) (wrap64 (x9_2 + 1))) else (none))))) = some r := by rw [← hbq18] at H;exact H
         have Nbq18 := Aside0.mk hbq18
         clear hbq18
         by_cases c19 : bq18 = true
         ·subst c19
          have H1 : (spec_l17Without.l1 k2 l0 l1 x5_1 x8_2 (wrap64 (x9_2 + 1))) = some r := by rw [if_pos rfl] at H;exact H
          clear H
          have H := H1
          clear H1
          have H' := Aside0.mk H
          clear H
          have p111 : 0 ≤ (x9_2 : Int) := of_decide_eq_true (by first|(with_reducible assumption)|assumption)
          have q111 : x9_2 < (l0.length : Int) := of_decide_eq_true (by first|(with_reducible assumption)|assumption)
          obtain ⟨ad111, e111, hx111_0, hx111_1, hx111_2⟩ := at_T88 HR0.out x9_2 p111 q111
          cases e111
          replace hx111_0 := (HB.out.cell (World.block_lt_of_cell? w _ hx111_0)).trans hx111_0
          replace hx111_1 := (HB.out.cell (World.block_lt_of_cell? w _ hx111_1)).trans hx111_1
          replace hx111_2 := (HB.out.cell (World.block_lt_of_cell? w _ hx111_2)).trans hx111_2
          replace p111 := eq_true p111
          replace q111 := eq_true q111
          go_wp2_with (first|((with_reducible refine gate_dst (N := 10) rfl ?_);refine box_event ?hg (N := 10) ?hd (cs := #[.int .i64 0, .int .i64 0, .int .i64 0]) (t := 88) ?hr ?_;(case hd => rfl);(case hg => rfl);(case hr => first|(go_simp;done)|(go_simp;rfl));intro gb112 hg w20 hbox hb;have n0_ := Aside0.mk (Kd.R_below (by (with_reducible repeat (first|apply Kd.R_alloc|apply Kd.R_drewN|apply Kd.R_drew));exact HO_5.out) hb);have n1_ := Aside0.mk (Kd.R_below (Kd.R_elderB (by (with_reducible repeat (first|apply Kd.R_alloc|apply Kd.R_drewN|apply Kd.R_drew));exact HO_8.out) gb112 (Nat.le_of_eq hg.symm)) hb);have n2_ := Aside0.mk (below_step (by repeat (first|(with_reducible first|exact HB.out|apply below_alloc|apply pw_below_drewN|apply below_drew1)|exact HB.out)) hb);have n3_ := Aside0.mk (hbox);have n4_ := Aside0.mk ((by rw [hg];exact (below_size (by repeat (first|(with_reducible first|exact HB.out|apply below_alloc|apply pw_below_drewN|apply below_drew1)|exact HB.out))) : w.heap.size ≤ gb112));have n5_ := Aside0.mk ((by rw [hg];exact (below_size (by repeat (first|(with_reducible first|exact HB.out|apply below_alloc|apply pw_below_drewN|apply below_drew1)|exact HB.out))) : w.heap.size ≤ gb112));clear HO_5;clear HO_8;clear HB;have HO_5 := n0_;have HO_8 := n1_;have HB := n2_;have BK112 := n3_;have GW112 := n4_;have GE112 := n5_;clear n0_ n1_ n2_ n3_ n4_ n5_;clear hb hbox hg;have hcz21_0 : w20.cell? ⟨gb112, 0, none⟩ = some (.int .i64 0) := (blk_cell BK112.out 0).trans rfl;have hcz21_1 : w20.cell? ⟨gb112, 1, none⟩ = some (.int .i64 0) := (blk_cell BK112.out 1).trans rfl;have hcz21_2 : w20.cell? ⟨gb112, 2, none⟩ = some (.int .i64 0) := (blk_cell BK112.out 2).trans rfl;have hfz21_0 := blk_frozen BK112.out 0;have hfz21_1 := blk_frozen BK112.out 1;have hfz21_2 := blk_frozen BK112.out 2;have p113 : 0 ≤ (x9_2 : Int) := of_decide_eq_true (by first|(with_reducible assumption)|assumption);have q113 : x9_2 < (l1.length : Int) := of_decide_eq_true (by first|(with_reducible assumption)|assumption);obtain ⟨ad113, e113, hx113_0⟩ := Kd.at_bool HR1.out x9_2 p113 q113;(try rw [← Nbq18.out] at hx113_0);cases e113;have hn113_0 : ad113.block ≠ gb112 := Nat.ne_of_lt (Nat.lt_of_lt_of_le (by have := World.block_lt_of_cell? _ _ hx113_0;first|rwa [add_block] at this|exact this) GW112.out);have hn113_1 : ad113.block ≠ gb112 := Nat.ne_of_lt (Nat.lt_of_lt_of_le (by have := World.block_lt_of_cell? _ _ hx113_0;first|rwa [add_block] at this|exact this) GW112.out);have hn113_2 : ad113.block ≠ gb112 := Nat.ne_of_lt (Nat.lt_of_lt_of_le (by have := World.block_lt_of_cell? _ _ hx113_0;first|rwa [add_block] at this|exact this) GW112.out);replace hx113_0 := (HB.out.cell (World.block_lt_of_cell? w _ hx113_0)).trans hx113_0;replace hx113_0 := (cell_far (p := ⟨gb112, 0, none⟩) (by first|(rw [add_block];exact hn113_0)|(show (Addr.add _ _).block ≠ _;rw [add_block];exact hn113_0)|exact hn113_0) (.int .i64 ((rd_T88 l0 x9_2).f0))).trans hx113_0;replace hx113_0 := (cell_far (p := ⟨gb112, 1, none⟩) (by first|(rw [add_block];exact hn113_1)|(show (Addr.add _ _).block ≠ _;rw [add_block];exact hn113_1)|exact hn113_1) (.int .i64 ((rd_T88 l0 x9_2).f1))).trans hx113_0;replace hx113_0 := (cell_far (p := ⟨gb112, 2, none⟩) (by first|(rw [add_block];exact hn113_2)|(show (Addr.add _ _).block ≠ _;rw [add_block];exact hn113_2)|exact hn113_2) (.int .i64 ((rd_T88 l0 x9_2).f2))).trans hx113_0;clear hn113_0;clear hn113_1;clear hn113_2;replace p113 := eq_true p113;replace q113 := eq_true q113))
          go_roundg k2
          case measure => have := HK1.out;have := HK2.out;omega
          case rel => exact ⟨(x8_2), (wrap64 (x9_2 + 1)), (by first|rfl|(simp;done)|(simp [*];done)), H', ⟨by have := HK1.out;have := HK2.out;omega⟩, ⟨by (with_reducible repeat (first|apply Kd.R_alloc|apply Kd.R_drewN|apply Kd.R_drew));exact Kd.R_mono (Kd.R_far (p := ⟨gb112, 2, none⟩) (Kd.R_far (p := ⟨gb112, 1, none⟩) (Kd.R_far (p := ⟨gb112, 0, none⟩) (Kd.R_types HO_5.out BK112.out (by decide)) (fun _ hk => hk.2) (.int .i64 ((rd_T88 l0 x9_2).f0))) (fun _ hk => hk.2) (.int .i64 ((rd_T88 l0 x9_2).f1))) (fun _ hk => hk.2) (.int .i64 ((rd_T88 l0 x9_2).f2))) (fun _ hk => trivial)⟩, ⟨by (with_reducible repeat (first|apply Kd.R_alloc|apply Kd.R_drewN|apply Kd.R_drew));exact Kd.R_mono (Kd.R_far (p := ⟨gb112, 2, none⟩) (Kd.R_far (p := ⟨gb112, 1, none⟩) (Kd.R_far (p := ⟨gb112, 0, none⟩) (Kd.R_mono HO_8.out (fun k_ hk => (⟨hk, hk.2⟩ : _ ∧ k_ ≠ gb112))) (fun _ hk => hk.2) (.int .i64 ((rd_T88 l0 x9_2).f0))) (fun _ hk => hk.2) (.int .i64 ((rd_T88 l0 x9_2).f1))) (fun _ hk => hk.2) (.int .i64 ((rd_T88 l0 x9_2).f2))) (fun _ hk => trivial)⟩, ⟨by repeat (first|(with_reducible first|exact HB.out|apply below_alloc|apply pw_below_drewN|apply below_drew1|refine below_set ?_ GE112.out)|exact HB.out)⟩⟩
         ·replace c19 := Bool.eq_false_iff.mpr c19
          subst c19
          have H1 : ((spec_l17HasTo.f ((rd_T88 l0 x9_2).f0)).bind fun t114 => (if t114 = true then (if 0 ≤ ((rd_T88 l0 x9_2).f2) then (if ((rd_T88 l0 x9_2).f2) < (x5_1.length : Int) then (if x8_2.length < 5864062014805 then (spec_l17Without.l1 k2 l0 l1 x5_1 (x8_2 ++ [(⟨(rd_T88 l0 x9_2).f0, (rd_T88 l0 x9_2).f1, rd x5_1 ((rd_T88 l0 x9_2).f2)⟩ : S88)]) (wrap64 (x9_2 + 1))) else (none)) else (none)) else (none)) else (if x8_2.length < 5864062014805 then (spec_l17Without.l1 k2 l0 l1 x5_1 (x8_2 ++ [(⟨(rd_T88 l0 x9_2).f0, (rd_T88 l0 x9_2).f1, (rd_T88 l0 x9_2).f2⟩ : S88)]) (wrap64 (x9_2 + 1))) else (none)))) = some r := by rw [if_neg (show ¬ (false = true) by decide)] at H;exact H
          clear H
          have H := H1
          clear H1
          replace H := Option.bind_eq_some_iff.mp H
          obtain ⟨t114, A220, H⟩ := H
          replace H : (if t114 = true then (if 0 ≤ ((rd_T88 l0 x9_2).f2) then (if ((rd_T88 l0 x9_2).f2) < (x5_1.length : Int) then (if x8_2.length < 5864062014805 then (spec_l17Without.l1 k2 l0 l1 x5_1 (x8_2 ++ [(⟨(rd_T88 l0 x9_2).f0, (rd_T88 l0 x9_2).f1, rd x5_1 ((rd_T88 l0 x9_2).f2)⟩ : S88)]) (wrap64 (x9_2 + 1))) else (none)) else (none)) else (none)) else (if x8_2.length < 5864062014805 then (spec_l17Without.l1 k2 l0 l1 x5_1 (x8_2 ++ [(⟨(rd_T88 l0 x9_2).f0, (rd_T88 l0 x9_2).f1, (rd_T88 l0 x9_2).f2⟩ : S88)]) (wrap64 (x9_2 + 1))) else (none))) = some r := H
          have A22 := Aside0.mk A220
          clear A220
          by_cases c23 : t114 = true
          ·subst c23
           have H1 : (if 0 ≤ ((rd_T88 l0 x9_2).f2) then (if ((rd_T88 l0 x9_2).f2) < (x5_1.length : Int) then (if x8_2.length < 5864062014805 then (spec_l17Without.l1 k2 l0 l1 x5_1 (x8_2 ++ [(⟨(rd_T88 l0 x9_2).f0, (rd_T88 l0 x9_2).f1, rd x5_1 ((rd_T88 l0 x9_2).f2)⟩ : S88)]) (wrap64 (x9_2 + 1))) else (none)) else (none)) else (none)) = some r := by rw [if_pos rfl] at H;exact H
           clear H
           have H := H1
           clear H1
           by_cases c24 : 0 ≤ ((rd_T88 l0 x9_2).f2)
           ·rw [if_pos c24] at H
            have c24b0 : decide (0 ≤ ((rd_T88 l0 x9_2).f2)) = true := decide_eq_true c24
            clear c24
            by_cases c25 : ((rd_T88 l0 x9_2).f2) < (x5_1.length : Int)
            ·rw [if_pos c25] at H
             have c25b0 : decide (((rd_T88 l0 x9_2).f2) < (x5_1.length : Int)) = true := decide_eq_true c25
             clear c25
             by_cases c26 : x8_2.length < 5864062014805
             ·rw [if_pos c26] at H
              have LMc26 := Aside0.mk c26
              clear c26
              obtain ⟨y116, hy116⟩ : ∃ y_ : List (S88), y_ = (x8_2 ++ [(⟨(rd_T88 l0 x9_2).f0, (rd_T88 l0 x9_2).f1, rd x5_1 ((rd_T88 l0 x9_2).f2)⟩ : S88)]) := ⟨_, rfl⟩
              replace H : (spec_l17Without.l1 k2 l0 l1 x5_1 y116 (wrap64 (x9_2 + 1))) = some r := by first|(rw [hy116];with_reducible exact H)|(have H2_ := (Option.bind_some _ _).symm.trans H;rw [hy116];with_reducible exact H2_)|(have H2_ := (Option.bind_some _ _).symm.trans H;with_reducible exact H2_)|with_reducible exact H|(rw [hy116];exact H)|exact H
              have Ny116 := Aside0.mk hy116
              clear hy116
              have H' := Aside0.mk H
              clear H
              have p111 : 0 ≤ (x9_2 : Int) := of_decide_eq_true (by first|(with_reducible assumption)|assumption)
              have q111 : x9_2 < (l0.length : Int) := of_decide_eq_true (by first|(with_reducible assumption)|assumption)
              obtain ⟨ad111, e111, hx111_0, hx111_1, hx111_2⟩ := at_T88 HR0.out x9_2 p111 q111
              cases e111
              replace hx111_0 := (HB.out.cell (World.block_lt_of_cell? w _ hx111_0)).trans hx111_0
              replace hx111_1 := (HB.out.cell (World.block_lt_of_cell? w _ hx111_1)).trans hx111_1
              replace hx111_2 := (HB.out.cell (World.block_lt_of_cell? w _ hx111_2)).trans hx111_2
              replace p111 := eq_true p111
              replace q111 := eq_true q111
              go_wp2_with (first|((with_reducible refine gate_dst (N := 10) rfl ?_);refine box_event ?hg (N := 10) ?hd (cs := #[.int .i64 0, .int .i64 0, .int .i64 0]) (t := 88) ?hr ?_;(case hd => rfl);(case hg => rfl);(case hr => first|(go_simp;done)|(go_simp;rfl));intro gb112 hg w27 hbox hb;have n0_ := Aside0.mk (Kd.R_below (by (with_reducible repeat (first|apply Kd.R_alloc|apply Kd.R_drewN|apply Kd.R_drew));exact HO_5.out) hb);have n1_ := Aside0.mk (Kd.R_below (Kd.R_elderB (by (with_reducible repeat (first|apply Kd.R_alloc|apply Kd.R_drewN|apply Kd.R_drew));exact HO_8.out) gb112 (Nat.le_of_eq hg.symm)) hb);have n2_ := Aside0.mk (below_step (by repeat (first|(with_reducible first|exact HB.out|apply below_alloc|apply pw_below_drewN|apply below_drew1)|exact HB.out)) hb);have n3_ := Aside0.mk (hbox);have n4_ := Aside0.mk ((by rw [hg];exact (below_size (by repeat (first|(with_reducible first|exact HB.out|apply below_alloc|apply pw_below_drewN|apply below_drew1)|exact HB.out))) : w.heap.size ≤ gb112));have n5_ := Aside0.mk ((by rw [hg];exact (below_size (by repeat (first|(with_reducible first|exact HB.out|apply below_alloc|apply pw_below_drewN|apply below_drew1)|exact HB.out))) : w.heap.size ≤ gb112));clear HO_5;clear HO_8;clear HB;have HO_5 := n0_;have HO_8 := n1_;have HB := n2_;have BK112 := n3_;have GW112 := n4_;have GE112 := n5_;clear n0_ n1_ n2_ n3_ n4_ n5_;clear hb hbox hg;have hcz28_0 : w27.cell? ⟨gb112, 0, none⟩ = some (.int .i64 0) := (blk_cell BK112.out 0).trans rfl;have hcz28_1 : w27.cell? ⟨gb112, 1, none⟩ = some (.int .i64 0) := (blk_cell BK112.out 1).trans rfl;have hcz28_2 : w27.cell? ⟨gb112, 2, none⟩ = some (.int .i64 0) := (blk_cell BK112.out 2).trans rfl;have hfz28_0 := blk_frozen BK112.out 0;have hfz28_1 := blk_frozen BK112.out 1;have hfz28_2 := blk_frozen BK112.out 2;have p113 : 0 ≤ (x9_2 : Int) := of_decide_eq_true (by first|(with_reducible assumption)|assumption);have q113 : x9_2 < (l1.length : Int) := of_decide_eq_true (by first|(with_reducible assumption)|assumption);obtain ⟨ad113, e113, hx113_0⟩ := Kd.at_bool HR1.out x9_2 p113 q113;(try rw [← Nbq18.out] at hx113_0);cases e113;have hn113_0 : ad113.block ≠ gb112 := Nat.ne_of_lt (Nat.lt_of_lt_of_le (by have := World.block_lt_of_cell? _ _ hx113_0;first|rwa [add_block] at this|exact this) GW112.out);have hn113_1 : ad113.block ≠ gb112 := Nat.ne_of_lt (Nat.lt_of_lt_of_le (by have := World.block_lt_of_cell? _ _ hx113_0;first|rwa [add_block] at this|exact this) GW112.out);have hn113_2 : ad113.block ≠ gb112 := Nat.ne_of_lt (Nat.lt_of_lt_of_le (by have := World.block_lt_of_cell? _ _ hx113_0;first|rwa [add_block] at this|exact this) GW112.out);replace hx113_0 := (HB.out.cell (World.block_lt_of_cell? w _ hx113_0)).trans hx113_0;replace hx113_0 := (cell_far (p := ⟨gb112, 0, none⟩) (by first|(rw [add_block];exact hn113_0)|(show (Addr.add _ _).block ≠ _;rw [add_block];exact hn113_0)|exact hn113_0) (.int .i64 ((rd_T88 l0 x9_2).f0))).trans hx113_0;replace hx113_0 := (cell_far (p := ⟨gb112, 1, none⟩) (by first|(rw [add_block];exact hn113_1)|(show (Addr.add _ _).block ≠ _;rw [add_block];exact hn113_1)|exact hn113_1) (.int .i64 ((rd_T88 l0 x9_2).f1))).trans hx113_0;replace hx113_0 := (cell_far (p := ⟨gb112, 2, none⟩) (by first|(rw [add_block];exact hn113_2)|(show (Addr.add _ _).block ≠ _;rw [add_block];exact hn113_2)|exact hn113_2) (.int .i64 ((rd_T88 l0 x9_2).f2))).trans hx113_0;clear hn113_0;clear hn113_1;clear hn113_2;replace p113 := eq_true p113;replace q113 := eq_true q113)|((with_reducible refine gate_callee (f := 64) rfl ?_);refine goesL_ (some 46) rfl rfl Try.func64 (by kernel_rfl) rfl #[.int .i64 ((rd_T88 l0 x9_2).f0)] rfl (by (try simp only [List.map_toArray, List.map_cons, List.map_nil]);first|done|rfl|(simp only [List.length_drop, List.length_take];rfl)) ?_;(with_reducible refine (spec_l17HasTo.calls ((rd_T88 l0 x9_2).f0) true _ A22.out).mono ?_);rintro e w' ⟨rfl, ⟨nd, rfl⟩⟩;refine ⟨_, rfl, ?_⟩;try (refine spec_l17Without.with_blk (g := gb112) (cs := #[.int .i64 ((rd_T88 l0 x9_2).f0), .int .i64 ((rd_T88 l0 x9_2).f1), .int .i64 ((rd_T88 l0 x9_2).f2)]) (t := 88) ?bk (fun hcq_ => ?_);(case bk => ((with_reducible repeat (first|refine blk_drewN ?_ _|refine blk_drew ?_|refine blk_alloc ?_ _));refine blk_put (cs := #[.int .i64 ((rd_T88 l0 x9_2).f0), .int .i64 ((rd_T88 l0 x9_2).f1), .int .i64 0]) ?_ 2 _ rfl;(with_reducible repeat (first|refine blk_drewN ?_ _|refine blk_drew ?_|refine blk_alloc ?_ _));refine blk_put (cs := #[.int .i64 ((rd_T88 l0 x9_2).f0), .int .i64 0, .int .i64 0]) ?_ 1 _ rfl;(with_reducible repeat (first|refine blk_drewN ?_ _|refine blk_drew ?_|refine blk_alloc ?_ _));refine blk_put (cs := #[.int .i64 0, .int .i64 0, .int .i64 0]) ?_ 0 _ rfl;(with_reducible repeat (first|refine blk_drewN ?_ _|refine blk_drew ?_|refine blk_alloc ?_ _));exact BK112.out));have hcqgb112_0 := (hcq_ 0).trans (show _ = some (.int .i64 ((rd_T88 l0 x9_2).f0)) from rfl);try simp only [World.drewN_drewN] at hcqgb112_0;have hcqgb112_1 := (hcq_ 1).trans (show _ = some (.int .i64 ((rd_T88 l0 x9_2).f1)) from rfl);try simp only [World.drewN_drewN] at hcqgb112_1;have hcqgb112_2 := (hcq_ 2).trans (show _ = some (.int .i64 ((rd_T88 l0 x9_2).f2)) from rfl);try simp only [World.drewN_drewN] at hcqgb112_2;clear hcq_);obtain ⟨Ao29, co29, eo29⟩ := Kd.R_slice HO_5.out;subst eo29;have p115 : 0 ≤ (((rd_T88 l0 x9_2).f2) : Int) := of_decide_eq_true (by first|(with_reducible assumption)|assumption);have q115 : ((rd_T88 l0 x9_2).f2) < (x5_1.length : Int) := of_decide_eq_true (by first|(with_reducible assumption)|assumption);obtain ⟨ad115, e115, hx115_0⟩ := Kd.at_int (Kd.R_reads' HO_5.out).2.2 ((rd_T88 l0 x9_2).f2) p115 q115;cases e115;have hn115_0 : ad115.block ≠ gb112 := Kd.own_blk (Kd.R_ne HO_5.out BK112.out (by decide));have hn115_1 : ad115.block ≠ gb112 := Kd.own_blk (Kd.R_ne HO_5.out BK112.out (by decide));have hn115_2 : ad115.block ≠ gb112 := Kd.own_blk (Kd.R_ne HO_5.out BK112.out (by decide));replace hx115_0 := (cell_far (p := ⟨gb112, 0, none⟩) (by first|(rw [add_block];exact hn115_0)|(show (Addr.add _ _).block ≠ _;rw [add_block];exact hn115_0)|exact hn115_0) (.int .i64 ((rd_T88 l0 x9_2).f0))).trans hx115_0;replace hx115_0 := (cell_far (p := ⟨gb112, 1, none⟩) (by first|(rw [add_block];exact hn115_1)|(show (Addr.add _ _).block ≠ _;rw [add_block];exact hn115_1)|exact hn115_1) (.int .i64 ((rd_T88 l0 x9_2).f1))).trans hx115_0;replace hx115_0 := (cell_far (p := ⟨gb112, 2, none⟩) (by first|(rw [add_block];exact hn115_2)|(show (Addr.add _ _).block ≠ _;rw [add_block];exact hn115_2)|exact hn115_2) (.int .i64 ((rd_T88 l0 x9_2).f2))).trans hx115_0;clear hn115_0;clear hn115_1;clear hn115_2;replace p115 := eq_true p115;replace q115 := eq_true q115)|((with_reducible refine gate_builtin (b := .append) (xs := #[.tmp 53, .tmp 55]) rfl ?_);at_builtin;refine Kd.R_append k88 (w0 := w) w.heap.size rfl (.tmp 53) (.tmp 55) 36 88 (.agg #[(.int .i64 0), (.int .i64 0), (.int .i64 0)]) 24 rfl Try.underlying36 info88 rfl (by decide) (by omega) u8 x8_2 (⟨(rd_T88 l0 x9_2).f0, (rd_T88 l0 x9_2).f1, rd x5_1 ((rd_T88 l0 x9_2).f2)⟩ : S88) [.int .i64 ((rd_T88 l0 x9_2).f0), .int .i64 ((rd_T88 l0 x9_2).f1), .int .i64 (rd x5_1 ((rd_T88 l0 x9_2).f2))] (fun k_ => k_ ≠ gb112) (fun _ => False) rfl (by first|(go_simp;done)|(go_simp;rfl)) ?aP (fun _ hk => hk.elim) ?aF ?aO ?aB ?aS ?aL ?_;(case aP => exact k88_mkM _ _ _ (⟨(rd_T88 l0 x9_2).f0, (rd_T88 l0 x9_2).f1, rd x5_1 ((rd_T88 l0 x9_2).f2)⟩ : S88));(case aB => exact (by repeat (first|(with_reducible first|exact HB.out|apply below_alloc|apply pw_below_drewN|apply below_drew1|refine below_set ?_ GE112.out)|exact HB.out)));(case aF => exact (fun k_ hk => Kd.freshB (g := gb112) (o := .cells #[.int .i64 ((rd_T88 l0 x9_2).f0), .int .i64 ((rd_T88 l0 x9_2).f1), .int .i64 (rd x5_1 ((rd_T88 l0 x9_2).f2))] 88 (0, 0)) (by (with_reducible repeat (first|refine blk_drewN ?_ _|refine blk_drew ?_|refine blk_alloc ?_ _));refine blk_put (cs := #[.int .i64 ((rd_T88 l0 x9_2).f0), .int .i64 ((rd_T88 l0 x9_2).f1), .int .i64 ((rd_T88 l0 x9_2).f2)]) ?_ 2 _ rfl;(with_reducible repeat (first|refine blk_drewN ?_ _|refine blk_drew ?_|refine blk_alloc ?_ _));refine blk_put (cs := #[.int .i64 ((rd_T88 l0 x9_2).f0), .int .i64 ((rd_T88 l0 x9_2).f1), .int .i64 0]) ?_ 2 _ rfl;(with_reducible repeat (first|refine blk_drewN ?_ _|refine blk_drew ?_|refine blk_alloc ?_ _));refine blk_put (cs := #[.int .i64 ((rd_T88 l0 x9_2).f0), .int .i64 0, .int .i64 0]) ?_ 1 _ rfl;(with_reducible repeat (first|refine blk_drewN ?_ _|refine blk_drew ?_|refine blk_alloc ?_ _));refine blk_put (cs := #[.int .i64 0, .int .i64 0, .int .i64 0]) ?_ 0 _ rfl;(with_reducible repeat (first|refine blk_drewN ?_ _|refine blk_drew ?_|refine blk_alloc ?_ _));exact BK112.out) k_ hk));(case aO => exact (by (with_reducible repeat (first|apply Kd.R_alloc|apply Kd.R_drewN|apply Kd.R_drew));exact Kd.R_mono (Kd.R_far (p := ⟨gb112, 2, none⟩) (Kd.R_far (p := ⟨gb112, 2, none⟩) (Kd.R_far (p := ⟨gb112, 1, none⟩) (Kd.R_far (p := ⟨gb112, 0, none⟩) (Kd.R_mono HO_8.out (fun k_ hk => (⟨hk, hk.2⟩ : _ ∧ k_ ≠ gb112))) (fun _ hk => hk.2) (.int .i64 ((rd_T88 l0 x9_2).f0))) (fun _ hk => hk.2) (.int .i64 ((rd_T88 l0 x9_2).f1))) (fun _ hk => hk.2) (.int .i64 ((rd_T88 l0 x9_2).f2))) (fun _ hk => hk.2) (.int .i64 (rd x5_1 ((rd_T88 l0 x9_2).f2)))) (fun _ hk => hk.1.2)));(case aS => exact (below_size (by repeat (first|(with_reducible first|exact HB.out|apply below_alloc|apply pw_below_drewN|apply below_drew1|refine below_set ?_ GE112.out)|exact HB.out))));(case aL => have := LMc26.out;omega);intro v117 w30 ho hb hg hat;rw [← Ny116.out] at ho;have n0_ := Aside0.mk (Kd.R_over' (by (with_reducible repeat (first|apply Kd.R_alloc|apply Kd.R_drewN|apply Kd.R_drew));exact (Kd.R_mono (Kd.R_far (p := ⟨gb112, 2, none⟩) (Kd.R_far (p := ⟨gb112, 2, none⟩) (Kd.R_far (p := ⟨gb112, 1, none⟩) (Kd.R_far (p := ⟨gb112, 0, none⟩) (Kd.R_types HO_5.out BK112.out (by decide)) (fun _ hk => hk.2) (.int .i64 ((rd_T88 l0 x9_2).f0))) (fun _ hk => hk.2) (.int .i64 ((rd_T88 l0 x9_2).f1))) (fun _ hk => hk.2) (.int .i64 ((rd_T88 l0 x9_2).f2))) (fun _ hk => hk.2) (.int .i64 (rd x5_1 ((rd_T88 l0 x9_2).f2)))) (fun _ h_ => h_.1))) (Kd.R_typed (by (with_reducible repeat (first|apply Kd.R_alloc|apply Kd.R_drewN|apply Kd.R_drew));exact (Kd.R_mono (Kd.R_far (p := ⟨gb112, 2, none⟩) (Kd.R_far (p := ⟨gb112, 2, none⟩) (Kd.R_far (p := ⟨gb112, 1, none⟩) (Kd.R_far (p := ⟨gb112, 0, none⟩) (Kd.R_mono HO_8.out (fun k_ hk => (⟨hk, hk.2⟩ : _ ∧ k_ ≠ gb112))) (fun _ hk => hk.2) (.int .i64 ((rd_T88 l0 x9_2).f0))) (fun _ hk => hk.2) (.int .i64 ((rd_T88 l0 x9_2).f1))) (fun _ hk => hk.2) (.int .i64 ((rd_T88 l0 x9_2).f2))) (fun _ hk => hk.2) (.int .i64 (rd x5_1 ((rd_T88 l0 x9_2).f2)))) (fun _ h_ => h_.1)))) (by decide) hg);have n1_ := Aside0.mk (blk_grown (g := gb112) (o := .cells #[.int .i64 ((rd_T88 l0 x9_2).f0), .int .i64 ((rd_T88 l0 x9_2).f1), .int .i64 (rd x5_1 ((rd_T88 l0 x9_2).f2))] 88 (0, 0)) (by (with_reducible repeat (first|refine blk_drewN ?_ _|refine blk_drew ?_|refine blk_alloc ?_ _));refine blk_put (cs := #[.int .i64 ((rd_T88 l0 x9_2).f0), .int .i64 ((rd_T88 l0 x9_2).f1), .int .i64 ((rd_T88 l0 x9_2).f2)]) ?_ 2 _ rfl;(with_reducible repeat (first|refine blk_drewN ?_ _|refine blk_drew ?_|refine blk_alloc ?_ _));refine blk_put (cs := #[.int .i64 ((rd_T88 l0 x9_2).f0), .int .i64 ((rd_T88 l0 x9_2).f1), .int .i64 0]) ?_ 2 _ rfl;(with_reducible repeat (first|refine blk_drewN ?_ _|refine blk_drew ?_|refine blk_alloc ?_ _));refine blk_put (cs := #[.int .i64 ((rd_T88 l0 x9_2).f0), .int .i64 0, .int .i64 0]) ?_ 1 _ rfl;(with_reducible repeat (first|refine blk_drewN ?_ _|refine blk_drew ?_|refine blk_alloc ?_ _));refine blk_put (cs := #[.int .i64 0, .int .i64 0, .int .i64 0]) ?_ 0 _ rfl;(with_reducible repeat (first|refine blk_drewN ?_ _|refine blk_drew ?_|refine blk_alloc ?_ _));exact BK112.out) hg (Kd.R_away HO_8.out (fun _ hk => hk.2)));have n2_ := Aside0.mk (hb);have n3_ := Aside0.mk (ho);clear HO_5;clear BK112;clear HB;clear HO_8;have HO_5 := n0_;have BK112 := n1_;have HB := n2_;have HO118 := n3_;clear n0_ n1_ n2_ n3_;clear ho hb hg hat))
              go_roundg k2
              case measure => have := HK1.out;have := HK2.out;omega
              case rel => exact ⟨(y116), (wrap64 (x9_2 + 1)), (by first|rfl|(simp;done)|(simp [*];done)), H', ⟨by have := HK1.out;have := HK2.out;omega⟩, ⟨by (with_reducible repeat (first|apply Kd.R_alloc|apply Kd.R_drewN|apply Kd.R_drew));exact HO_5.out⟩, ⟨by (with_reducible repeat (first|apply Kd.R_alloc|apply Kd.R_drewN|apply Kd.R_drew));exact Kd.R_mono HO118.out (fun _ hk => trivial)⟩, ⟨by repeat (first|(with_reducible first|exact HB.out|apply below_alloc|apply pw_below_drewN|apply below_drew1|refine below_set ?_ GE112.out)|exact HB.out)⟩⟩
             ·rw [if_neg c26] at H
              exact absurd H (by simp)
            ·rw [if_neg c25] at H
             exact absurd H (by simp)
           ·rw [if_neg c24] at H
            exact absurd H (by simp)
          ·replace c23 := Bool.eq_false_iff.mpr c23
           subst c23
           have H1 : (if x8_2.length < 5864062014805 then (spec_l17Without.l1 k2 l0 l1 x5_1 (x8_2 ++ [(⟨(rd_T88 l0 x9_2).f0, (rd_T88 l0 x9_2).f1, (rd_T88 l0 x9_2).f2⟩ : S88)]) (wrap64 (x9_2 + 1))) else (none)) = some r := by rw [if_neg (show ¬ (false = true) by decide)] at H;exact H
           clear H
           have H := H1
           clear H1
           by_cases c31 : x8_2.length < 5864062014805
           ·rw [if_pos c31] at H
            have LMc31 := Aside0.mk c31
            clear c31
            obtain ⟨y119, hy119⟩ : ∃ y_ : List (S88), y_ = (x8_2 ++ [(⟨(rd_T88 l0 x9_2).f0, (rd_T88 l0 x9_2).f1, (rd_T88 l0 x9_2).f2⟩ : S88)]) := ⟨_, rfl⟩
            replace H : (spec_l17Without.l1 k2 l0 l1 x5_1 y119 (wrap64 (x9_2 + 1))) = some r := by first|(rw [hy119];with_reducible exact H)|(have H2_ := (Option.bind_some _ _).symm.trans H;rw [hy119];with_reducible exact H2_)|(have H2_ := (Option.bind_some _ _).symm.trans H;with_reducible exact H2_)|with_reducible exact H|(rw [hy119];exact H)|exact H
            have Ny119 := Aside0.mk hy119
            clear hy119
            have H' := Aside0.mk H
            clear H
            have p111 : 0 ≤ (x9_2 : Int) := of_decide_eq_true (by first|(with_reducible assumption)|assumption)
            have q111 : x9_2 < (l0.length : Int) := of_decide_eq_true (by first|(with_reducible assumption)|assumption)
            obtain ⟨ad111, e111, hx111_0, hx111_1, hx111_2⟩ := at_T88 HR0.out x9_2 p111 q111
            cases e111
            replace hx111_0 := (HB.out.cell (World.block_lt_of_cell? w _ hx111_0)).trans hx111_0
            replace hx111_1 := (HB.out.cell (World.block_lt_of_cell? w _ hx111_1)).trans hx111_1
            replace hx111_2 := (HB.out.cell (World.block_lt_of_cell? w _ hx111_2)).trans hx111_2
            replace p111 := eq_true p111
            replace q111 := eq_true q111
            go_wp2_with (first|((with_reducible refine gate_dst (N := 10) rfl ?_);refine box_event ?hg (N := 10) ?hd (cs := #[.int .i64 0, .int .i64 0, .int .i64 0]) (t := 88) ?hr ?_;(case hd => rfl);(case hg => rfl);(case hr => first|(go_simp;done)|(go_simp;rfl));intro gb112 hg w32 hbox hb;have n0_ := Aside0.mk (Kd.R_below (by (with_reducible repeat (first|apply Kd.R_alloc|apply Kd.R_drewN|apply Kd.R_drew));exact HO_5.out) hb);have n1_ := Aside0.mk (Kd.R_below (Kd.R_elderB (by (with_reducible repeat (first|apply Kd.R_alloc|apply Kd.R_drewN|apply Kd.R_drew));exact HO_8.out) gb112 (Nat.le_of_eq hg.symm)) hb);have n2_ := Aside0.mk (below_step (by repeat (first|(with_reducible first|exact HB.out|apply below_alloc|apply pw_below_drewN|apply below_drew1)|exact HB.out)) hb);have n3_ := Aside0.mk (hbox);have n4_ := Aside0.mk ((by rw [hg];exact (below_size (by repeat (first|(with_reducible first|exact HB.out|apply below_alloc|apply pw_below_drewN|apply below_drew1)|exact HB.out))) : w.heap.size ≤ gb112));have n5_ := Aside0.mk ((by rw [hg];exact (below_size (by repeat (first|(with_reducible first|exact HB.out|apply below_alloc|apply pw_below_drewN|apply below_drew1)|exact HB.out))) : w.heap.size ≤ gb112));clear HO_5;clear HO_8;clear HB;have HO_5 := n0_;have HO_8 := n1_;have HB := n2_;have BK112 := n3_;have GW112 := n4_;have GE112 := n5_;clear n0_ n1_ n2_ n3_ n4_ n5_;clear hb hbox hg;have hcz33_0 : w32.cell? ⟨gb112, 0, none⟩ = some (.int .i64 0) := (blk_cell BK112.out 0).trans rfl;have hcz33_1 : w32.cell? ⟨gb112, 1, none⟩ = some (.int .i64 0) := (blk_cell BK112.out 1).trans rfl;have hcz33_2 : w32.cell? ⟨gb112, 2, none⟩ = some (.int .i64 0) := (blk_cell BK112.out 2).trans rfl;have hfz33_0 := blk_frozen BK112.out 0;have hfz33_1 := blk_frozen BK112.out 1;have hfz33_2 := blk_frozen BK112.out 2;have p113 : 0 ≤ (x9_2 : Int) := of_decide_eq_true (by first|(with_reducible assumption)|assumption);have q113 : x9_2 < (l1.length : Int) := of_decide_eq_true (by first|(with_reducible assumption)|assumption);obtain ⟨ad113, e113, hx113_0⟩ := Kd.at_bool HR1.out x9_2 p113 q113;(try rw [← Nbq18.out] at hx113_0);cases e113;have hn113_0 : ad113.block ≠ gb112 := Nat.ne_of_lt (Nat.lt_of_lt_of_le (by have := World.block_lt_of_cell? _ _ hx113_0;first|rwa [add_block] at this|exact this) GW112.out);have hn113_1 : ad113.block ≠ gb112 := Nat.ne_of_lt (Nat.lt_of_lt_of_le (by have := World.block_lt_of_cell? _ _ hx113_0;first|rwa [add_block] at this|exact this) GW112.out);have hn113_2 : ad113.block ≠ gb112 := Nat.ne_of_lt (Nat.lt_of_lt_of_le (by have := World.block_lt_of_cell? _ _ hx113_0;first|rwa [add_block] at this|exact this) GW112.out);replace hx113_0 := (HB.out.cell (World.block_lt_of_cell? w _ hx113_0)).trans hx113_0;replace hx113_0 := (cell_far (p := ⟨gb112, 0, none⟩) (by first|(rw [add_block];exact hn113_0)|(show (Addr.add _ _).block ≠ _;rw [add_block];exact hn113_0)|exact hn113_0) (.int .i64 ((rd_T88 l0 x9_2).f0))).trans hx113_0;replace hx113_0 := (cell_far (p := ⟨gb112, 1, none⟩) (by first|(rw [add_block];exact hn113_1)|(show (Addr.add _ _).block ≠ _;rw [add_block];exact hn113_1)|exact hn113_1) (.int .i64 ((rd_T88 l0 x9_2).f1))).trans hx113_0;replace hx113_0 := (cell_far (p := ⟨gb112, 2, none⟩) (by first|(rw [add_block];exact hn113_2)|(show (Addr.add _ _).block ≠ _;rw [add_block];exact hn113_2)|exact hn113_2) (.int .i64 ((rd_T88 l0 x9_2).f2))).trans hx113_0;clear hn113_0;clear hn113_1;clear hn113_2;replace p113 := eq_true p113;replace q113 := eq_true q113)|((with_reducible refine gate_callee (f := 64) rfl ?_);refine goesL_ (some 46) rfl rfl Try.func64 (by kernel_rfl) rfl #[.int .i64 ((rd_T88 l0 x9_2).f0)] rfl (by (try simp only [List.map_toArray, List.map_cons, List.map_nil]);first|done|rfl|(simp only [List.length_drop, List.length_take];rfl)) ?_;(with_reducible refine (spec_l17HasTo.calls ((rd_T88 l0 x9_2).f0) false _ A22.out).mono ?_);rintro e w' ⟨rfl, ⟨nd, rfl⟩⟩;refine ⟨_, rfl, ?_⟩)|((with_reducible refine gate_builtin (b := .append) (xs := #[.tmp 53, .tmp 55]) rfl ?_);at_builtin;refine Kd.R_append k88 (w0 := w) w.heap.size rfl (.tmp 53) (.tmp 55) 36 88 (.agg #[(.int .i64 0), (.int .i64 0), (.int .i64 0)]) 24 rfl Try.underlying36 info88 rfl (by decide) (by omega) u8 x8_2 (⟨(rd_T88 l0 x9_2).f0, (rd_T88 l0 x9_2).f1, (rd_T88 l0 x9_2).f2⟩ : S88) [.int .i64 ((rd_T88 l0 x9_2).f0), .int .i64 ((rd_T88 l0 x9_2).f1), .int .i64 ((rd_T88 l0 x9_2).f2)] (fun k_ => k_ ≠ gb112) (fun _ => False) rfl (by first|(go_simp;done)|(go_simp;rfl)) ?aP (fun _ hk => hk.elim) ?aF ?aO ?aB ?aS ?aL ?_;(case aP => exact k88_mkM _ _ _ (⟨(rd_T88 l0 x9_2).f0, (rd_T88 l0 x9_2).f1, (rd_T88 l0 x9_2).f2⟩ : S88));(case aB => exact (by repeat (first|(with_reducible first|exact HB.out|apply below_alloc|apply pw_below_drewN|apply below_drew1|refine below_set ?_ GE112.out)|exact HB.out)));(case aF => exact (fun k_ hk => Kd.freshB (g := gb112) (o := .cells #[.int .i64 ((rd_T88 l0 x9_2).f0), .int .i64 ((rd_T88 l0 x9_2).f1), .int .i64 ((rd_T88 l0 x9_2).f2)] 88 (0, 0)) (by (with_reducible repeat (first|refine blk_drewN ?_ _|refine blk_drew ?_|refine blk_alloc ?_ _));refine blk_put (cs := #[.int .i64 ((rd_T88 l0 x9_2).f0), .int .i64 ((rd_T88 l0 x9_2).f1), .int .i64 0]) ?_ 2 _ rfl;(with_reducible repeat (first|refine blk_drewN ?_ _|refine blk_drew ?_|refine blk_alloc ?_ _));refine blk_put (cs := #[.int .i64 ((rd_T88 l0 x9_2).f0), .int .i64 0, .int .i64 0]) ?_ 1 _ rfl;(with_reducible repeat (first|refine blk_drewN ?_ _|refine blk_drew ?_|refine blk_alloc ?_ _));refine blk_put (cs := #[.int .i64 0, .int .i64 0, .int .i64 0]) ?_ 0 _ rfl;(with_reducible repeat (first|refine blk_drewN ?_ _|refine blk_drew ?_|refine blk_alloc ?_ _));exact BK112.out) k_ hk));(case aO => exact (by (with_reducible repeat (first|apply Kd.R_alloc|apply Kd.R_drewN|apply Kd.R_drew));exact Kd.R_mono (Kd.R_far (p := ⟨gb112, 2, none⟩) (Kd.R_far (p := ⟨gb112, 1, none⟩) (Kd.R_far (p := ⟨gb112, 0, none⟩) (Kd.R_mono HO_8.out (fun k_ hk => (⟨hk, hk.2⟩ : _ ∧ k_ ≠ gb112))) (fun _ hk => hk.2) (.int .i64 ((rd_T88 l0 x9_2).f0))) (fun _ hk => hk.2) (.int .i64 ((rd_T88 l0 x9_2).f1))) (fun _ hk => hk.2) (.int .i64 ((rd_T88 l0 x9_2).f2))) (fun _ hk => hk.1.2)));(case aS => exact (below_size (by repeat (first|(with_reducible first|exact HB.out|apply below_alloc|apply pw_below_drewN|apply below_drew1|refine below_set ?_ GE112.out)|exact HB.out))));(case aL => have := LMc31.out;omega);intro v120 w34 ho hb hg hat;rw [← Ny119.out] at ho;have n0_ := Aside0.mk (Kd.R_over' (by (with_reducible repeat (first|apply Kd.R_alloc|apply Kd.R_drewN|apply Kd.R_drew));exact (Kd.R_mono (Kd.R_far (p := ⟨gb112, 2, none⟩) (Kd.R_far (p := ⟨gb112, 1, none⟩) (Kd.R_far (p := ⟨gb112, 0, none⟩) (Kd.R_types HO_5.out BK112.out (by decide)) (fun _ hk => hk.2) (.int .i64 ((rd_T88 l0 x9_2).f0))) (fun _ hk => hk.2) (.int .i64 ((rd_T88 l0 x9_2).f1))) (fun _ hk => hk.2) (.int .i64 ((rd_T88 l0 x9_2).f2))) (fun _ h_ => h_.1))) (Kd.R_typed (by (with_reducible repeat (first|apply Kd.R_alloc|apply Kd.R_drewN|apply Kd.R_drew));exact (Kd.R_mono (Kd.R_far (p := ⟨gb112, 2, none⟩) (Kd.R_far (p := ⟨gb112, 1, none⟩) (Kd.R_far (p := ⟨gb112, 0, none⟩) (Kd.R_mono HO_8.out (fun k_ hk => (⟨hk, hk.2⟩ : _ ∧ k_ ≠ gb112))) (fun _ hk => hk.2) (.int .i64 ((rd_T88 l0 x9_2).f0))) (fun _ hk => hk.2) (.int .i64 ((rd_T88 l0 x9_2).f1))) (fun _ hk => hk.2) (.int .i64 ((rd_T88 l0 x9_2).f2))) (fun _ h_ => h_.1)))) (by decide) hg);have n1_ := Aside0.mk (blk_grown (g := gb112) (o := .cells #[.int .i64 ((rd_T88 l0 x9_2).f0), .int .i64 ((rd_T88 l0 x9_2).f1), .int .i64 ((rd_T88 l0 x9_2).f2)] 88 (0, 0)) (by (with_reducible repeat (first|refine blk_drewN ?_ _|refine blk_drew ?_|refine blk_alloc ?_ _));refine blk_put (cs := #[.int .i64 ((rd_T88 l0 x9_2).f0), .int .i64 ((rd_T88 l0 x9_2).f1), .int .i64 0]) ?_ 2 _ rfl;(with_reducible repeat (first|refine blk_drewN ?_ _|refine blk_drew ?_|refine blk_alloc ?_ _));refine blk_put (cs := #[.int .i64 ((rd_T88 l0 x9_2).f0), .int .i64 0, .int .i64 0]) ?_ 1 _ rfl;(with_reducible repeat (first|refine blk_drewN ?_ _|refine blk_drew ?_|refine blk_alloc ?_ _));refine blk_put (cs := #[.int .i64 0, .int .i64 0, .int .i64 0]) ?_ 0 _ rfl;(with_reducible repeat (first|refine blk_drewN ?_ _|refine blk_drew ?_|refine blk_alloc ?_ _));exact BK112.out) hg (Kd.R_away HO_8.out (fun _ hk => hk.2)));have n2_ := Aside0.mk (hb);have n3_ := Aside0.mk (ho);clear HO_5;clear BK112;clear HB;clear HO_8;have HO_5 := n0_;have BK112 := n1_;have HB := n2_;have HO121 := n3_;clear n0_ n1_ n2_ n3_;clear ho hb hg hat))
            go_roundg k2
            case measure => have := HK1.out;have := HK2.out;omega
            case rel => exact ⟨(y119), (wrap64 (x9_2 + 1)), (by first|rfl|(simp;done)|(simp [*];done)), H', ⟨by have := HK1.out;have := HK2.out;omega⟩, ⟨by (with_reducible repeat (first|apply Kd.R_alloc|apply Kd.R_drewN|apply Kd.R_drew));exact HO_5.out⟩, ⟨by (with_reducible repeat (first|apply Kd.R_alloc|apply Kd.R_drewN|apply Kd.R_drew));exact Kd.R_mono HO121.out (fun _ hk => trivial)⟩, ⟨by repeat (first|(with_reducible first|exact HB.out|apply below_alloc|apply pw_below_drewN|apply below_drew1|refine below_set ?_ GE112.out)|exact HB.out)⟩⟩
           ·rw [if_neg c31] at H
            exact absurd H (by simp)
        ·rw [if_neg c17] at H
         exact absurd H (by simp)
       ·rw [if_neg c16] at H
        exact absurd H (by simp)
      ·rw [if_neg c15] at H
       have c15b0 : decide (x9_2 < (l0.length : Int)) = false := decide_eq_false c15
       clear c15
       obtain rfl := Option.some.inj H
       go_wp2
       go_ret
       exact ⟨_, by first|rfl|(simp [errW_none, errW_some] <;> rfl)|(simp [*, errW_none, errW_some] <;> rfl), by (with_reducible repeat (first|apply Kd.R_alloc|apply Kd.R_drewN|apply Kd.R_drew));exact HO_8.out, by repeat (first|(with_reducible first|exact HB.out|apply below_alloc|apply pw_below_drewN|apply below_drew1)|exact HB.out)⟩

end Go.Proofs.Ytgdecbliegelmaa.Q
