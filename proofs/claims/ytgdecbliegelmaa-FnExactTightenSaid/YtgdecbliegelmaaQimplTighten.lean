-- Written by wip/myprint.py (this session's) over the kit's print: not the kit's own print.
import Derived.Test.YtgdecbliegelmaaQ0
import Derived.Test.YtgdecbliegelmaaQimpljumps
import Derived.Test.YtgdecbliegelmaaQimplProgramOK
import Derived.Test.YtgdecbliegelmaaQimpllanding
namespace Go.Proofs.Ytgdecbliegelmaa.Q
open Go.RowKit Go.Proofs.YtgdecbliegelmaaW.PrintWords Go.Proofs.YtgdecbliegelmaaW.PrintLast Go.Proofs.YtgdecbliegelmaaW.PrintMore
attribute [local go_sem] max2_int min2_int max_two min_two max_three min_three max_four min_four   -- for this text's walks alone
set_option linter.unusedVariables false
set_option linter.unusedSimpArgs false

/-! ### impl_Tighten: function 38 -/
mutual
def impl_Tighten.l0 : Nat → List (S88) → List (S88) → Int → Int → Option ((List (S88)) × Int)
  | 0, _, _, _, _ => none
  | k + 1, x0, x4, x23, x24 => if x24 < x23 then (if 0 ≤ x24 then (if x24 < (x4.length : Int) then ((impl_jumps.f ((rd_T88 x4 x24).f0)).bind fun t106 => (if t106 = true then ((impl_landing.f k x0 ((rd_T88 x4 x24).f2)).bind fun t108 => (impl_Tighten.l0 k x0 (x4.set (x24 : Int).toNat (⟨(rd_T88 x4 x24).f0, (rd_T88 x4 x24).f1, t108⟩ : S88)) x23 (wrap64 (x24 + 1)))) else (impl_Tighten.l0 k x0 x4 x23 (wrap64 (x24 + 1))))) else (none)) else (none)) else (if 0 ≤ (x4.length : Int) then (if ((x4.length : Int) : Int).toNat ≤ 281474976710656 then (impl_Tighten.l1 k x4 (List.replicate ((x4.length : Int) : Int).toNat false) (([0] : List Int))) else (none)) else (none))
def impl_Tighten.l1 : Nat → List (S88) → List Bool → List Int → Option ((List (S88)) × Int)
  | 0, _, _, _ => none
  | k + 1, x4, x6, x7 => if (x7.length : Int) > 0 then (if 0 ≤ (wrap64 ((x7.length : Int) - 1)) then (if (wrap64 ((x7.length : Int) - 1)) < (x7.length : Int) then (if (wrap64 ((x7.length : Int) - 1)) ≤ (x7.length : Int) then ((some (x7.take ((wrap64 ((x7.length : Int) - 1)) : Int).toNat : List Int)).bind fun y117 => (if 0 ≤ (rd x7 (wrap64 ((x7.length : Int) - 1))) then (if (rd x7 (wrap64 ((x7.length : Int) - 1))) < (x6.length : Int) then (if rdOf false x6 (rd x7 (wrap64 ((x7.length : Int) - 1))) = true then (impl_Tighten.l1 k x4 x6 y117) else ((some (x6.set ((rd x7 (wrap64 ((x7.length : Int) - 1))) : Int).toNat true : List Bool)).bind fun y121 => (if (rd x7 (wrap64 ((x7.length : Int) - 1))) < (x4.length : Int) then ((impl_jumps.f ((rd_T88 x4 (rd x7 (wrap64 ((x7.length : Int) - 1)))).f0)).bind fun t123 => (if t123 = true then (if y117.length < 17592186044416 then ((some (y117 ++ [(rd_T88 x4 (rd x7 (wrap64 ((x7.length : Int) - 1)))).f2] : List Int)).bind fun y125 => (if ((rd_T88 x4 (rd x7 (wrap64 ((x7.length : Int) - 1)))).f0) = 5 then (impl_Tighten.l1 k x4 y121 y125) else (if ((rd_T88 x4 (rd x7 (wrap64 ((x7.length : Int) - 1)))).f0) = 9 then (impl_Tighten.l1 k x4 y121 y125) else (if ((rd_T88 x4 (rd x7 (wrap64 ((x7.length : Int) - 1)))).f0) = 10 then (impl_Tighten.l1 k x4 y121 y125) else (if y125.length < 17592186044416 then (impl_Tighten.l1 k x4 y121 (y125 ++ [wrap64 ((rd x7 (wrap64 ((x7.length : Int) - 1))) + 1)])) else (none)))))) else (none)) else (if ((rd_T88 x4 (rd x7 (wrap64 ((x7.length : Int) - 1)))).f0) = 5 then (impl_Tighten.l1 k x4 y121 y117) else (if ((rd_T88 x4 (rd x7 (wrap64 ((x7.length : Int) - 1)))).f0) = 9 then (impl_Tighten.l1 k x4 y121 y117) else (if ((rd_T88 x4 (rd x7 (wrap64 ((x7.length : Int) - 1)))).f0) = 10 then (impl_Tighten.l1 k x4 y121 y117) else (if y117.length < 17592186044416 then (impl_Tighten.l1 k x4 y121 (y117 ++ [wrap64 ((rd x7 (wrap64 ((x7.length : Int) - 1))) + 1)])) else (none))))))) else (none)))) else (none)) else (none))) else (none)) else (none)) else (none)) else (impl_Tighten.l2 k x4 x6 (x4.length : Int) (wrap64 ((x4.length : Int) - 1)))
def impl_Tighten.l2 : Nat → List (S88) → List Bool → Int → Int → Option ((List (S88)) × Int)
  | 0, _, _, _, _ => none
  | k + 1, x4, x6, x9, x10 => if x10 ≥ 0 then (if 0 ≤ x10 then (if x10 < (x6.length : Int) then (if rdOf false x6 x10 = true then (if x10 < (x4.length : Int) then ((impl_jumps.f ((rd_T88 x4 x10).f0)).bind fun t142 => (if t142 = true then (if ((rd_T88 x4 x10).f2) > x10 then (impl_Tighten.j3 k x4 x6 x9 x10 (decide (((rd_T88 x4 x10).f2) ≤ x9))) else (impl_Tighten.j3 k x4 x6 x9 x10 false)) else (impl_Tighten.j3 k x4 x6 x9 x10 false))) else (none)) else (impl_Tighten.j3 k x4 x6 x9 x10 false)) else (none)) else (none)) else (if 0 ≤ (x4.length : Int) then (if ((x4.length : Int) : Int).toNat ≤ 35184372088832 then (impl_Tighten.l3 k x4 x6 (List.replicate ((x4.length : Int) : Int).toNat 0) 0 (x4.length : Int) 0) else (none)) else (none))
def impl_Tighten.j3 : Nat → List (S88) → List Bool → Int → Int → Bool → Option ((List (S88)) × Int)
  | 0, _, _, _, _, _ => none
  | k + 1, x4, x6, x9, x10, x149 => if x149 = true then (if 0 ≤ x10 then (if x10 < (x6.length : Int) then ((some (x6.set (x10 : Int).toNat false : List Bool)).bind fun y145 => (if rdOf false y145 x10 = true then (impl_Tighten.l2 k x4 y145 x10 (wrap64 (x10 - 1))) else (impl_Tighten.l2 k x4 y145 x9 (wrap64 (x10 - 1))))) else (none)) else (none)) else (if 0 ≤ x10 then (if x10 < (x6.length : Int) then (if rdOf false x6 x10 = true then (impl_Tighten.l2 k x4 x6 x10 (wrap64 (x10 - 1))) else (impl_Tighten.l2 k x4 x6 x9 (wrap64 (x10 - 1)))) else (none)) else (none))
def impl_Tighten.l3 : Nat → List (S88) → List Bool → List Int → Int → Int → Int → Option ((List (S88)) × Int)
  | 0, _, _, _, _, _, _ => none
  | k + 1, x4, x6, x11, x12, x162, x163 => if x163 < x162 then (if 0 ≤ x163 then (if x163 < (x11.length : Int) then ((some (x11.set (x163 : Int).toNat x12 : List Int)).bind fun y151 => (if x163 < (x6.length : Int) then (if rdOf false x6 x163 = true then (impl_Tighten.l3 k x4 x6 y151 (wrap64 (x12 + 1)) x162 (wrap64 (x163 + 1))) else (impl_Tighten.l3 k x4 x6 y151 x12 x162 (wrap64 (x163 + 1)))) else (none))) else (none)) else (none)) else (impl_Tighten.l4 k x6 x11 ([] : List (S88)) x4 (x4.length : Int) 0)
def impl_Tighten.l4 : Nat → List Bool → List Int → List (S88) → List (S88) → Int → Int → Option ((List (S88)) × Int)
  | 0, _, _, _, _, _, _ => none
  | k + 1, x6, x11, x14, x177, x178, x179 => if x179 < x178 then (if 0 ≤ x179 then (if x179 < (x177.length : Int) then (if x179 < (x6.length : Int) then (if rdOf false x6 x179 = true then ((impl_jumps.f ((rd_T88 x177 x179).f0)).bind fun t156 => (if t156 = true then (if 0 ≤ ((rd_T88 x177 x179).f2) then (if ((rd_T88 x177 x179).f2) < (x11.length : Int) then (if x14.length < 5864062014805 then (impl_Tighten.l4 k x6 x11 (x14 ++ [(⟨(rd_T88 x177 x179).f0, (rd_T88 x177 x179).f1, rd x11 ((rd_T88 x177 x179).f2)⟩ : S88)]) x177 x178 (wrap64 (x179 + 1))) else (none)) else (none)) else (none)) else (if x14.length < 5864062014805 then (impl_Tighten.l4 k x6 x11 (x14 ++ [(⟨(rd_T88 x177 x179).f0, (rd_T88 x177 x179).f1, (rd_T88 x177 x179).f2⟩ : S88)]) x177 x178 (wrap64 (x179 + 1))) else (none)))) else (impl_Tighten.l4 k x6 x11 x14 x177 x178 (wrap64 (x179 + 1)))) else (none)) else (none)) else (none)) else (some (x14, 0))
end
def impl_Tighten.f (k : Nat) (l0 : List (S88)) : Option ((List (S88)) × Int) := (impl_ProgramOK.f k l0).bind fun t101 => (if t101 = true then (if ([] : List (S88)).length + l0.length < 5864062014805 then ((some (([] : List (S88)) ++ l0 : List (S88))).bind fun y102 => (impl_Tighten.l0 k l0 y102 (y102.length : Int) 0)) else (none)) else (some (([] : List (S88)), 1)))
theorem impl_Tighten.mono_l : ∀ k, (∀ y0 y1 y2 y3, LeO (impl_Tighten.l0 k y0 y1 y2 y3) (impl_Tighten.l0 (k + 1) y0 y1 y2 y3)) ∧ (∀ y0 y1 y2, LeO (impl_Tighten.l1 k y0 y1 y2) (impl_Tighten.l1 (k + 1) y0 y1 y2)) ∧ (∀ y0 y1 y2 y3, LeO (impl_Tighten.l2 k y0 y1 y2 y3) (impl_Tighten.l2 (k + 1) y0 y1 y2 y3)) ∧ (∀ y0 y1 y2 y3 y4, LeO (impl_Tighten.j3 k y0 y1 y2 y3 y4) (impl_Tighten.j3 (k + 1) y0 y1 y2 y3 y4)) ∧ (∀ y0 y1 y2 y3 y4 y5, LeO (impl_Tighten.l3 k y0 y1 y2 y3 y4 y5) (impl_Tighten.l3 (k + 1) y0 y1 y2 y3 y4 y5)) ∧ (∀ y0 y1 y2 y3 y4 y5, LeO (impl_Tighten.l4 k y0 y1 y2 y3 y4 y5) (impl_Tighten.l4 (k + 1) y0 y1 y2 y3 y4 y5))
  | 0 => ⟨fun _ _ _ _ r h => by simp [impl_Tighten.l0] at h, fun _ _ _ r h => by simp [impl_Tighten.l1] at h, fun _ _ _ _ r h => by simp [impl_Tighten.l2] at h, fun _ _ _ _ _ r h => by simp [impl_Tighten.j3] at h, fun _ _ _ _ _ _ r h => by simp [impl_Tighten.l3] at h, fun _ _ _ _ _ _ r h => by simp [impl_Tighten.l4] at h⟩
  | k + 1 => by
    obtain ⟨ih0, ih1, ih2, ih3, ih4, ih5⟩ := impl_Tighten.mono_l k
    refine ⟨?_, ?_, ?_, ?_, ?_, ?_⟩
    · intro y0 y1 y2 y3
      unfold impl_Tighten.l0
      repeat' first
      | (with_reducible exact ih0 _ _ _ _)
      | (with_reducible exact ih1 _ _ _)
      | (with_reducible exact ih2 _ _ _ _)
      | (with_reducible exact ih3 _ _ _ _ _)
      | (with_reducible exact ih4 _ _ _ _ _ _)
      | (with_reducible exact ih5 _ _ _ _ _ _)
      | (with_reducible exact impl_ProgramOK.mono _ _)
      | (with_reducible exact impl_landing.mono _ _ _)
      | (with_reducible exact LeO.refl _)
      | (with_reducible exact LeO.none _)
      | (with_reducible refine LeO.ite ?_ ?_)
      | (with_reducible refine LeO.bind ?_ (fun _ => ?_))
      | exact ih0 _ _ _ _
      | exact ih1 _ _ _
      | exact ih2 _ _ _ _
      | exact ih3 _ _ _ _ _
      | exact ih4 _ _ _ _ _ _
      | exact ih5 _ _ _ _ _ _
      | exact impl_ProgramOK.mono _ _
      | exact impl_landing.mono _ _ _
      | exact LeO.none _
      | refine LeO.ite ?_ ?_
      | refine LeO.bind ?_ (fun _ => ?_)
    · intro y0 y1 y2
      unfold impl_Tighten.l1
      repeat' first
      | (with_reducible exact ih0 _ _ _ _)
      | (with_reducible exact ih1 _ _ _)
      | (with_reducible exact ih2 _ _ _ _)
      | (with_reducible exact ih3 _ _ _ _ _)
      | (with_reducible exact ih4 _ _ _ _ _ _)
      | (with_reducible exact ih5 _ _ _ _ _ _)
      | (with_reducible exact impl_ProgramOK.mono _ _)
      | (with_reducible exact impl_landing.mono _ _ _)
      | (with_reducible exact LeO.refl _)
      | (with_reducible exact LeO.none _)
      | (with_reducible refine LeO.ite ?_ ?_)
      | (with_reducible refine LeO.bind ?_ (fun _ => ?_))
      | exact ih0 _ _ _ _
      | exact ih1 _ _ _
      | exact ih2 _ _ _ _
      | exact ih3 _ _ _ _ _
      | exact ih4 _ _ _ _ _ _
      | exact ih5 _ _ _ _ _ _
      | exact impl_ProgramOK.mono _ _
      | exact impl_landing.mono _ _ _
      | exact LeO.none _
      | refine LeO.ite ?_ ?_
      | refine LeO.bind ?_ (fun _ => ?_)
    · intro y0 y1 y2 y3
      unfold impl_Tighten.l2
      repeat' first
      | (with_reducible exact ih0 _ _ _ _)
      | (with_reducible exact ih1 _ _ _)
      | (with_reducible exact ih2 _ _ _ _)
      | (with_reducible exact ih3 _ _ _ _ _)
      | (with_reducible exact ih4 _ _ _ _ _ _)
      | (with_reducible exact ih5 _ _ _ _ _ _)
      | (with_reducible exact impl_ProgramOK.mono _ _)
      | (with_reducible exact impl_landing.mono _ _ _)
      | (with_reducible exact LeO.refl _)
      | (with_reducible exact LeO.none _)
      | (with_reducible refine LeO.ite ?_ ?_)
      | (with_reducible refine LeO.bind ?_ (fun _ => ?_))
      | exact ih0 _ _ _ _
      | exact ih1 _ _ _
      | exact ih2 _ _ _ _
      | exact ih3 _ _ _ _ _
      | exact ih4 _ _ _ _ _ _
      | exact ih5 _ _ _ _ _ _
      | exact impl_ProgramOK.mono _ _
      | exact impl_landing.mono _ _ _
      | exact LeO.none _
      | refine LeO.ite ?_ ?_
      | refine LeO.bind ?_ (fun _ => ?_)
    · intro y0 y1 y2 y3 y4
      unfold impl_Tighten.j3
      repeat' first
      | (with_reducible exact ih0 _ _ _ _)
      | (with_reducible exact ih1 _ _ _)
      | (with_reducible exact ih2 _ _ _ _)
      | (with_reducible exact ih3 _ _ _ _ _)
      | (with_reducible exact ih4 _ _ _ _ _ _)
      | (with_reducible exact ih5 _ _ _ _ _ _)
      | (with_reducible exact impl_ProgramOK.mono _ _)
      | (with_reducible exact impl_landing.mono _ _ _)
      | (with_reducible exact LeO.refl _)
      | (with_reducible exact LeO.none _)
      | (with_reducible refine LeO.ite ?_ ?_)
      | (with_reducible refine LeO.bind ?_ (fun _ => ?_))
      | exact ih0 _ _ _ _
      | exact ih1 _ _ _
      | exact ih2 _ _ _ _
      | exact ih3 _ _ _ _ _
      | exact ih4 _ _ _ _ _ _
      | exact ih5 _ _ _ _ _ _
      | exact impl_ProgramOK.mono _ _
      | exact impl_landing.mono _ _ _
      | exact LeO.none _
      | refine LeO.ite ?_ ?_
      | refine LeO.bind ?_ (fun _ => ?_)
    · intro y0 y1 y2 y3 y4 y5
      unfold impl_Tighten.l3
      repeat' first
      | (with_reducible exact ih0 _ _ _ _)
      | (with_reducible exact ih1 _ _ _)
      | (with_reducible exact ih2 _ _ _ _)
      | (with_reducible exact ih3 _ _ _ _ _)
      | (with_reducible exact ih4 _ _ _ _ _ _)
      | (with_reducible exact ih5 _ _ _ _ _ _)
      | (with_reducible exact impl_ProgramOK.mono _ _)
      | (with_reducible exact impl_landing.mono _ _ _)
      | (with_reducible exact LeO.refl _)
      | (with_reducible exact LeO.none _)
      | (with_reducible refine LeO.ite ?_ ?_)
      | (with_reducible refine LeO.bind ?_ (fun _ => ?_))
      | exact ih0 _ _ _ _
      | exact ih1 _ _ _
      | exact ih2 _ _ _ _
      | exact ih3 _ _ _ _ _
      | exact ih4 _ _ _ _ _ _
      | exact ih5 _ _ _ _ _ _
      | exact impl_ProgramOK.mono _ _
      | exact impl_landing.mono _ _ _
      | exact LeO.none _
      | refine LeO.ite ?_ ?_
      | refine LeO.bind ?_ (fun _ => ?_)
    · intro y0 y1 y2 y3 y4 y5
      unfold impl_Tighten.l4
      repeat' first
      | (with_reducible exact ih0 _ _ _ _)
      | (with_reducible exact ih1 _ _ _)
      | (with_reducible exact ih2 _ _ _ _)
      | (with_reducible exact ih3 _ _ _ _ _)
      | (with_reducible exact ih4 _ _ _ _ _ _)
      | (with_reducible exact ih5 _ _ _ _ _ _)
      | (with_reducible exact impl_ProgramOK.mono _ _)
      | (with_reducible exact impl_landing.mono _ _ _)
      | (with_reducible exact LeO.refl _)
      | (with_reducible exact LeO.none _)
      | (with_reducible refine LeO.ite ?_ ?_)
      | (with_reducible refine LeO.bind ?_ (fun _ => ?_))
      | exact ih0 _ _ _ _
      | exact ih1 _ _ _
      | exact ih2 _ _ _ _
      | exact ih3 _ _ _ _ _
      | exact ih4 _ _ _ _ _ _
      | exact ih5 _ _ _ _ _ _
      | exact impl_ProgramOK.mono _ _
      | exact impl_landing.mono _ _ _
      | exact LeO.none _
      | refine LeO.ite ?_ ?_
      | refine LeO.bind ?_ (fun _ => ?_)
theorem impl_Tighten.mono : ∀ a0 k, LeO (impl_Tighten.f k a0) (impl_Tighten.f (k + 1) a0) := by
  intro a0 k
  obtain ⟨ih0, ih1, ih2, ih3, ih4, ih5⟩ := impl_Tighten.mono_l k
  unfold impl_Tighten.f
  repeat' first
      | (with_reducible exact ih0 _ _ _ _)
      | (with_reducible exact ih1 _ _ _)
      | (with_reducible exact ih2 _ _ _ _)
      | (with_reducible exact ih3 _ _ _ _ _)
      | (with_reducible exact ih4 _ _ _ _ _ _)
      | (with_reducible exact ih5 _ _ _ _ _ _)
      | (with_reducible exact impl_ProgramOK.mono _ _)
      | (with_reducible exact impl_landing.mono _ _ _)
      | (with_reducible exact LeO.refl _)
      | (with_reducible exact LeO.none _)
      | (with_reducible refine LeO.ite ?_ ?_)
      | (with_reducible refine LeO.bind ?_ (fun _ => ?_))
      | exact ih0 _ _ _ _
      | exact ih1 _ _ _
      | exact ih2 _ _ _ _
      | exact ih3 _ _ _ _ _
      | exact ih4 _ _ _ _ _ _
      | exact ih5 _ _ _ _ _ _
      | exact impl_ProgramOK.mono _ _
      | exact impl_landing.mono _ _ _
      | exact LeO.none _
      | refine LeO.ite ?_ ?_
      | refine LeO.bind ?_ (fun _ => ?_)
theorem impl_Tighten.with_blk {P : Program} {ops : Array Oper} {rest : List Oper} {a : Act} {Q : Exit → Act → World → Prop} {W : World} {g : Nat} {cs : Array Value} {t : TypeId} (hb : W.heap[g]? = some (.cells cs t (0, 0))) (h : (∀ i, W.cell? ⟨g, i, none⟩ = cs[i]?) → wpList P ops Q rest a W) : wpList P ops Q rest a W := h (fun i => blk_cell hb i)
set_option maxHeartbeats 8000000 in
set_option maxRecDepth 100000 in
theorem impl_Tighten.calls (k : Nat) (A0 : Option Addr) (c0 : Nat) (l0 : List (S88)) (r1 : List (S88)) (r2 : Int) (w : World) (hr0 : Kd.C k88 w A0 l0.length l0) (hc0 : l0.length ≤ c0) (h : impl_Tighten.f k l0 = some (r1, r2)) :
  Calls Try.prog 38 #[.slice A0 l0.length c0] w fun e w' => ∃ v0_ : Value, e = .returned (.tuple #[v0_, .int .i64 r2]) ∧ Kd.R k88 88 w' w.heap.size (fun _ => True) v0_ r1 ∧ Below w.heap.size w w' := by
 have hu88 := Try.underlying88
 have HR0 := Aside0.mk hr0
 have HC0 := Aside0.mk hc0
 clear hr0 hc0
 have HB := Aside0.mk (Below.refl w.heap.size w)
 have H : ((impl_ProgramOK.f k l0).bind fun t101 => (if t101 = true then (if ([] : List (S88)).length + l0.length < 5864062014805 then ((some (([] : List (S88)) ++ l0 : List (S88))).bind fun y102 => (impl_Tighten.l0 k l0 y102 (y102.length : Int) 0)) else (none)) else (some (([] : List (S88)), 1)))) = some (r1, r2) := h
 clear h
 replace H := Option.bind_eq_some_iff.mp H
 obtain ⟨t101, A20, H⟩ := H
 replace H : (if t101 = true then (if ([] : List (S88)).length + l0.length < 5864062014805 then ((some (([] : List (S88)) ++ l0 : List (S88))).bind fun y102 => (impl_Tighten.l0 k l0 y102 (y102.length : Int) 0)) else (none)) else (some (([] : List (S88)), 1))) = some (r1, r2) := H
 have A2 := Aside0.mk A20
 clear A20
 by_cases c3 : t101 = true
 ·subst c3
  have H1 : (if ([] : List (S88)).length + l0.length < 5864062014805 then ((some (([] : List (S88)) ++ l0 : List (S88))).bind fun y102 => (impl_Tighten.l0 k l0 y102 (y102.length : Int) 0)) else (none)) = some (r1, r2) := by rw [if_pos rfl] at H;exact H
  clear H
  have H := H1
  clear H1
  by_cases c4 : ([] : List (S88)).length + l0.length < 5864062014805
  ·rw [if_pos c4] at H
   have LMc4 := Aside0.mk c4
   clear c4
   obtain ⟨y102, hy102⟩ : ∃ y_ : List (S88), y_ = (([] : List (S88)) ++ l0) := ⟨_, rfl⟩
   replace H : (impl_Tighten.l0 k l0 y102 (y102.length : Int) 0) = some (r1, r2) := by first|(rw [hy102];with_reducible exact H)|(have H2_ := (Option.bind_some _ _).symm.trans H;rw [hy102];with_reducible exact H2_)|(have H2_ := (Option.bind_some _ _).symm.trans H;with_reducible exact H2_)|with_reducible exact H|(rw [hy102];exact H)|exact H
   have Ny102 := Aside0.mk hy102
   clear hy102
   have H' := Aside0.mk H
   clear H
   go_enter Try.func38, Try.ntmps38
   go_wp2_with (first|((with_reducible refine gate_callee (f := 24) rfl ?_);refine goesL_ (some 18) rfl rfl Try.func24 (by kernel_rfl) rfl #[.slice A0 l0.length c0] rfl (by (try simp only [List.map_toArray, List.map_cons, List.map_nil]);first|done|rfl|(simp only [List.length_drop, List.length_take];rfl)) ?_;(with_reducible refine (impl_ProgramOK.calls k _ _ l0 true _ ?side1 ?side2 A2.out).mono ?_);(case side1 => repeat (first|exact HR0.out|(with_reducible refine Kd.C_alloc ?_ _)|(with_reducible refine Kd.C_drewN ?_ _)|(with_reducible refine Kd.C_drew ?_)));(case side2 => exact HC0.out);rintro e w5 ⟨rfl, hb⟩;refine ⟨_, rfl, ?_⟩;have n0_ := Aside0.mk (below_step (by repeat (first|(with_reducible first|exact HB.out|apply below_alloc|apply pw_below_drewN|apply below_drew1)|exact HB.out)) hb);clear HB;have HB := n0_;clear n0_;(try clear hb);(try clear hb2);(try clear hk);(try clear hi))|((with_reducible refine gate_builtin (b := .append) (xs := #[.const (.slice none 0 0), .tmp 20]) rfl ?_);at_builtin;refine Kd.R_append_rows k88 (w0 := w) w.heap.size rfl (.const (.slice none 0 0)) (.tmp 20) 36 88 (.agg #[(.int .i64 0), (.int .i64 0), (.int .i64 0)]) 24 rfl Try.underlying36 info88 rfl (by decide) (by omega) (.slice none 0 0) ([] : List (S88)) l0 _ _ _ (fun _ => True) (fun _ => False) rfl rfl ?aO ?aR (fun _ _ h => h) (fun _ h => h.elim) ?aF ?aB ?aS ?aL ?_;(case aR => repeat (first|exact (Kd.C_below HR0.out HB.out)|(with_reducible refine Kd.C_alloc ?_ _)|(with_reducible refine Kd.C_drewN ?_ _)|(with_reducible refine Kd.C_drew ?_)));(case aB => exact (by repeat (first|(with_reducible first|exact HB.out|apply below_alloc|apply pw_below_drewN|apply below_drew1)|exact HB.out)));(case aF => exact (fun _ _ => trivial));(case aO => exact ((Kd.R_nil _ _ _ _ (fun _ => True))));(case aS => exact (below_size (by repeat (first|(with_reducible first|exact HB.out|apply below_alloc|apply pw_below_drewN|apply below_drew1)|exact HB.out))));(case aL => have := LMc4.out;omega);intro v103 w6 ho hb hg hat;rw [← Ny102.out] at ho;have n0_ := Aside0.mk (hb);have n1_ := Aside0.mk (ho);clear HB;have HB := n0_;have HO104 := n1_;clear n0_ n1_;clear ho hb hg hat;obtain ⟨Ao7, co7, eo7⟩ := Kd.R_slice HO104.out;subst eo7))
   go_loopg [24] k (fun kq v24 w' => ∃ (x4_1 : List (S88)) (x24_1 : Int), v24 = .int .i64 x24_1 ∧ Aside0 (impl_Tighten.l0 kq l0 x4_1 (y102.length : Int) x24_1 = some (r1, r2)) ∧ Aside0 (kq ≤ k) ∧ Aside0 (Kd.R k88 88 w' w.heap.size (fun _ => True) (.slice Ao7 y102.length co7) x4_1) ∧ Aside0 (Below w.heap.size w w'))
   case atStart => exact ⟨(y102), (0), (by first|rfl|(simp;done)|(simp [*];done)), H', ⟨Nat.le_refl _⟩, ⟨by (with_reducible repeat (first|apply Kd.R_alloc|apply Kd.R_drewN|apply Kd.R_drew));exact HO104.out⟩, ⟨by repeat (first|(with_reducible first|exact HB.out|apply below_alloc|apply pw_below_drewN|apply below_drew1)|exact HB.out)⟩⟩
   case round =>
    clear H'
    try clear c2
    try clear p2
    try clear c3
    try clear c4
    obtain ⟨x4_1, x24_1, rfl, HA, HK1, HO_4, HB⟩ := hrel
    have hl4_1 := (Kd.R_reads' HO_4.out).1
    rw [hl4_1] at HO_4
    (try simp only [hl4_1])
    cases gk with
    | zero => exact absurd HA.out (by simp [impl_Tighten.l0])
    | succ k1 =>
     have H := HA.out
     clear HA
     simp only [impl_Tighten.l0] at H
     by_cases c8 : x24_1 < (y102.length : Int)
     ·rw [if_pos c8] at H
      have c8b0 : decide (x24_1 < (y102.length : Int)) = true := decide_eq_true c8
      clear c8
      by_cases c9 : 0 ≤ x24_1
      ·rw [if_pos c9] at H
       have c9b0 : decide (0 ≤ x24_1) = true := decide_eq_true c9
       clear c9
       by_cases c10 : x24_1 < (x4_1.length : Int)
       ·rw [if_pos c10] at H
        have c10b0 : decide (x24_1 < (x4_1.length : Int)) = true := decide_eq_true c10
        clear c10
        replace H := Option.bind_eq_some_iff.mp H
        obtain ⟨t106, A110, H⟩ := H
        replace H : (if t106 = true then ((impl_landing.f k1 l0 ((rd_T88 x4_1 x24_1).f2)).bind fun t108 => (impl_Tighten.l0 k1 l0 (x4_1.set (x24_1 : Int).toNat (⟨(rd_T88 x4_1 x24_1).f0, (rd_T88 x4_1 x24_1).f1, t108⟩ : S88)) (y102.length : Int) (wrap64 (x24_1 + 1)))) else (impl_Tighten.l0 k1 l0 x4_1 (y102.length : Int) (wrap64 (x24_1 + 1)))) = some (r1, r2) := H
        have A11 := Aside0.mk A110
        clear A110
        by_cases c12 : t106 = true
        ·subst c12
         have H1 : ((impl_landing.f k1 l0 ((rd_T88 x4_1 x24_1).f2)).bind fun t108 => (impl_Tighten.l0 k1 l0 (x4_1.set (x24_1 : Int).toNat (⟨(rd_T88 x4_1 x24_1).f0, (rd_T88 x4_1 x24_1).f1, t108⟩ : S88)) (y102.length : Int) (wrap64 (x24_1 + 1)))) = some (r1, r2) := by rw [if_pos rfl] at H;exact H
         clear H
         have H := H1
         clear H1
         replace H := Option.bind_eq_some_iff.mp H
         obtain ⟨t108, A130, H⟩ := H
         replace H : (impl_Tighten.l0 k1 l0 (x4_1.set (x24_1 : Int).toNat (⟨(rd_T88 x4_1 x24_1).f0, (rd_T88 x4_1 x24_1).f1, t108⟩ : S88)) (y102.length : Int) (wrap64 (x24_1 + 1))) = some (r1, r2) := H
         have A13 := Aside0.mk A130
         clear A130
         obtain ⟨y109, hy109⟩ : ∃ y_ : List (S88), y_ = (x4_1.set (x24_1 : Int).toNat (⟨(rd_T88 x4_1 x24_1).f0, (rd_T88 x4_1 x24_1).f1, t108⟩ : S88)) := ⟨_, rfl⟩
         replace H : (impl_Tighten.l0 k1 l0 y109 (y102.length : Int) (wrap64 (x24_1 + 1))) = some (r1, r2) := by first|(rw [hy109];with_reducible exact H)|(have H2_ := (Option.bind_some _ _).symm.trans H;rw [hy109];with_reducible exact H2_)|(have H2_ := (Option.bind_some _ _).symm.trans H;with_reducible exact H2_)|with_reducible exact H|(rw [hy109];exact H)|exact H
         have Ny109 := Aside0.mk hy109
         clear hy109
         have H' := Aside0.mk H
         clear H
         have p105 : 0 ≤ (x24_1 : Int) := of_decide_eq_true (by first|(with_reducible assumption)|assumption)
         have q105 : x24_1 < (x4_1.length : Int) := of_decide_eq_true (by first|(with_reducible assumption)|assumption)
         obtain ⟨ad105, e105, hx105_0, hx105_1, hx105_2⟩ := at_T88 (Kd.R_reads' HO_4.out).2.2 x24_1 p105 q105
         cases e105
         replace p105 := eq_true p105
         replace q105 := eq_true q105
         go_wp2_with (first|((with_reducible refine gate_callee (f := 81) rfl ?_);refine goesL_ (some 32) rfl rfl Try.func81 (by kernel_rfl) rfl #[.int .i64 ((rd_T88 x4_1 x24_1).f0)] rfl (by (try simp only [List.map_toArray, List.map_cons, List.map_nil]);first|done|rfl|(simp only [List.length_drop, List.length_take];rfl)) ?_;(with_reducible refine (impl_jumps.calls ((rd_T88 x4_1 x24_1).f0) true _ A11.out).mono ?_);rintro e w' ⟨rfl, ⟨nd, rfl⟩⟩;refine ⟨_, rfl, ?_⟩;(try (rw [drewN_self wr];generalize hq_ : World.drewN wr _ = wr;have n0_ : Aside0 (Kd.R k88 88 wr w.heap.size (fun _ => True) (.slice (some ad105) x4_1.length co7) x4_1) := ⟨by rw [← hq_];exact (by (with_reducible repeat (first|apply Kd.R_alloc|apply Kd.R_drewN|apply Kd.R_drew));exact HO_4.out)⟩;have n1_ : Aside0 (Below w.heap.size w wr) := ⟨by rw [← hq_];exact (by repeat (first|(with_reducible first|exact HB.out|apply below_alloc|apply pw_below_drewN|apply below_drew1)|exact HB.out))⟩;clear HO_4 HB hq_;have HO_4 := n0_;have HB := n1_;clear n0_ n1_));have p107 : 0 ≤ (x24_1 : Int) := of_decide_eq_true (by first|(with_reducible assumption)|assumption);have q107 : x24_1 < (x4_1.length : Int) := of_decide_eq_true (by first|(with_reducible assumption)|assumption);obtain ⟨ad107, e107, hx107_0, hx107_1, hx107_2⟩ := at_T88 (Kd.R_reads' HO_4.out).2.2 x24_1 p107 q107;obtain rfl : ad105 = ad107 := (by injection e107);replace p107 := eq_true p107;replace q107 := eq_true q107)|((with_reducible refine gate_callee (f := 82) rfl ?_);refine goesL_ (some 41) rfl rfl Try.func82 (by kernel_rfl) rfl #[.slice A0 l0.length c0, .int .i64 ((rd_T88 x4_1 x24_1).f2)] rfl (by (try simp only [List.map_toArray, List.map_cons, List.map_nil]);first|done|rfl|(simp only [List.length_drop, List.length_take];rfl)) ?_;(with_reducible refine (impl_landing.calls k1 _ _ l0 ((rd_T88 x4_1 x24_1).f2) t108 _ ?side1 ?side2 A13.out).mono ?_);(case side1 => repeat (first|exact (Kd.C_below HR0.out HB.out)|(with_reducible refine Kd.C_alloc ?_ _)|(with_reducible refine Kd.C_drewN ?_ _)|(with_reducible refine Kd.C_drew ?_)));(case side2 => exact HC0.out);rintro e w' ⟨rfl, ⟨nd, rfl⟩⟩;refine ⟨_, rfl, ?_⟩;(try (rw [drewN_self wr];generalize hq_ : World.drewN wr _ = wr;have n0_ : Aside0 (Kd.R k88 88 wr w.heap.size (fun _ => True) (.slice (some ad105) x4_1.length co7) x4_1) := ⟨by rw [← hq_];exact (by (with_reducible repeat (first|apply Kd.R_alloc|apply Kd.R_drewN|apply Kd.R_drew));exact HO_4.out)⟩;have n1_ : Aside0 (Below w.heap.size w wr) := ⟨by rw [← hq_];exact (by repeat (first|(with_reducible first|exact HB.out|apply below_alloc|apply pw_below_drewN|apply below_drew1)|exact HB.out))⟩;clear HO_4 HB hq_;have HO_4 := n0_;have HB := n1_;clear n0_ n1_));have p14 : 0 ≤ (x24_1 : Int) := of_decide_eq_true (by first|(with_reducible assumption)|assumption);have q14 : (x24_1 : Int) < ((x4_1.length : Int) : Int) := of_decide_eq_true (by first|(with_reducible assumption)|assumption);obtain ⟨go14, co14, eo14, gb14, gl14, cl14, HG14⟩ := Kd.R_form HO_4.out (by omega);(first|cases eo14|(injection eo14 with ea_ en_ ec_;(first|subst ea_|(injection ea_ with ea_;subst ea_));subst ec_;clear en_));have GB14 := Aside0.mk gb14;have GG14 := Aside0.mk HG14;clear gb14 gl14 HG14;(first|simp only [add_plain] at hx105_0|skip);(first|simp only [add_plain] at hx105_1|skip);(first|simp only [add_plain] at hx105_2|skip);(first|simp only [add_plain] at hx107_0|skip);(first|simp only [add_plain] at hx107_1|skip);(first|simp only [add_plain] at hx107_2|skip);obtain ⟨ce14, hcl14, hM14, hcc14, hfr14⟩ := Kd.R_elem HO_4.out z88 (x24_1 : Int) p14 q14;obtain rfl := k88_openM hM14;have hx14_0 : wr.cell? ⟨go14, (x24_1 : Int).toNat * 3, none⟩ = some (.int .i64 ((rd_T88 x4_1 x24_1).f0)) := hcc14 0 _ rfl;have hx14_1 : wr.cell? ⟨go14, (x24_1 : Int).toNat * 3 + 1, none⟩ = some (.int .i64 ((rd_T88 x4_1 x24_1).f1)) := hcc14 1 _ rfl;have hx14_2 : wr.cell? ⟨go14, (x24_1 : Int).toNat * 3 + 2, none⟩ = some (.int .i64 ((rd_T88 x4_1 x24_1).f2)) := hcc14 2 _ rfl;have hf14_0 : wr.frozen? ⟨go14, (x24_1 : Int).toNat * 3, none⟩ = false := hfr14 0;have hf14_1 : wr.frozen? ⟨go14, (x24_1 : Int).toNat * 3 + 1, none⟩ = false := hfr14 1;have hf14_2 : wr.frozen? ⟨go14, (x24_1 : Int).toNat * 3 + 2, none⟩ = false := hfr14 2;clear hcl14 hcc14 hfr14 hM14;replace p14 := eq_true p14;replace q14 := eq_true q14;have HX15 := Aside0.mk (show Kd.R k88 88 wr w.heap.size (fun _ => True) (.slice (some ⟨go14, 0, none⟩) x4_1.length co7) x4_1 from (by (with_reducible repeat (first|apply Kd.R_alloc|apply Kd.R_drewN|apply Kd.R_drew));exact HO_4.out));obtain ⟨ce15, hcl15, hM15, hcc15, hfr15⟩ := Kd.R_elem HX15.out z88 (x24_1 : Int) (of_decide_eq_true (by first|(with_reducible assumption)|assumption)) (by have h_ : (x24_1 : Int) < ((x4_1.length : Int) : Int) := of_decide_eq_true (by first|(with_reducible assumption)|assumption);first|exact h_|(have e_ := (Kd.R_reads' HO_4.out).1;omega)|simpa using h_);obtain rfl := k88_openM hM15;have HP15 := Kd.R_seg HX15.out (x24_1 : Int) (of_decide_eq_true (by first|(with_reducible assumption)|assumption)) (by have h_ : (x24_1 : Int) < ((x4_1.length : Int) : Int) := of_decide_eq_true (by first|(with_reducible assumption)|assumption);first|exact h_|(have e_ := (Kd.R_reads' HO_4.out).1;omega)|simpa using h_) (seg := [.int .i64 t108]) (j := 2) hcl15 hcc15 (show 3 ≤ 3 from by decide) (x' := (⟨(rd_T88 x4_1 x24_1).f0, (rd_T88 x4_1 x24_1).f1, t108⟩ : S88)) (k88_mkM _ _ _ (⟨(rd_T88 x4_1 x24_1).f0, (rd_T88 x4_1 x24_1).f1, t108⟩ : S88) ) (fun _ hk => hk);have hx15_2 := hcc15 2 _ rfl;(try simp only [show (k88).sz = 3 from rfl, Nat.mul_one, Nat.add_zero] at hx15_2);have hf15_2 := hfr15 2;(try simp only [show (k88).sz = 3 from rfl, Nat.mul_one, Nat.add_zero] at hf15_2);clear hcl15 hcc15 hfr15 hM15)|((with_reducible refine gate_store (t := 3) (p := 43) rfl ?_);refine store_event (t := 3) (p := 43) (v := ?vo_w16) (w1 := (wr.setCell ⟨go14, (x24_1 : Int).toNat * 3 + 2, none⟩ (.int .i64 t108))) ?hg ?ho ?hn ?hr ?_;(case ho => rfl);(case hg => rfl);(case hn => rfl);(case hr => first|(go_simp;done)|(go_simp;rfl));intro w16 hw;have hg : wr.grownBy w16 (some go14) := (by rw [hw];exact HP15.2);have hp_ : Kd.R k88 88 w16 w.heap.size (fun _ => True) (.slice (some ⟨go14, 0, none⟩) x4_1.length co7) y109 := (by rw [hw, Ny109.out];exact HP15.1);clear HP15;have n0_ := Aside0.mk (hp_);have n1_ := Aside0.mk ((by rw [hw];exact below_set (HB.out) GB14.out : Below w.heap.size w w16));clear HO_4;clear HB;have HO_4 := n0_;have HB := n1_;clear n0_ n1_;clear hg hw hp_))
         (try simp only [← hl4_1])
         go_roundg k1
         case measure => have := HK1.out;omega
         case rel => exact ⟨(y109), (wrap64 (x24_1 + 1)), (by first|rfl|(simp;done)|(simp [*];done)), H', ⟨by have := HK1.out;omega⟩, ⟨by (try simp only [hl4_1]);(with_reducible repeat (first|apply Kd.R_alloc|apply Kd.R_drewN|apply Kd.R_drew));exact HO_4.out⟩, ⟨by repeat (first|(with_reducible first|exact HB.out|apply below_alloc|apply pw_below_drewN|apply below_drew1)|exact HB.out)⟩⟩
        ·replace c12 := Bool.eq_false_iff.mpr c12
         subst c12
         have H1 : (impl_Tighten.l0 k1 l0 x4_1 (y102.length : Int) (wrap64 (x24_1 + 1))) = some (r1, r2) := by rw [if_neg (show ¬ (false = true) by decide)] at H;exact H
         clear H
         have H := H1
         clear H1
         have H' := Aside0.mk H
         clear H
         have p105 : 0 ≤ (x24_1 : Int) := of_decide_eq_true (by first|(with_reducible assumption)|assumption)
         have q105 : x24_1 < (x4_1.length : Int) := of_decide_eq_true (by first|(with_reducible assumption)|assumption)
         obtain ⟨ad105, e105, hx105_0, hx105_1, hx105_2⟩ := at_T88 (Kd.R_reads' HO_4.out).2.2 x24_1 p105 q105
         cases e105
         replace p105 := eq_true p105
         replace q105 := eq_true q105
         go_wp2_with (first|((with_reducible refine gate_callee (f := 81) rfl ?_);refine goesL_ (some 32) rfl rfl Try.func81 (by kernel_rfl) rfl #[.int .i64 ((rd_T88 x4_1 x24_1).f0)] rfl (by (try simp only [List.map_toArray, List.map_cons, List.map_nil]);first|done|rfl|(simp only [List.length_drop, List.length_take];rfl)) ?_;(with_reducible refine (impl_jumps.calls ((rd_T88 x4_1 x24_1).f0) false _ A11.out).mono ?_);rintro e w' ⟨rfl, ⟨nd, rfl⟩⟩;refine ⟨_, rfl, ?_⟩))
         (try simp only [← hl4_1])
         go_roundg k1
         case measure => have := HK1.out;omega
         case rel => exact ⟨(x4_1), (wrap64 (x24_1 + 1)), (by first|rfl|(simp;done)|(simp [*];done)), H', ⟨by have := HK1.out;omega⟩, ⟨by (try simp only [hl4_1]);(with_reducible repeat (first|apply Kd.R_alloc|apply Kd.R_drewN|apply Kd.R_drew));exact HO_4.out⟩, ⟨by repeat (first|(with_reducible first|exact HB.out|apply below_alloc|apply pw_below_drewN|apply below_drew1)|exact HB.out)⟩⟩
       ·rw [if_neg c10] at H
        exact absurd H (by simp)
      ·rw [if_neg c9] at H
       exact absurd H (by simp)
     ·rw [if_neg c8] at H
      have c8b0 : decide (x24_1 < (y102.length : Int)) = false := decide_eq_false c8
      have c8b9 := c8b0
      try rw [hl4_1] at c8b9
      clear c8
      by_cases c17 : 0 ≤ (x4_1.length : Int)
      ·rw [if_pos c17] at H
       have c17b0 := eq_true c17
       have c17b1 : decide (0 ≤ (x4_1.length : Int)) = true := decide_eq_true c17
       clear c17
       by_cases c18 : ((x4_1.length : Int) : Int).toNat ≤ 281474976710656
       ·rw [if_pos c18] at H
        have c18b0 := eq_true c18
        have c18b1 : decide (((x4_1.length : Int) : Int).toNat ≤ 281474976710656) = true := decide_eq_true c18
        clear c18
        obtain ⟨y110, hy110⟩ : ∃ y_ : List Bool, y_ = (List.replicate ((x4_1.length : Int) : Int).toNat false) := ⟨_, rfl⟩
        replace H : (impl_Tighten.l1 k1 x4_1 y110 (([0] : List Int))) = some (r1, r2) := by first|(rw [hy110];with_reducible exact H)|(have H2_ := (Option.bind_some _ _).symm.trans H;rw [hy110];with_reducible exact H2_)|(have H2_ := (Option.bind_some _ _).symm.trans H;with_reducible exact H2_)|with_reducible exact H|(rw [hy110];exact H)|exact H
        have Ny110 := Aside0.mk hy110
        clear hy110
        obtain ⟨y113, hy113⟩ : ∃ y_ : List Int, y_ = (([0] : List Int)) := ⟨_, rfl⟩
        replace H : (impl_Tighten.l1 k1 x4_1 y110 y113) = some (r1, r2) := by first|(rw [hy113];with_reducible exact H)|(have H2_ := (Option.bind_some _ _).symm.trans H;rw [hy113];with_reducible exact H2_)|(have H2_ := (Option.bind_some _ _).symm.trans H;with_reducible exact H2_)|with_reducible exact H|(rw [hy113];exact H)|exact H
        have Ny113 := Aside0.mk hy113
        clear hy113
        have H' := Aside0.mk H
        clear H
        go_wp2_with (first|((with_reducible refine gate_dst (N := 47) rfl ?_);refine Kd.R_make Kd.bool _ 4 rfl (N := 47) rfl 106 _ _ rfl (x4_1.length : Int) rfl rfl Try.underlying106 (.bool false) 1 info4 rfl (by decide) (by omega) false (ok := fun _ => True) (okp := fun _ => True) rfl (fun _ hk => hk) trivial (of_decide_eq_true (by first|(with_reducible assumption)|assumption)) (Nat.le_trans (Nat.mul_le_mul_right _ (of_decide_eq_true (by first|(with_reducible assumption)|assumption) : (x4_1.length : Int).toNat ≤ 281474976710656)) (by omega)) (Below.refl _ _) (Nat.le_refl _) ?_;intro v111 w19 ho20 hb hg_ hnew_;clear hg_ hnew_;(first|rw [← Ny110.out] at ho20|(simp only [Int.reduceToNat] at ho20;rw [← Ny110.out] at ho20));have n0_ := Aside0.mk (Kd.R_below (by (with_reducible repeat (first|apply Kd.R_alloc|apply Kd.R_drewN|apply Kd.R_drew));exact HO_4.out) hb);have n1_ := Aside0.mk (Kd.R_lower ho20 (below_size (by repeat (first|(with_reducible first|exact HB.out|apply below_alloc|apply pw_below_drewN|apply below_drew1)|exact HB.out))));have n2_ := Aside0.mk (below_step (by repeat (first|(with_reducible first|exact HB.out|apply below_alloc|apply pw_below_drewN|apply below_drew1)|exact HB.out)) hb);clear HO_4;clear HB;have HO_4 := n0_;have HO112 := n1_;have HB := n2_;clear n0_ n1_ n2_;clear hb ho20)|((with_reducible refine gate_dst (N := 48) rfl ?_);refine Kd.R_lit (Kd.int .i64) _ 3 ?hg (N := 48) ?hd (xs := ([0] : List Int)) (inner := [.int .i64 0]) (ok := fun _ => True) (okp := fun _ => True) ?hr ?hp (fun _ hk => hk) trivial (Below.refl _ _) (Nat.le_refl _) (by simp) ?_;(case hd => rfl);(case hg => rfl);(case hr => first|(go_simp;done)|(go_simp;rfl));(case hp => exact (Reps.one (show Kd.M (Kd.int .i64) _ _ _ 0 [.int .i64 0] from rfl) (Reps.none _ _)));intro v114 w21 ho22 hb hg_ hnew_;clear hg_ hnew_;(first|rw [← Ny113.out] at ho22|(simp only [Int.reduceToNat] at ho22;rw [← Ny113.out] at ho22));have n0_ := Aside0.mk (Kd.R_below (by (with_reducible repeat (first|apply Kd.R_alloc|apply Kd.R_drewN|apply Kd.R_drew));exact HO_4.out) hb);have n1_ := Aside0.mk (Kd.R_below (by (with_reducible repeat (first|apply Kd.R_alloc|apply Kd.R_drewN|apply Kd.R_drew));exact HO112.out) hb);have n2_ := Aside0.mk (Kd.R_lower ho22 (below_size (by repeat (first|(with_reducible first|exact HB.out|apply below_alloc|apply pw_below_drewN|apply below_drew1)|exact HB.out))));have n3_ := Aside0.mk (below_step (by repeat (first|(with_reducible first|exact HB.out|apply below_alloc|apply pw_below_drewN|apply below_drew1)|exact HB.out)) hb);clear HO_4;clear HO112;clear HB;have HO_4 := n0_;have HO112 := n1_;have HO115 := n2_;have HB := n3_;clear n0_ n1_ n2_ n3_;clear hb ho22))
        go_loopg [7] k1 (fun kq v7 w' => ∃ (x6_2 : List Bool) (x7_2 : List Int), Aside0 (impl_Tighten.l1 kq x4_1 x6_2 x7_2 = some (r1, r2)) ∧ Aside0 (kq ≤ k1) ∧ Aside0 (Kd.R k88 88 w' w.heap.size (fun _ => True) (.slice Ao7 x4_1.length co7) x4_1) ∧ Aside0 (Kd.R Kd.bool 4 w' w.heap.size (fun _ => True) v111 x6_2) ∧ Aside0 (Kd.R (Kd.int .i64) 3 w' w.heap.size (fun _ => True) v7 x7_2) ∧ Aside0 (Below w.heap.size w w'))
        case atStart => exact ⟨(y110), (y113), H', ⟨Nat.le_refl _⟩, ⟨by (try simp only [hl4_1]);(with_reducible repeat (first|apply Kd.R_alloc|apply Kd.R_drewN|apply Kd.R_drew));exact HO_4.out⟩, ⟨by (try simp only [hl4_1]);(with_reducible repeat (first|apply Kd.R_alloc|apply Kd.R_drewN|apply Kd.R_drew));exact HO112.out⟩, ⟨by (try simp only [hl4_1]);(with_reducible repeat (first|apply Kd.R_alloc|apply Kd.R_drewN|apply Kd.R_drew));exact HO115.out⟩, ⟨by repeat (first|(with_reducible first|exact HB.out|apply below_alloc|apply pw_below_drewN|apply below_drew1)|exact HB.out)⟩⟩
        case round =>
         clear H'
         try clear c1
         try clear p1
         try clear q1
         try clear hx1
         try clear hf1
         try clear c2
         try clear p2
         try clear c3
         try clear c4
         try clear p6
         try clear c8
         try clear c8b0
         try clear c9
         try clear c9b0
         try clear c10
         try clear c10b0
         try clear p10
         try clear q10
         try clear hx10
         try clear c12
         try clear c14
         try clear p14
         try clear q14
         try clear hx14
         try clear hf14
         try clear c15
         try clear hx15
         try clear hf15
         try clear c17
         try clear c17b0
         try clear c17b1
         try clear c18
         try clear c18b0
         try clear c18b1
         try clear hx105_0
         try clear hx105_1
         try clear hx105_2
         try clear hx107_0
         try clear hx107_1
         try clear hx107_2
         try clear hx14_0
         try clear hx14_1
         try clear hx14_2
         try clear hx15_2
         try clear p105
         try clear p107
         try clear p14
         try clear p2
         try clear q105
         try clear q107
         try clear q14
         obtain ⟨x6_2, x7_2, HA, HK2, HO_4, HO_6, HO_7, HB⟩ := hrel
         cases gk with
         | zero => exact absurd HA.out (by simp [impl_Tighten.l1])
         | succ k2 =>
          have H := HA.out
          clear HA
          simp only [impl_Tighten.l1] at H
          by_cases c23 : (x7_2.length : Int) > 0
          ·rw [if_pos c23] at H
           have c23b0 : decide (0 < (x7_2.length : Int)) = true := decide_eq_true c23
           have c23b1 : decide (0 < x7_2.length) = true := decide_eq_true (by omega)
           clear c23
           obtain ⟨ji24, hji24⟩ : ∃ j_ : Int, (wrap64 ((x7_2.length : Int) - 1)) = j_ := ⟨_, rfl⟩
           replace H : (if 0 ≤ (ji24) then (if (ji24) < (x7_2.length : Int) then (if (ji24) ≤ (x7_2.length : Int) then ((some (x7_2.take ((ji24) : Int).toNat : List Int)).bind fun y117 => (if 0 ≤ (rd x7_2 (ji24)) then (if (rd x7_2 (ji24)) < (x6_2.length : Int) then (if rdOf false x6_2 (rd x7_2 (ji24)) = true then (impl_Tighten.l1 k2 x4_1 x6_2 y117) else ((some (x6_2.set ((rd x7_2 (ji24)) : Int).toNat true : List Bool)).bind fun y121 => (if (rd x7_2 (ji24)) < (x4_1.length : Int) then ((impl_jumps.f ((rd_T88 x4_1 (rd x7_2 (ji24))).f0)).bind fun t123 => (if t123 = true then (if y117.length < 17592186044416 then ((some (y117 ++ [(rd_T88 x4_1 (rd x7_2 (ji24))).f2] : List Int)).bind fun y125 => (if ((rd_T88 x4_1 (rd x7_2 (ji24))).f0) = 5 then (impl_Tighten.l1 k2 x4_1 y121 y125) else (if ((rd_T88 x4_1 (rd x7_2 (ji24))).f0) = 9 then (impl_Tighten.l1 k2 x4_1 y121 y125) else (if ((rd_T88 x4_1 (rd x7_2 (ji24))).f0) = 10 then (impl_Tighten.l1 k2 x4_1 y121 y125) else (if y125.length < 17592186044416 then (impl_Tighten.l1 k2 x4_1 y121 (y125 ++ [wrap64 ((rd x7_2 (ji24)) + 1)])) else (none)))))) else (none)) else (if ((rd_T88 x4_1 (rd x7_2 (ji24))).f0) = 5 then (impl_Tighten.l1 k2 x4_1 y121 y117) else (if ((rd_T88 x4_1 (rd x7_2 (ji24))).f0) = 9 then (impl_Tighten.l1 k2 x4_1 y121 y117) else (if ((rd_T88 x4_1 (rd x7_2 (ji24))).f0) = 10 then (impl_Tighten.l1 k2 x4_1 y121 y117) else (if y117.length < 17592186044416 then (impl_Tighten.l1 k2 x4_1 y121 (y117 ++ [wrap64 ((rd x7_2 (ji24)) + 1)])) else (none))))))) else (none)))) else (none)) else (none))) else (none)) else (none)) else (none)) = some (r1, r2) := by first|(rw [hji24] at H;exact H)|(simp only [hji24] at H ⊢;exact H)
           have hji24w : (IntKind.i64.wrap ((x7_2.length : Int) - 1)) = ji24 := (i64_w _).trans hji24
           by_cases c25 : 0 ≤ (ji24)
           ·rw [if_pos c25] at H
            have c25b0 : decide (0 ≤ (ji24)) = true := decide_eq_true c25
            clear c25
            by_cases c26 : (ji24) < (x7_2.length : Int)
            ·rw [if_pos c26] at H
             have c26b0 : decide ((ji24) < (x7_2.length : Int)) = true := decide_eq_true c26
             clear c26
             by_cases c27 : (ji24) ≤ (x7_2.length : Int)
             ·rw [if_pos c27] at H
              have c27b0 := eq_true c27
              have c27b1 : decide ((ji24) ≤ (x7_2.length : Int)) = true := decide_eq_true c27
              clear c27
              obtain ⟨y117, hy117⟩ : ∃ y_ : List Int, y_ = (x7_2.take ((ji24) : Int).toNat) := ⟨_, rfl⟩
              replace H : (if 0 ≤ (rd x7_2 (ji24)) then (if (rd x7_2 (ji24)) < (x6_2.length : Int) then (if rdOf false x6_2 (rd x7_2 (ji24)) = true then (impl_Tighten.l1 k2 x4_1 x6_2 y117) else ((some (x6_2.set ((rd x7_2 (ji24)) : Int).toNat true : List Bool)).bind fun y121 => (if (rd x7_2 (ji24)) < (x4_1.length : Int) then ((impl_jumps.f ((rd_T88 x4_1 (rd x7_2 (ji24))).f0)).bind fun t123 => (if t123 = true then (if y117.length < 17592186044416 then ((some (y117 ++ [(rd_T88 x4_1 (rd x7_2 (ji24))).f2] : List Int)).bind fun y125 => (if ((rd_T88 x4_1 (rd x7_2 (ji24))).f0) = 5 then (impl_Tighten.l1 k2 x4_1 y121 y125) else (if ((rd_T88 x4_1 (rd x7_2 (ji24))).f0) = 9 then (impl_Tighten.l1 k2 x4_1 y121 y125) else (if ((rd_T88 x4_1 (rd x7_2 (ji24))).f0) = 10 then (impl_Tighten.l1 k2 x4_1 y121 y125) else (if y125.length < 17592186044416 then (impl_Tighten.l1 k2 x4_1 y121 (y125 ++ [wrap64 ((rd x7_2 (ji24)) + 1)])) else (none)))))) else (none)) else (if ((rd_T88 x4_1 (rd x7_2 (ji24))).f0) = 5 then (impl_Tighten.l1 k2 x4_1 y121 y117) else (if ((rd_T88 x4_1 (rd x7_2 (ji24))).f0) = 9 then (impl_Tighten.l1 k2 x4_1 y121 y117) else (if ((rd_T88 x4_1 (rd x7_2 (ji24))).f0) = 10 then (impl_Tighten.l1 k2 x4_1 y121 y117) else (if y117.length < 17592186044416 then (impl_Tighten.l1 k2 x4_1 y121 (y117 ++ [wrap64 ((rd x7_2 (ji24)) + 1)])) else (none))))))) else (none)))) else (none)) else (none)) = some (r1, r2) := by first|(rw [hy117];with_reducible exact H)|(have H2_ := (Option.bind_some _ _).symm.trans H;rw [hy117];with_reducible exact H2_)|(have H2_ := (Option.bind_some _ _).symm.trans H;with_reducible exact H2_)|with_reducible exact H|(rw [hy117];exact H)|exact H
              have Ny117 := Aside0.mk hy117
              clear hy117
              by_cases c28 : 0 ≤ (rd x7_2 (ji24))
              ·rw [if_pos c28] at H
               have c28b0 : decide (0 ≤ (rd x7_2 (ji24))) = true := decide_eq_true c28
               clear c28
               by_cases c29 : (rd x7_2 (ji24)) < (x6_2.length : Int)
               ·rw [if_pos c29] at H
                have c29b0 : decide ((rd x7_2 (ji24)) < (x6_2.length : Int)) = true := decide_eq_true c29
                clear c29
                obtain ⟨bq30, hbq30⟩ : ∃ b_ : Bool, b_ = (rdOf false x6_2 (rd x7_2 (ji24))) := ⟨_, rfl⟩
                replace H : (if bq30 = true then (impl_Tighten.l1 k2 x4_1 x6_2 y117) else ((some (x6_2.set ((rd x7_2 (ji24)) : Int).toNat true : List Bool)).bind fun y121 => (if (rd x7_2 (ji24)) < (x4_1.length : Int) then ((impl_jumps.f ((rd_T88 x4_1 (rd x7_2 (ji24))).f0)).bind fun t123 => (if t123 = true then (if y117.length < 17592186044416 then ((some (y117 ++ [(rd_T88 x4_1 (rd x7_2 (ji24))).f2] : List Int)).bind fun y125 => (if ((rd_T88 x4_1 (rd x7_2 (ji24))).f0) = 5 then (impl_Tighten.l1 k2 x4_1 y121 y125) else (if ((rd_T88 x4_1 (rd x7_2 (ji24))).f0) = 9 then (impl_Tighten.l1 k2 x4_1 y121 y125) else (if ((rd_T88 x4_1 (rd x7_2 (ji24))).f0) = 10 then (impl_Tighten.l1 k2 x4_1 y121 y125) else (if y125.length < 17592186044416 then (impl_Tighten.l1 k2 x4_1 y121 (y125 ++ [wrap64 ((rd x7_2 (ji24)) + 1)])) else (none)))))) else (none)) else (if ((rd_T88 x4_1 (rd x7_2 (ji24))).f0) = 5 then (impl_Tighten.l1 k2 x4_1 y121 y117) else (if ((rd_T88 x4_1 (rd x7_2 (ji24))).f0) = 9 then (impl_Tighten.l1 k2 x4_1 y121 y117) else (if ((rd_T88 x4_1 (rd x7_2 (ji24))).f0) = 10 then (impl_Tighten.l1 k2 x4_1 y121 y117) else (if y117.length < 17592186044416 then (impl_Tighten.l1 k2 x4_1 y121 (y117 ++ [wrap64 ((rd x7_2 (ji24)) + 1)])) else (none))))))) else (none)))) = some (r1, r2) := by rw [← hbq30] at H;exact H
                have Nbq30 := Aside0.mk hbq30
                clear hbq30
                by_cases c31 : bq30 = true
                ·subst c31
                 have H1 : (impl_Tighten.l1 k2 x4_1 x6_2 y117) = some (r1, r2) := by rw [if_pos rfl] at H;exact H
                 clear H
                 have H := H1
                 clear H1
                 have H' := Aside0.mk H
                 clear H
                 obtain ⟨Ao32, co32, eo32⟩ := Kd.R_slice HO_7.out
                 subst eo32
                 have p116 : 0 ≤ ((ji24) : Int) := of_decide_eq_true (by first|(with_reducible assumption)|assumption)
                 have q116 : (ji24) < (x7_2.length : Int) := of_decide_eq_true (by first|(with_reducible assumption)|assumption)
                 obtain ⟨ad116, e116, hx116_0⟩ := Kd.at_int (Kd.R_reads' HO_7.out).2.2 (ji24) p116 q116
                 cases e116
                 replace p116 := eq_true p116
                 replace q116 := eq_true q116
                 have q33 : ((ji24) : Int) ≤ ((x7_2.length : Int) : Int) := of_decide_eq_true (by first|(with_reducible assumption)|assumption)
                 obtain ⟨i033, hi033, _, hsz33, _⟩ := info_parts info3
                 have hcut33 := cut_to (P := Try.prog) 62 3 .i64 Try.underlying62 hi033 (some ad116) x7_2.length co32 (ji24) (of_decide_eq_true (by first|(with_reducible assumption)|assumption)) q33 (Kd.R_reads' HO_7.out).2.1
                 have hr33 := Kd.R_take (m := ((ji24) : Int).toNat) HO_7.out (by omega)
                 have hy33 : y117.length = ((ji24) : Int).toNat := (by rw [Ny117.out, List.length_take];omega)
                 rw [← Ny117.out] at hr33
                 rw [← hy33] at hr33 hcut33
                 clear hy33 hi033 hsz33 HO_7
                 have HO119 := Aside0.mk hr33
                 clear hr33
                 replace q33 := eq_true q33
                 obtain ⟨Ao34, co34, eo34⟩ := Kd.R_slice HO_6.out
                 subst eo34
                 have p120 : 0 ≤ ((rd x7_2 (ji24)) : Int) := of_decide_eq_true (by first|(with_reducible assumption)|assumption)
                 have q120 : (rd x7_2 (ji24)) < (x6_2.length : Int) := of_decide_eq_true (by first|(with_reducible assumption)|assumption)
                 obtain ⟨ad120, e120, hx120_0⟩ := Kd.at_bool (Kd.R_reads' HO_6.out).2.2 (rd x7_2 (ji24)) p120 q120
                 (try rw [← Nbq30.out] at hx120_0)
                 cases e120
                 replace p120 := eq_true p120
                 replace q120 := eq_true q120
                 go_wp2
                 go_roundg k2
                 case measure => have := HK1.out;have := HK2.out;omega
                 case rel => exact ⟨(x6_2), (y117), H', ⟨by have := HK1.out;have := HK2.out;omega⟩, ⟨by (try simp only [hl4_1]);(with_reducible repeat (first|apply Kd.R_alloc|apply Kd.R_drewN|apply Kd.R_drew));exact HO_4.out⟩, ⟨by (try simp only [hl4_1]);(with_reducible repeat (first|apply Kd.R_alloc|apply Kd.R_drewN|apply Kd.R_drew));exact HO_6.out⟩, ⟨by (try simp only [hl4_1]);(with_reducible repeat (first|apply Kd.R_alloc|apply Kd.R_drewN|apply Kd.R_drew));exact HO119.out⟩, ⟨by repeat (first|(with_reducible first|exact HB.out|apply below_alloc|apply pw_below_drewN|apply below_drew1)|exact HB.out)⟩⟩
                ·replace c31 := Bool.eq_false_iff.mpr c31
                 subst c31
                 have H1 : ((some (x6_2.set ((rd x7_2 (ji24)) : Int).toNat true : List Bool)).bind fun y121 => (if (rd x7_2 (ji24)) < (x4_1.length : Int) then ((impl_jumps.f ((rd_T88 x4_1 (rd x7_2 (ji24))).f0)).bind fun t123 => (if t123 = true then (if y117.length < 17592186044416 then ((some (y117 ++ [(rd_T88 x4_1 (rd x7_2 (ji24))).f2] : List Int)).bind fun y125 => (if ((rd_T88 x4_1 (rd x7_2 (ji24))).f0) = 5 then (impl_Tighten.l1 k2 x4_1 y121 y125) else (if ((rd_T88 x4_1 (rd x7_2 (ji24))).f0) = 9 then (impl_Tighten.l1 k2 x4_1 y121 y125) else (if ((rd_T88 x4_1 (rd x7_2 (ji24))).f0) = 10 then (impl_Tighten.l1 k2 x4_1 y121 y125) else (if y125.length < 17592186044416 then (impl_Tighten.l1 k2 x4_1 y121 (y125 ++ [wrap64 ((rd x7_2 (ji24)) + 1)])) else (none)))))) else (none)) else (if ((rd_T88 x4_1 (rd x7_2 (ji24))).f0) = 5 then (impl_Tighten.l1 k2 x4_1 y121 y117) else (if ((rd_T88 x4_1 (rd x7_2 (ji24))).f0) = 9 then (impl_Tighten.l1 k2 x4_1 y121 y117) else (if ((rd_T88 x4_1 (rd x7_2 (ji24))).f0) = 10 then (impl_Tighten.l1 k2 x4_1 y121 y117) else (if y117.length < 17592186044416 then (impl_Tighten.l1 k2 x4_1 y121 (y117 ++ [wrap64 ((rd x7_2 (ji24)) + 1)])) else (none))))))) else (none))) = some (r1, r2) := by rw [if_neg (show ¬ (false = true) by decide)] at H;exact H
                 clear H
                 have H := H1
                 clear H1
                 obtain ⟨y121, hy121⟩ : ∃ y_ : List Bool, y_ = (x6_2.set ((rd x7_2 (ji24)) : Int).toNat true) := ⟨_, rfl⟩
                 replace H : (if (rd x7_2 (ji24)) < (x4_1.length : Int) then ((impl_jumps.f ((rd_T88 x4_1 (rd x7_2 (ji24))).f0)).bind fun t123 => (if t123 = true then (if y117.length < 17592186044416 then ((some (y117 ++ [(rd_T88 x4_1 (rd x7_2 (ji24))).f2] : List Int)).bind fun y125 => (if ((rd_T88 x4_1 (rd x7_2 (ji24))).f0) = 5 then (impl_Tighten.l1 k2 x4_1 y121 y125) else (if ((rd_T88 x4_1 (rd x7_2 (ji24))).f0) = 9 then (impl_Tighten.l1 k2 x4_1 y121 y125) else (if ((rd_T88 x4_1 (rd x7_2 (ji24))).f0) = 10 then (impl_Tighten.l1 k2 x4_1 y121 y125) else (if y125.length < 17592186044416 then (impl_Tighten.l1 k2 x4_1 y121 (y125 ++ [wrap64 ((rd x7_2 (ji24)) + 1)])) else (none)))))) else (none)) else (if ((rd_T88 x4_1 (rd x7_2 (ji24))).f0) = 5 then (impl_Tighten.l1 k2 x4_1 y121 y117) else (if ((rd_T88 x4_1 (rd x7_2 (ji24))).f0) = 9 then (impl_Tighten.l1 k2 x4_1 y121 y117) else (if ((rd_T88 x4_1 (rd x7_2 (ji24))).f0) = 10 then (impl_Tighten.l1 k2 x4_1 y121 y117) else (if y117.length < 17592186044416 then (impl_Tighten.l1 k2 x4_1 y121 (y117 ++ [wrap64 ((rd x7_2 (ji24)) + 1)])) else (none))))))) else (none)) = some (r1, r2) := by first|(rw [hy121];with_reducible exact H)|(have H2_ := (Option.bind_some _ _).symm.trans H;rw [hy121];with_reducible exact H2_)|(have H2_ := (Option.bind_some _ _).symm.trans H;with_reducible exact H2_)|with_reducible exact H|(rw [hy121];exact H)|exact H
                 have Ny121 := Aside0.mk hy121
                 clear hy121
                 by_cases c36 : (rd x7_2 (ji24)) < (x4_1.length : Int)
                 ·rw [if_pos c36] at H
                  have c36b0 : decide ((rd x7_2 (ji24)) < (x4_1.length : Int)) = true := decide_eq_true c36
                  clear c36
                  replace H := Option.bind_eq_some_iff.mp H
                  obtain ⟨t123, A370, H⟩ := H
                  replace H : (if t123 = true then (if y117.length < 17592186044416 then ((some (y117 ++ [(rd_T88 x4_1 (rd x7_2 (ji24))).f2] : List Int)).bind fun y125 => (if ((rd_T88 x4_1 (rd x7_2 (ji24))).f0) = 5 then (impl_Tighten.l1 k2 x4_1 y121 y125) else (if ((rd_T88 x4_1 (rd x7_2 (ji24))).f0) = 9 then (impl_Tighten.l1 k2 x4_1 y121 y125) else (if ((rd_T88 x4_1 (rd x7_2 (ji24))).f0) = 10 then (impl_Tighten.l1 k2 x4_1 y121 y125) else (if y125.length < 17592186044416 then (impl_Tighten.l1 k2 x4_1 y121 (y125 ++ [wrap64 ((rd x7_2 (ji24)) + 1)])) else (none)))))) else (none)) else (if ((rd_T88 x4_1 (rd x7_2 (ji24))).f0) = 5 then (impl_Tighten.l1 k2 x4_1 y121 y117) else (if ((rd_T88 x4_1 (rd x7_2 (ji24))).f0) = 9 then (impl_Tighten.l1 k2 x4_1 y121 y117) else (if ((rd_T88 x4_1 (rd x7_2 (ji24))).f0) = 10 then (impl_Tighten.l1 k2 x4_1 y121 y117) else (if y117.length < 17592186044416 then (impl_Tighten.l1 k2 x4_1 y121 (y117 ++ [wrap64 ((rd x7_2 (ji24)) + 1)])) else (none)))))) = some (r1, r2) := H
                  have A37 := Aside0.mk A370
                  clear A370
                  by_cases c38 : t123 = true
                  ·subst c38
                   have H1 : (if y117.length < 17592186044416 then ((some (y117 ++ [(rd_T88 x4_1 (rd x7_2 (ji24))).f2] : List Int)).bind fun y125 => (if ((rd_T88 x4_1 (rd x7_2 (ji24))).f0) = 5 then (impl_Tighten.l1 k2 x4_1 y121 y125) else (if ((rd_T88 x4_1 (rd x7_2 (ji24))).f0) = 9 then (impl_Tighten.l1 k2 x4_1 y121 y125) else (if ((rd_T88 x4_1 (rd x7_2 (ji24))).f0) = 10 then (impl_Tighten.l1 k2 x4_1 y121 y125) else (if y125.length < 17592186044416 then (impl_Tighten.l1 k2 x4_1 y121 (y125 ++ [wrap64 ((rd x7_2 (ji24)) + 1)])) else (none)))))) else (none)) = some (r1, r2) := by rw [if_pos rfl] at H;exact H
                   clear H
                   have H := H1
                   clear H1
                   by_cases c39 : y117.length < 17592186044416
                   ·rw [if_pos c39] at H
                    have LMc39 := Aside0.mk c39
                    clear c39
                    obtain ⟨y125, hy125⟩ : ∃ y_ : List Int, y_ = (y117 ++ [(rd_T88 x4_1 (rd x7_2 (ji24))).f2]) := ⟨_, rfl⟩
                    replace H : (if ((rd_T88 x4_1 (rd x7_2 (ji24))).f0) = 5 then (impl_Tighten.l1 k2 x4_1 y121 y125) else (if ((rd_T88 x4_1 (rd x7_2 (ji24))).f0) = 9 then (impl_Tighten.l1 k2 x4_1 y121 y125) else (if ((rd_T88 x4_1 (rd x7_2 (ji24))).f0) = 10 then (impl_Tighten.l1 k2 x4_1 y121 y125) else (if y125.length < 17592186044416 then (impl_Tighten.l1 k2 x4_1 y121 (y125 ++ [wrap64 ((rd x7_2 (ji24)) + 1)])) else (none))))) = some (r1, r2) := by first|(rw [hy125];with_reducible exact H)|(have H2_ := (Option.bind_some _ _).symm.trans H;rw [hy125];with_reducible exact H2_)|(have H2_ := (Option.bind_some _ _).symm.trans H;with_reducible exact H2_)|with_reducible exact H|(rw [hy125];exact H)|exact H
                    have Ny125 := Aside0.mk hy125
                    clear hy125
                    by_cases c40 : ((rd_T88 x4_1 (rd x7_2 (ji24))).f0) = 5
                    ·rw [if_pos c40] at H
                     have c40b0 : (((rd_T88 x4_1 (rd x7_2 (ji24))).f0) == 5) = true := beq_iff_eq.mpr c40
                     have c40b1 : (((rd_T88 x4_1 (rd x7_2 (ji24))).f0) != 5) = false := bne_eq_false_iff_eq.mpr c40
                     clear c40
                     have H' := Aside0.mk H
                     clear H
                     obtain ⟨Ao41, co41, eo41⟩ := Kd.R_slice HO_7.out
                     subst eo41
                     have p116 : 0 ≤ ((ji24) : Int) := of_decide_eq_true (by first|(with_reducible assumption)|assumption)
                     have q116 : (ji24) < (x7_2.length : Int) := of_decide_eq_true (by first|(with_reducible assumption)|assumption)
                     obtain ⟨ad116, e116, hx116_0⟩ := Kd.at_int (Kd.R_reads' HO_7.out).2.2 (ji24) p116 q116
                     cases e116
                     replace p116 := eq_true p116
                     replace q116 := eq_true q116
                     have q42 : ((ji24) : Int) ≤ ((x7_2.length : Int) : Int) := of_decide_eq_true (by first|(with_reducible assumption)|assumption)
                     obtain ⟨i042, hi042, _, hsz42, _⟩ := info_parts info3
                     have hcut42 := cut_to (P := Try.prog) 62 3 .i64 Try.underlying62 hi042 (some ad116) x7_2.length co41 (ji24) (of_decide_eq_true (by first|(with_reducible assumption)|assumption)) q42 (Kd.R_reads' HO_7.out).2.1
                     have hr42 := Kd.R_take (m := ((ji24) : Int).toNat) HO_7.out (by omega)
                     have hy42 : y117.length = ((ji24) : Int).toNat := (by rw [Ny117.out, List.length_take];omega)
                     rw [← Ny117.out] at hr42
                     rw [← hy42] at hr42 hcut42
                     clear hy42 hi042 hsz42 HO_7
                     have HO119 := Aside0.mk hr42
                     clear hr42
                     replace q42 := eq_true q42
                     obtain ⟨Ao43, co43, eo43⟩ := Kd.R_slice HO_6.out
                     subst eo43
                     have p120 : 0 ≤ ((rd x7_2 (ji24)) : Int) := of_decide_eq_true (by first|(with_reducible assumption)|assumption)
                     have q120 : (rd x7_2 (ji24)) < (x6_2.length : Int) := of_decide_eq_true (by first|(with_reducible assumption)|assumption)
                     obtain ⟨ad120, e120, hx120_0⟩ := Kd.at_bool (Kd.R_reads' HO_6.out).2.2 (rd x7_2 (ji24)) p120 q120
                     (try rw [← Nbq30.out] at hx120_0)
                     cases e120
                     replace p120 := eq_true p120
                     replace q120 := eq_true q120
                     have p35 : 0 ≤ ((rd x7_2 (ji24)) : Int) := of_decide_eq_true (by first|(with_reducible assumption)|assumption)
                     have q35 : ((rd x7_2 (ji24)) : Int) < ((x6_2.length : Int) : Int) := of_decide_eq_true (by first|(with_reducible assumption)|assumption)
                     obtain ⟨go35, co35, eo35, gb35, gl35, cl35, HG35⟩ := Kd.R_form HO_6.out (by omega)
                     (first|cases eo35|(injection eo35 with ea_ en_ ec_;(first|subst ea_|(injection ea_ with ea_;subst ea_));subst ec_;clear en_))
                     have GB35 := Aside0.mk gb35
                     have GG35 := Aside0.mk HG35
                     clear gb35 gl35 HG35
                     (first|simp only [add_plain] at hx120_0|skip)
                     obtain ⟨hx35_0, hf35_0⟩ := Kd.R_celln false HO_6.out ((rd x7_2 (ji24)) : Int) p35 q35
                     replace p35 := eq_true p35
                     replace q35 := eq_true q35
                     have HP44 := Kd.R_putg HO_6.out ((rd x7_2 (ji24)) : Int) true
                     go_wp2_with (first|((with_reducible refine gate_store (t := 4) (p := 69) rfl ?_);refine store_event (t := 4) (p := 69) (v := ?vo_w45) (w1 := (wr.setCell ⟨go35, ((rd x7_2 (ji24)) : Int).toNat, none⟩ (.bool true))) ?hg ?ho ?hn ?hr ?_;(case ho => rfl);(case hg => rfl);(case hn => rfl);(case hr => first|(go_simp;done)|(go_simp;rfl));intro w45 hw;have hg : wr.grownBy w45 (some go35) := (by rw [hw];exact HP44.2);have hp_ : Kd.R Kd.bool 4 w45 w.heap.size (fun _ => True) (.slice (some ⟨go35, 0, none⟩) x6_2.length co43) y121 := (by rw [hw, Ny121.out];exact HP44.1);clear HP44;have n0_ := Aside0.mk (Kd.R_over' (v := (.slice (some ⟨go35, 0, none⟩) x6_2.length co43)) (by (with_reducible repeat (first|apply Kd.R_alloc|apply Kd.R_drewN|apply Kd.R_drew));exact HO_4.out) (Kd.R_typed HO_6.out) (by decide) hg);have n1_ := Aside0.mk (hp_);have n2_ := Aside0.mk (Kd.R_over' (v := (.slice (some ⟨go35, 0, none⟩) x6_2.length co43)) (by (with_reducible repeat (first|apply Kd.R_alloc|apply Kd.R_drewN|apply Kd.R_drew));exact HO119.out) (Kd.R_typed HO_6.out) (by decide) hg);have n3_ := Aside0.mk ((by rw [hw];exact below_set (HB.out) GB35.out : Below w.heap.size w w45));clear HO_4;clear HO_6;clear HO119;clear HB;have HO_4 := n0_;have HO_6 := n1_;have HO119 := n2_;have HB := n3_;clear n0_ n1_ n2_ n3_;clear hg hw hp_;have p122 : 0 ≤ ((rd x7_2 (ji24)) : Int) := of_decide_eq_true (by first|(with_reducible assumption)|assumption);have q122 : (rd x7_2 (ji24)) < (x4_1.length : Int) := of_decide_eq_true (by first|(with_reducible assumption)|assumption);obtain ⟨ad122, e122, hx122_0, hx122_1, hx122_2⟩ := at_T88 (Kd.R_reads' HO_4.out).2.2 (rd x7_2 (ji24)) p122 q122;cases e122;replace p122 := eq_true p122;replace q122 := eq_true q122)|((with_reducible refine gate_callee (f := 81) rfl ?_);refine goesL_ (some 75) rfl rfl Try.func81 (by kernel_rfl) rfl #[.int .i64 ((rd_T88 x4_1 (rd x7_2 (ji24))).f0)] rfl (by (try simp only [List.map_toArray, List.map_cons, List.map_nil]);first|done|(simp only [hji24];rfl)|rfl|(simp only [List.length_drop, List.length_take];rfl)) ?_;(with_reducible refine (impl_jumps.calls ((rd_T88 x4_1 (rd x7_2 (ji24))).f0) true _ A37.out).mono ?_);rintro e w' ⟨rfl, ⟨nd, rfl⟩⟩;refine ⟨_, rfl, ?_⟩;have p124 : 0 ≤ ((rd x7_2 (ji24)) : Int) := of_decide_eq_true (by first|(with_reducible assumption)|assumption);have q124 : (rd x7_2 (ji24)) < (x4_1.length : Int) := of_decide_eq_true (by first|(with_reducible assumption)|assumption);obtain ⟨ad124, e124, hx124_0, hx124_1, hx124_2⟩ := at_T88 (Kd.R_reads' HO_4.out).2.2 (rd x7_2 (ji24)) p124 q124;obtain rfl : ad122 = ad124 := (by injection e124);replace p124 := eq_true p124;replace q124 := eq_true q124)|((with_reducible refine gate_builtin (b := .append) (xs := #[.tmp 76, .tmp 82]) rfl ?_);at_builtin;refine Kd.R_append (Kd.int .i64) (w0 := w) w.heap.size rfl (.tmp 76) (.tmp 82) 62 3 (.int .i64 0) 8 rfl Try.underlying62 info3 rfl (by decide) (by omega) (.slice (some ad116) y117.length co41) y117 ((rd_T88 x4_1 (rd x7_2 (ji24))).f2) [.int .i64 ((rd_T88 x4_1 (rd x7_2 (ji24))).f2)] (fun _ => True) (fun _ => False) rfl rfl ?aP (fun _ hk => hk.elim) ?aF ?aO ?aB ?aS ?aL ?_;(case aP => exact rfl);(case aB => exact (by repeat (first|(with_reducible first|exact HB.out|apply below_alloc|apply pw_below_drewN|apply below_drew1)|exact HB.out)));(case aF => exact (fun _ _ => trivial));(case aO => exact (by (with_reducible repeat (first|apply Kd.R_alloc|apply Kd.R_drewN|apply Kd.R_drew));exact HO119.out));(case aS => exact (below_size (by repeat (first|(with_reducible first|exact HB.out|apply below_alloc|apply pw_below_drewN|apply below_drew1)|exact HB.out))));(case aL => have := LMc39.out;omega);intro v126 w46 ho hb hg hat;rw [← Ny125.out] at ho;have n0_ := Aside0.mk (Kd.R_over' (by (with_reducible repeat (first|apply Kd.R_alloc|apply Kd.R_drewN|apply Kd.R_drew));exact HO_4.out) (Kd.R_typed (by (with_reducible repeat (first|apply Kd.R_alloc|apply Kd.R_drewN|apply Kd.R_drew));exact HO119.out)) (by decide) hg);have n1_ := Aside0.mk (Kd.R_over' (by (with_reducible repeat (first|apply Kd.R_alloc|apply Kd.R_drewN|apply Kd.R_drew));exact HO_6.out) (Kd.R_typed (by (with_reducible repeat (first|apply Kd.R_alloc|apply Kd.R_drewN|apply Kd.R_drew));exact HO119.out)) (by decide) hg);have n2_ := Aside0.mk (hb);have n3_ := Aside0.mk (ho);clear HO_4;clear HO_6;clear HB;clear HO119;have HO_4 := n0_;have HO_6 := n1_;have HB := n2_;have HO127 := n3_;clear n0_ n1_ n2_ n3_;clear ho hb hg hat;have p128 : 0 ≤ ((rd x7_2 (ji24)) : Int) := of_decide_eq_true (by first|(with_reducible assumption)|assumption);have q128 : (rd x7_2 (ji24)) < (x4_1.length : Int) := of_decide_eq_true (by first|(with_reducible assumption)|assumption);obtain ⟨ad128, e128, hx128_0, hx128_1, hx128_2⟩ := at_T88 (Kd.R_reads' HO_4.out).2.2 (rd x7_2 (ji24)) p128 q128;obtain rfl : ad122 = ad128 := (by injection e128);replace p128 := eq_true p128;replace q128 := eq_true q128))
                     go_roundg k2
                     case measure => have := HK1.out;have := HK2.out;omega
                     case rel => exact ⟨(y121), (y125), H', ⟨by have := HK1.out;have := HK2.out;omega⟩, ⟨by (try simp only [hl4_1]);(with_reducible repeat (first|apply Kd.R_alloc|apply Kd.R_drewN|apply Kd.R_drew));exact HO_4.out⟩, ⟨by (try simp only [hl4_1]);(with_reducible repeat (first|apply Kd.R_alloc|apply Kd.R_drewN|apply Kd.R_drew));exact HO_6.out⟩, ⟨by (try simp only [hl4_1]);(with_reducible repeat (first|apply Kd.R_alloc|apply Kd.R_drewN|apply Kd.R_drew));exact HO127.out⟩, ⟨by repeat (first|(with_reducible first|exact HB.out|apply below_alloc|apply pw_below_drewN|apply below_drew1)|exact HB.out)⟩⟩
                    ·rw [if_neg c40] at H
                     have c40b0 : (((rd_T88 x4_1 (rd x7_2 (ji24))).f0) == 5) = false := beq_eq_false_iff_ne.mpr c40
                     have c40b1 : (((rd_T88 x4_1 (rd x7_2 (ji24))).f0) != 5) = true := bne_iff_ne.mpr c40
                     by_cases c47 : ((rd_T88 x4_1 (rd x7_2 (ji24))).f0) = 9
                     ·rw [if_pos c47] at H
                      have c47b0 : (((rd_T88 x4_1 (rd x7_2 (ji24))).f0) == 9) = true := beq_iff_eq.mpr c47
                      have c47b1 : (((rd_T88 x4_1 (rd x7_2 (ji24))).f0) != 9) = false := bne_eq_false_iff_eq.mpr c47
                      clear c47
                      have H' := Aside0.mk H
                      clear H
                      obtain ⟨Ao48, co48, eo48⟩ := Kd.R_slice HO_7.out
                      subst eo48
                      have p116 : 0 ≤ ((ji24) : Int) := of_decide_eq_true (by first|(with_reducible assumption)|assumption)
                      have q116 : (ji24) < (x7_2.length : Int) := of_decide_eq_true (by first|(with_reducible assumption)|assumption)
                      obtain ⟨ad116, e116, hx116_0⟩ := Kd.at_int (Kd.R_reads' HO_7.out).2.2 (ji24) p116 q116
                      cases e116
                      replace p116 := eq_true p116
                      replace q116 := eq_true q116
                      have q49 : ((ji24) : Int) ≤ ((x7_2.length : Int) : Int) := of_decide_eq_true (by first|(with_reducible assumption)|assumption)
                      obtain ⟨i049, hi049, _, hsz49, _⟩ := info_parts info3
                      have hcut49 := cut_to (P := Try.prog) 62 3 .i64 Try.underlying62 hi049 (some ad116) x7_2.length co48 (ji24) (of_decide_eq_true (by first|(with_reducible assumption)|assumption)) q49 (Kd.R_reads' HO_7.out).2.1
                      have hr49 := Kd.R_take (m := ((ji24) : Int).toNat) HO_7.out (by omega)
                      have hy49 : y117.length = ((ji24) : Int).toNat := (by rw [Ny117.out, List.length_take];omega)
                      rw [← Ny117.out] at hr49
                      rw [← hy49] at hr49 hcut49
                      clear hy49 hi049 hsz49 HO_7
                      have HO119 := Aside0.mk hr49
                      clear hr49
                      replace q49 := eq_true q49
                      obtain ⟨Ao50, co50, eo50⟩ := Kd.R_slice HO_6.out
                      subst eo50
                      have p120 : 0 ≤ ((rd x7_2 (ji24)) : Int) := of_decide_eq_true (by first|(with_reducible assumption)|assumption)
                      have q120 : (rd x7_2 (ji24)) < (x6_2.length : Int) := of_decide_eq_true (by first|(with_reducible assumption)|assumption)
                      obtain ⟨ad120, e120, hx120_0⟩ := Kd.at_bool (Kd.R_reads' HO_6.out).2.2 (rd x7_2 (ji24)) p120 q120
                      (try rw [← Nbq30.out] at hx120_0)
                      cases e120
                      replace p120 := eq_true p120
                      replace q120 := eq_true q120
                      have p35 : 0 ≤ ((rd x7_2 (ji24)) : Int) := of_decide_eq_true (by first|(with_reducible assumption)|assumption)
                      have q35 : ((rd x7_2 (ji24)) : Int) < ((x6_2.length : Int) : Int) := of_decide_eq_true (by first|(with_reducible assumption)|assumption)
                      obtain ⟨go35, co35, eo35, gb35, gl35, cl35, HG35⟩ := Kd.R_form HO_6.out (by omega)
                      (first|cases eo35|(injection eo35 with ea_ en_ ec_;(first|subst ea_|(injection ea_ with ea_;subst ea_));subst ec_;clear en_))
                      have GB35 := Aside0.mk gb35
                      have GG35 := Aside0.mk HG35
                      clear gb35 gl35 HG35
                      (first|simp only [add_plain] at hx120_0|skip)
                      obtain ⟨hx35_0, hf35_0⟩ := Kd.R_celln false HO_6.out ((rd x7_2 (ji24)) : Int) p35 q35
                      replace p35 := eq_true p35
                      replace q35 := eq_true q35
                      have HP51 := Kd.R_putg HO_6.out ((rd x7_2 (ji24)) : Int) true
                      go_wp2_with (first|((with_reducible refine gate_store (t := 4) (p := 69) rfl ?_);refine store_event (t := 4) (p := 69) (v := ?vo_w52) (w1 := (wr.setCell ⟨go35, ((rd x7_2 (ji24)) : Int).toNat, none⟩ (.bool true))) ?hg ?ho ?hn ?hr ?_;(case ho => rfl);(case hg => rfl);(case hn => rfl);(case hr => first|(go_simp;done)|(go_simp;rfl));intro w52 hw;have hg : wr.grownBy w52 (some go35) := (by rw [hw];exact HP51.2);have hp_ : Kd.R Kd.bool 4 w52 w.heap.size (fun _ => True) (.slice (some ⟨go35, 0, none⟩) x6_2.length co50) y121 := (by rw [hw, Ny121.out];exact HP51.1);clear HP51;have n0_ := Aside0.mk (Kd.R_over' (v := (.slice (some ⟨go35, 0, none⟩) x6_2.length co50)) (by (with_reducible repeat (first|apply Kd.R_alloc|apply Kd.R_drewN|apply Kd.R_drew));exact HO_4.out) (Kd.R_typed HO_6.out) (by decide) hg);have n1_ := Aside0.mk (hp_);have n2_ := Aside0.mk (Kd.R_over' (v := (.slice (some ⟨go35, 0, none⟩) x6_2.length co50)) (by (with_reducible repeat (first|apply Kd.R_alloc|apply Kd.R_drewN|apply Kd.R_drew));exact HO119.out) (Kd.R_typed HO_6.out) (by decide) hg);have n3_ := Aside0.mk ((by rw [hw];exact below_set (HB.out) GB35.out : Below w.heap.size w w52));clear HO_4;clear HO_6;clear HO119;clear HB;have HO_4 := n0_;have HO_6 := n1_;have HO119 := n2_;have HB := n3_;clear n0_ n1_ n2_ n3_;clear hg hw hp_;have p122 : 0 ≤ ((rd x7_2 (ji24)) : Int) := of_decide_eq_true (by first|(with_reducible assumption)|assumption);have q122 : (rd x7_2 (ji24)) < (x4_1.length : Int) := of_decide_eq_true (by first|(with_reducible assumption)|assumption);obtain ⟨ad122, e122, hx122_0, hx122_1, hx122_2⟩ := at_T88 (Kd.R_reads' HO_4.out).2.2 (rd x7_2 (ji24)) p122 q122;cases e122;replace p122 := eq_true p122;replace q122 := eq_true q122)|((with_reducible refine gate_callee (f := 81) rfl ?_);refine goesL_ (some 75) rfl rfl Try.func81 (by kernel_rfl) rfl #[.int .i64 ((rd_T88 x4_1 (rd x7_2 (ji24))).f0)] rfl (by (try simp only [List.map_toArray, List.map_cons, List.map_nil]);first|done|(simp only [hji24];rfl)|rfl|(simp only [List.length_drop, List.length_take];rfl)) ?_;(with_reducible refine (impl_jumps.calls ((rd_T88 x4_1 (rd x7_2 (ji24))).f0) true _ A37.out).mono ?_);rintro e w' ⟨rfl, ⟨nd, rfl⟩⟩;refine ⟨_, rfl, ?_⟩;have p124 : 0 ≤ ((rd x7_2 (ji24)) : Int) := of_decide_eq_true (by first|(with_reducible assumption)|assumption);have q124 : (rd x7_2 (ji24)) < (x4_1.length : Int) := of_decide_eq_true (by first|(with_reducible assumption)|assumption);obtain ⟨ad124, e124, hx124_0, hx124_1, hx124_2⟩ := at_T88 (Kd.R_reads' HO_4.out).2.2 (rd x7_2 (ji24)) p124 q124;obtain rfl : ad122 = ad124 := (by injection e124);replace p124 := eq_true p124;replace q124 := eq_true q124)|((with_reducible refine gate_builtin (b := .append) (xs := #[.tmp 76, .tmp 82]) rfl ?_);at_builtin;refine Kd.R_append (Kd.int .i64) (w0 := w) w.heap.size rfl (.tmp 76) (.tmp 82) 62 3 (.int .i64 0) 8 rfl Try.underlying62 info3 rfl (by decide) (by omega) (.slice (some ad116) y117.length co48) y117 ((rd_T88 x4_1 (rd x7_2 (ji24))).f2) [.int .i64 ((rd_T88 x4_1 (rd x7_2 (ji24))).f2)] (fun _ => True) (fun _ => False) rfl rfl ?aP (fun _ hk => hk.elim) ?aF ?aO ?aB ?aS ?aL ?_;(case aP => exact rfl);(case aB => exact (by repeat (first|(with_reducible first|exact HB.out|apply below_alloc|apply pw_below_drewN|apply below_drew1)|exact HB.out)));(case aF => exact (fun _ _ => trivial));(case aO => exact (by (with_reducible repeat (first|apply Kd.R_alloc|apply Kd.R_drewN|apply Kd.R_drew));exact HO119.out));(case aS => exact (below_size (by repeat (first|(with_reducible first|exact HB.out|apply below_alloc|apply pw_below_drewN|apply below_drew1)|exact HB.out))));(case aL => have := LMc39.out;omega);intro v126 w53 ho hb hg hat;rw [← Ny125.out] at ho;have n0_ := Aside0.mk (Kd.R_over' (by (with_reducible repeat (first|apply Kd.R_alloc|apply Kd.R_drewN|apply Kd.R_drew));exact HO_4.out) (Kd.R_typed (by (with_reducible repeat (first|apply Kd.R_alloc|apply Kd.R_drewN|apply Kd.R_drew));exact HO119.out)) (by decide) hg);have n1_ := Aside0.mk (Kd.R_over' (by (with_reducible repeat (first|apply Kd.R_alloc|apply Kd.R_drewN|apply Kd.R_drew));exact HO_6.out) (Kd.R_typed (by (with_reducible repeat (first|apply Kd.R_alloc|apply Kd.R_drewN|apply Kd.R_drew));exact HO119.out)) (by decide) hg);have n2_ := Aside0.mk (hb);have n3_ := Aside0.mk (ho);clear HO_4;clear HO_6;clear HB;clear HO119;have HO_4 := n0_;have HO_6 := n1_;have HB := n2_;have HO127 := n3_;clear n0_ n1_ n2_ n3_;clear ho hb hg hat;have p128 : 0 ≤ ((rd x7_2 (ji24)) : Int) := of_decide_eq_true (by first|(with_reducible assumption)|assumption);have q128 : (rd x7_2 (ji24)) < (x4_1.length : Int) := of_decide_eq_true (by first|(with_reducible assumption)|assumption);obtain ⟨ad128, e128, hx128_0, hx128_1, hx128_2⟩ := at_T88 (Kd.R_reads' HO_4.out).2.2 (rd x7_2 (ji24)) p128 q128;obtain rfl : ad122 = ad128 := (by injection e128);replace p128 := eq_true p128;replace q128 := eq_true q128;have p129 : 0 ≤ ((rd x7_2 (ji24)) : Int) := of_decide_eq_true (by first|(with_reducible assumption)|assumption);have q129 : (rd x7_2 (ji24)) < (x4_1.length : Int) := of_decide_eq_true (by first|(with_reducible assumption)|assumption);obtain ⟨ad129, e129, hx129_0, hx129_1, hx129_2⟩ := at_T88 (Kd.R_reads' HO_4.out).2.2 (rd x7_2 (ji24)) p129 q129;obtain rfl : ad122 = ad129 := (by injection e129);replace p129 := eq_true p129;replace q129 := eq_true q129))
                      go_roundg k2
                      case measure => have := HK1.out;have := HK2.out;omega
                      case rel => exact ⟨(y121), (y125), H', ⟨by have := HK1.out;have := HK2.out;omega⟩, ⟨by (try simp only [hl4_1]);(with_reducible repeat (first|apply Kd.R_alloc|apply Kd.R_drewN|apply Kd.R_drew));exact HO_4.out⟩, ⟨by (try simp only [hl4_1]);(with_reducible repeat (first|apply Kd.R_alloc|apply Kd.R_drewN|apply Kd.R_drew));exact HO_6.out⟩, ⟨by (try simp only [hl4_1]);(with_reducible repeat (first|apply Kd.R_alloc|apply Kd.R_drewN|apply Kd.R_drew));exact HO127.out⟩, ⟨by repeat (first|(with_reducible first|exact HB.out|apply below_alloc|apply pw_below_drewN|apply below_drew1)|exact HB.out)⟩⟩
                     ·rw [if_neg c47] at H
                      have c47b0 : (((rd_T88 x4_1 (rd x7_2 (ji24))).f0) == 9) = false := beq_eq_false_iff_ne.mpr c47
                      have c47b1 : (((rd_T88 x4_1 (rd x7_2 (ji24))).f0) != 9) = true := bne_iff_ne.mpr c47
                      by_cases c54 : ((rd_T88 x4_1 (rd x7_2 (ji24))).f0) = 10
                      ·rw [if_pos c54] at H
                       have c54b0 : (((rd_T88 x4_1 (rd x7_2 (ji24))).f0) == 10) = true := beq_iff_eq.mpr c54
                       have c54b1 : (((rd_T88 x4_1 (rd x7_2 (ji24))).f0) != 10) = false := bne_eq_false_iff_eq.mpr c54
                       clear c54
                       have H' := Aside0.mk H
                       clear H
                       obtain ⟨Ao55, co55, eo55⟩ := Kd.R_slice HO_7.out
                       subst eo55
                       have p116 : 0 ≤ ((ji24) : Int) := of_decide_eq_true (by first|(with_reducible assumption)|assumption)
                       have q116 : (ji24) < (x7_2.length : Int) := of_decide_eq_true (by first|(with_reducible assumption)|assumption)
                       obtain ⟨ad116, e116, hx116_0⟩ := Kd.at_int (Kd.R_reads' HO_7.out).2.2 (ji24) p116 q116
                       cases e116
                       replace p116 := eq_true p116
                       replace q116 := eq_true q116
                       have q56 : ((ji24) : Int) ≤ ((x7_2.length : Int) : Int) := of_decide_eq_true (by first|(with_reducible assumption)|assumption)
                       obtain ⟨i056, hi056, _, hsz56, _⟩ := info_parts info3
                       have hcut56 := cut_to (P := Try.prog) 62 3 .i64 Try.underlying62 hi056 (some ad116) x7_2.length co55 (ji24) (of_decide_eq_true (by first|(with_reducible assumption)|assumption)) q56 (Kd.R_reads' HO_7.out).2.1
                       have hr56 := Kd.R_take (m := ((ji24) : Int).toNat) HO_7.out (by omega)
                       have hy56 : y117.length = ((ji24) : Int).toNat := (by rw [Ny117.out, List.length_take];omega)
                       rw [← Ny117.out] at hr56
                       rw [← hy56] at hr56 hcut56
                       clear hy56 hi056 hsz56 HO_7
                       have HO119 := Aside0.mk hr56
                       clear hr56
                       replace q56 := eq_true q56
                       obtain ⟨Ao57, co57, eo57⟩ := Kd.R_slice HO_6.out
                       subst eo57
                       have p120 : 0 ≤ ((rd x7_2 (ji24)) : Int) := of_decide_eq_true (by first|(with_reducible assumption)|assumption)
                       have q120 : (rd x7_2 (ji24)) < (x6_2.length : Int) := of_decide_eq_true (by first|(with_reducible assumption)|assumption)
                       obtain ⟨ad120, e120, hx120_0⟩ := Kd.at_bool (Kd.R_reads' HO_6.out).2.2 (rd x7_2 (ji24)) p120 q120
                       (try rw [← Nbq30.out] at hx120_0)
                       cases e120
                       replace p120 := eq_true p120
                       replace q120 := eq_true q120
                       have p35 : 0 ≤ ((rd x7_2 (ji24)) : Int) := of_decide_eq_true (by first|(with_reducible assumption)|assumption)
                       have q35 : ((rd x7_2 (ji24)) : Int) < ((x6_2.length : Int) : Int) := of_decide_eq_true (by first|(with_reducible assumption)|assumption)
                       obtain ⟨go35, co35, eo35, gb35, gl35, cl35, HG35⟩ := Kd.R_form HO_6.out (by omega)
                       (first|cases eo35|(injection eo35 with ea_ en_ ec_;(first|subst ea_|(injection ea_ with ea_;subst ea_));subst ec_;clear en_))
                       have GB35 := Aside0.mk gb35
                       have GG35 := Aside0.mk HG35
                       clear gb35 gl35 HG35
                       (first|simp only [add_plain] at hx120_0|skip)
                       obtain ⟨hx35_0, hf35_0⟩ := Kd.R_celln false HO_6.out ((rd x7_2 (ji24)) : Int) p35 q35
                       replace p35 := eq_true p35
                       replace q35 := eq_true q35
                       have HP58 := Kd.R_putg HO_6.out ((rd x7_2 (ji24)) : Int) true
                       go_wp2_with (first|((with_reducible refine gate_store (t := 4) (p := 69) rfl ?_);refine store_event (t := 4) (p := 69) (v := ?vo_w59) (w1 := (wr.setCell ⟨go35, ((rd x7_2 (ji24)) : Int).toNat, none⟩ (.bool true))) ?hg ?ho ?hn ?hr ?_;(case ho => rfl);(case hg => rfl);(case hn => rfl);(case hr => first|(go_simp;done)|(go_simp;rfl));intro w59 hw;have hg : wr.grownBy w59 (some go35) := (by rw [hw];exact HP58.2);have hp_ : Kd.R Kd.bool 4 w59 w.heap.size (fun _ => True) (.slice (some ⟨go35, 0, none⟩) x6_2.length co57) y121 := (by rw [hw, Ny121.out];exact HP58.1);clear HP58;have n0_ := Aside0.mk (Kd.R_over' (v := (.slice (some ⟨go35, 0, none⟩) x6_2.length co57)) (by (with_reducible repeat (first|apply Kd.R_alloc|apply Kd.R_drewN|apply Kd.R_drew));exact HO_4.out) (Kd.R_typed HO_6.out) (by decide) hg);have n1_ := Aside0.mk (hp_);have n2_ := Aside0.mk (Kd.R_over' (v := (.slice (some ⟨go35, 0, none⟩) x6_2.length co57)) (by (with_reducible repeat (first|apply Kd.R_alloc|apply Kd.R_drewN|apply Kd.R_drew));exact HO119.out) (Kd.R_typed HO_6.out) (by decide) hg);have n3_ := Aside0.mk ((by rw [hw];exact below_set (HB.out) GB35.out : Below w.heap.size w w59));clear HO_4;clear HO_6;clear HO119;clear HB;have HO_4 := n0_;have HO_6 := n1_;have HO119 := n2_;have HB := n3_;clear n0_ n1_ n2_ n3_;clear hg hw hp_;have p122 : 0 ≤ ((rd x7_2 (ji24)) : Int) := of_decide_eq_true (by first|(with_reducible assumption)|assumption);have q122 : (rd x7_2 (ji24)) < (x4_1.length : Int) := of_decide_eq_true (by first|(with_reducible assumption)|assumption);obtain ⟨ad122, e122, hx122_0, hx122_1, hx122_2⟩ := at_T88 (Kd.R_reads' HO_4.out).2.2 (rd x7_2 (ji24)) p122 q122;cases e122;replace p122 := eq_true p122;replace q122 := eq_true q122)|((with_reducible refine gate_callee (f := 81) rfl ?_);refine goesL_ (some 75) rfl rfl Try.func81 (by kernel_rfl) rfl #[.int .i64 ((rd_T88 x4_1 (rd x7_2 (ji24))).f0)] rfl (by (try simp only [List.map_toArray, List.map_cons, List.map_nil]);first|done|(simp only [hji24];rfl)|rfl|(simp only [List.length_drop, List.length_take];rfl)) ?_;(with_reducible refine (impl_jumps.calls ((rd_T88 x4_1 (rd x7_2 (ji24))).f0) true _ A37.out).mono ?_);rintro e w' ⟨rfl, ⟨nd, rfl⟩⟩;refine ⟨_, rfl, ?_⟩;have p124 : 0 ≤ ((rd x7_2 (ji24)) : Int) := of_decide_eq_true (by first|(with_reducible assumption)|assumption);have q124 : (rd x7_2 (ji24)) < (x4_1.length : Int) := of_decide_eq_true (by first|(with_reducible assumption)|assumption);obtain ⟨ad124, e124, hx124_0, hx124_1, hx124_2⟩ := at_T88 (Kd.R_reads' HO_4.out).2.2 (rd x7_2 (ji24)) p124 q124;obtain rfl : ad122 = ad124 := (by injection e124);replace p124 := eq_true p124;replace q124 := eq_true q124)|((with_reducible refine gate_builtin (b := .append) (xs := #[.tmp 76, .tmp 82]) rfl ?_);at_builtin;refine Kd.R_append (Kd.int .i64) (w0 := w) w.heap.size rfl (.tmp 76) (.tmp 82) 62 3 (.int .i64 0) 8 rfl Try.underlying62 info3 rfl (by decide) (by omega) (.slice (some ad116) y117.length co55) y117 ((rd_T88 x4_1 (rd x7_2 (ji24))).f2) [.int .i64 ((rd_T88 x4_1 (rd x7_2 (ji24))).f2)] (fun _ => True) (fun _ => False) rfl rfl ?aP (fun _ hk => hk.elim) ?aF ?aO ?aB ?aS ?aL ?_;(case aP => exact rfl);(case aB => exact (by repeat (first|(with_reducible first|exact HB.out|apply below_alloc|apply pw_below_drewN|apply below_drew1)|exact HB.out)));(case aF => exact (fun _ _ => trivial));(case aO => exact (by (with_reducible repeat (first|apply Kd.R_alloc|apply Kd.R_drewN|apply Kd.R_drew));exact HO119.out));(case aS => exact (below_size (by repeat (first|(with_reducible first|exact HB.out|apply below_alloc|apply pw_below_drewN|apply below_drew1)|exact HB.out))));(case aL => have := LMc39.out;omega);intro v126 w60 ho hb hg hat;rw [← Ny125.out] at ho;have n0_ := Aside0.mk (Kd.R_over' (by (with_reducible repeat (first|apply Kd.R_alloc|apply Kd.R_drewN|apply Kd.R_drew));exact HO_4.out) (Kd.R_typed (by (with_reducible repeat (first|apply Kd.R_alloc|apply Kd.R_drewN|apply Kd.R_drew));exact HO119.out)) (by decide) hg);have n1_ := Aside0.mk (Kd.R_over' (by (with_reducible repeat (first|apply Kd.R_alloc|apply Kd.R_drewN|apply Kd.R_drew));exact HO_6.out) (Kd.R_typed (by (with_reducible repeat (first|apply Kd.R_alloc|apply Kd.R_drewN|apply Kd.R_drew));exact HO119.out)) (by decide) hg);have n2_ := Aside0.mk (hb);have n3_ := Aside0.mk (ho);clear HO_4;clear HO_6;clear HB;clear HO119;have HO_4 := n0_;have HO_6 := n1_;have HB := n2_;have HO127 := n3_;clear n0_ n1_ n2_ n3_;clear ho hb hg hat;have p128 : 0 ≤ ((rd x7_2 (ji24)) : Int) := of_decide_eq_true (by first|(with_reducible assumption)|assumption);have q128 : (rd x7_2 (ji24)) < (x4_1.length : Int) := of_decide_eq_true (by first|(with_reducible assumption)|assumption);obtain ⟨ad128, e128, hx128_0, hx128_1, hx128_2⟩ := at_T88 (Kd.R_reads' HO_4.out).2.2 (rd x7_2 (ji24)) p128 q128;obtain rfl : ad122 = ad128 := (by injection e128);replace p128 := eq_true p128;replace q128 := eq_true q128;have p129 : 0 ≤ ((rd x7_2 (ji24)) : Int) := of_decide_eq_true (by first|(with_reducible assumption)|assumption);have q129 : (rd x7_2 (ji24)) < (x4_1.length : Int) := of_decide_eq_true (by first|(with_reducible assumption)|assumption);obtain ⟨ad129, e129, hx129_0, hx129_1, hx129_2⟩ := at_T88 (Kd.R_reads' HO_4.out).2.2 (rd x7_2 (ji24)) p129 q129;obtain rfl : ad122 = ad129 := (by injection e129);replace p129 := eq_true p129;replace q129 := eq_true q129;have p130 : 0 ≤ ((rd x7_2 (ji24)) : Int) := of_decide_eq_true (by first|(with_reducible assumption)|assumption);have q130 : (rd x7_2 (ji24)) < (x4_1.length : Int) := of_decide_eq_true (by first|(with_reducible assumption)|assumption);obtain ⟨ad130, e130, hx130_0, hx130_1, hx130_2⟩ := at_T88 (Kd.R_reads' HO_4.out).2.2 (rd x7_2 (ji24)) p130 q130;obtain rfl : ad122 = ad130 := (by injection e130);replace p130 := eq_true p130;replace q130 := eq_true q130))
                       go_roundg k2
                       case measure => have := HK1.out;have := HK2.out;omega
                       case rel => exact ⟨(y121), (y125), H', ⟨by have := HK1.out;have := HK2.out;omega⟩, ⟨by (try simp only [hl4_1]);(with_reducible repeat (first|apply Kd.R_alloc|apply Kd.R_drewN|apply Kd.R_drew));exact HO_4.out⟩, ⟨by (try simp only [hl4_1]);(with_reducible repeat (first|apply Kd.R_alloc|apply Kd.R_drewN|apply Kd.R_drew));exact HO_6.out⟩, ⟨by (try simp only [hl4_1]);(with_reducible repeat (first|apply Kd.R_alloc|apply Kd.R_drewN|apply Kd.R_drew));exact HO127.out⟩, ⟨by repeat (first|(with_reducible first|exact HB.out|apply below_alloc|apply pw_below_drewN|apply below_drew1)|exact HB.out)⟩⟩
                      ·rw [if_neg c54] at H
                       have c54b0 : (((rd_T88 x4_1 (rd x7_2 (ji24))).f0) == 10) = false := beq_eq_false_iff_ne.mpr c54
                       have c54b1 : (((rd_T88 x4_1 (rd x7_2 (ji24))).f0) != 10) = true := bne_iff_ne.mpr c54
                       by_cases c61 : y125.length < 17592186044416
                       ·rw [if_pos c61] at H
                        have LMc61 := Aside0.mk c61
                        clear c61
                        obtain ⟨y131, hy131⟩ : ∃ y_ : List Int, y_ = (y125 ++ [wrap64 ((rd x7_2 (ji24)) + 1)]) := ⟨_, rfl⟩
                        replace H : (impl_Tighten.l1 k2 x4_1 y121 y131) = some (r1, r2) := by first|(rw [hy131];with_reducible exact H)|(have H2_ := (Option.bind_some _ _).symm.trans H;rw [hy131];with_reducible exact H2_)|(have H2_ := (Option.bind_some _ _).symm.trans H;with_reducible exact H2_)|with_reducible exact H|(rw [hy131];exact H)|exact H
                        have Ny131 := Aside0.mk hy131
                        clear hy131
                        have H' := Aside0.mk H
                        clear H
                        obtain ⟨Ao62, co62, eo62⟩ := Kd.R_slice HO_7.out
                        subst eo62
                        have p116 : 0 ≤ ((ji24) : Int) := of_decide_eq_true (by first|(with_reducible assumption)|assumption)
                        have q116 : (ji24) < (x7_2.length : Int) := of_decide_eq_true (by first|(with_reducible assumption)|assumption)
                        obtain ⟨ad116, e116, hx116_0⟩ := Kd.at_int (Kd.R_reads' HO_7.out).2.2 (ji24) p116 q116
                        cases e116
                        replace p116 := eq_true p116
                        replace q116 := eq_true q116
                        have q63 : ((ji24) : Int) ≤ ((x7_2.length : Int) : Int) := of_decide_eq_true (by first|(with_reducible assumption)|assumption)
                        obtain ⟨i063, hi063, _, hsz63, _⟩ := info_parts info3
                        have hcut63 := cut_to (P := Try.prog) 62 3 .i64 Try.underlying62 hi063 (some ad116) x7_2.length co62 (ji24) (of_decide_eq_true (by first|(with_reducible assumption)|assumption)) q63 (Kd.R_reads' HO_7.out).2.1
                        have hr63 := Kd.R_take (m := ((ji24) : Int).toNat) HO_7.out (by omega)
                        have hy63 : y117.length = ((ji24) : Int).toNat := (by rw [Ny117.out, List.length_take];omega)
                        rw [← Ny117.out] at hr63
                        rw [← hy63] at hr63 hcut63
                        clear hy63 hi063 hsz63 HO_7
                        have HO119 := Aside0.mk hr63
                        clear hr63
                        replace q63 := eq_true q63
                        obtain ⟨Ao64, co64, eo64⟩ := Kd.R_slice HO_6.out
                        subst eo64
                        have p120 : 0 ≤ ((rd x7_2 (ji24)) : Int) := of_decide_eq_true (by first|(with_reducible assumption)|assumption)
                        have q120 : (rd x7_2 (ji24)) < (x6_2.length : Int) := of_decide_eq_true (by first|(with_reducible assumption)|assumption)
                        obtain ⟨ad120, e120, hx120_0⟩ := Kd.at_bool (Kd.R_reads' HO_6.out).2.2 (rd x7_2 (ji24)) p120 q120
                        (try rw [← Nbq30.out] at hx120_0)
                        cases e120
                        replace p120 := eq_true p120
                        replace q120 := eq_true q120
                        have p35 : 0 ≤ ((rd x7_2 (ji24)) : Int) := of_decide_eq_true (by first|(with_reducible assumption)|assumption)
                        have q35 : ((rd x7_2 (ji24)) : Int) < ((x6_2.length : Int) : Int) := of_decide_eq_true (by first|(with_reducible assumption)|assumption)
                        obtain ⟨go35, co35, eo35, gb35, gl35, cl35, HG35⟩ := Kd.R_form HO_6.out (by omega)
                        (first|cases eo35|(injection eo35 with ea_ en_ ec_;(first|subst ea_|(injection ea_ with ea_;subst ea_));subst ec_;clear en_))
                        have GB35 := Aside0.mk gb35
                        have GG35 := Aside0.mk HG35
                        clear gb35 gl35 HG35
                        (first|simp only [add_plain] at hx120_0|skip)
                        obtain ⟨hx35_0, hf35_0⟩ := Kd.R_celln false HO_6.out ((rd x7_2 (ji24)) : Int) p35 q35
                        replace p35 := eq_true p35
                        replace q35 := eq_true q35
                        have HP65 := Kd.R_putg HO_6.out ((rd x7_2 (ji24)) : Int) true
                        go_wp2_with (first|((with_reducible refine gate_store (t := 4) (p := 69) rfl ?_);refine store_event (t := 4) (p := 69) (v := ?vo_w66) (w1 := (wr.setCell ⟨go35, ((rd x7_2 (ji24)) : Int).toNat, none⟩ (.bool true))) ?hg ?ho ?hn ?hr ?_;(case ho => rfl);(case hg => rfl);(case hn => rfl);(case hr => first|(go_simp;done)|(go_simp;rfl));intro w66 hw;have hg : wr.grownBy w66 (some go35) := (by rw [hw];exact HP65.2);have hp_ : Kd.R Kd.bool 4 w66 w.heap.size (fun _ => True) (.slice (some ⟨go35, 0, none⟩) x6_2.length co64) y121 := (by rw [hw, Ny121.out];exact HP65.1);clear HP65;have n0_ := Aside0.mk (Kd.R_over' (v := (.slice (some ⟨go35, 0, none⟩) x6_2.length co64)) (by (with_reducible repeat (first|apply Kd.R_alloc|apply Kd.R_drewN|apply Kd.R_drew));exact HO_4.out) (Kd.R_typed HO_6.out) (by decide) hg);have n1_ := Aside0.mk (hp_);have n2_ := Aside0.mk (Kd.R_over' (v := (.slice (some ⟨go35, 0, none⟩) x6_2.length co64)) (by (with_reducible repeat (first|apply Kd.R_alloc|apply Kd.R_drewN|apply Kd.R_drew));exact HO119.out) (Kd.R_typed HO_6.out) (by decide) hg);have n3_ := Aside0.mk ((by rw [hw];exact below_set (HB.out) GB35.out : Below w.heap.size w w66));clear HO_4;clear HO_6;clear HO119;clear HB;have HO_4 := n0_;have HO_6 := n1_;have HO119 := n2_;have HB := n3_;clear n0_ n1_ n2_ n3_;clear hg hw hp_;have p122 : 0 ≤ ((rd x7_2 (ji24)) : Int) := of_decide_eq_true (by first|(with_reducible assumption)|assumption);have q122 : (rd x7_2 (ji24)) < (x4_1.length : Int) := of_decide_eq_true (by first|(with_reducible assumption)|assumption);obtain ⟨ad122, e122, hx122_0, hx122_1, hx122_2⟩ := at_T88 (Kd.R_reads' HO_4.out).2.2 (rd x7_2 (ji24)) p122 q122;cases e122;replace p122 := eq_true p122;replace q122 := eq_true q122)|((with_reducible refine gate_callee (f := 81) rfl ?_);refine goesL_ (some 75) rfl rfl Try.func81 (by kernel_rfl) rfl #[.int .i64 ((rd_T88 x4_1 (rd x7_2 (ji24))).f0)] rfl (by (try simp only [List.map_toArray, List.map_cons, List.map_nil]);first|done|(simp only [hji24];rfl)|rfl|(simp only [List.length_drop, List.length_take];rfl)) ?_;(with_reducible refine (impl_jumps.calls ((rd_T88 x4_1 (rd x7_2 (ji24))).f0) true _ A37.out).mono ?_);rintro e w' ⟨rfl, ⟨nd, rfl⟩⟩;refine ⟨_, rfl, ?_⟩;have p124 : 0 ≤ ((rd x7_2 (ji24)) : Int) := of_decide_eq_true (by first|(with_reducible assumption)|assumption);have q124 : (rd x7_2 (ji24)) < (x4_1.length : Int) := of_decide_eq_true (by first|(with_reducible assumption)|assumption);obtain ⟨ad124, e124, hx124_0, hx124_1, hx124_2⟩ := at_T88 (Kd.R_reads' HO_4.out).2.2 (rd x7_2 (ji24)) p124 q124;obtain rfl : ad122 = ad124 := (by injection e124);replace p124 := eq_true p124;replace q124 := eq_true q124)|((with_reducible refine gate_builtin (b := .append) (xs := #[.tmp 76, .tmp 82]) rfl ?_);at_builtin;refine Kd.R_append (Kd.int .i64) (w0 := w) w.heap.size rfl (.tmp 76) (.tmp 82) 62 3 (.int .i64 0) 8 rfl Try.underlying62 info3 rfl (by decide) (by omega) (.slice (some ad116) y117.length co62) y117 ((rd_T88 x4_1 (rd x7_2 (ji24))).f2) [.int .i64 ((rd_T88 x4_1 (rd x7_2 (ji24))).f2)] (fun _ => True) (fun _ => False) rfl rfl ?aP (fun _ hk => hk.elim) ?aF ?aO ?aB ?aS ?aL ?_;(case aP => exact rfl);(case aB => exact (by repeat (first|(with_reducible first|exact HB.out|apply below_alloc|apply pw_below_drewN|apply below_drew1)|exact HB.out)));(case aF => exact (fun _ _ => trivial));(case aO => exact (by (with_reducible repeat (first|apply Kd.R_alloc|apply Kd.R_drewN|apply Kd.R_drew));exact HO119.out));(case aS => exact (below_size (by repeat (first|(with_reducible first|exact HB.out|apply below_alloc|apply pw_below_drewN|apply below_drew1)|exact HB.out))));(case aL => have := LMc39.out;omega);intro v126 w67 ho hb hg hat;rw [← Ny125.out] at ho;have n0_ := Aside0.mk (Kd.R_over' (by (with_reducible repeat (first|apply Kd.R_alloc|apply Kd.R_drewN|apply Kd.R_drew));exact HO_4.out) (Kd.R_typed (by (with_reducible repeat (first|apply Kd.R_alloc|apply Kd.R_drewN|apply Kd.R_drew));exact HO119.out)) (by decide) hg);have n1_ := Aside0.mk (Kd.R_over' (by (with_reducible repeat (first|apply Kd.R_alloc|apply Kd.R_drewN|apply Kd.R_drew));exact HO_6.out) (Kd.R_typed (by (with_reducible repeat (first|apply Kd.R_alloc|apply Kd.R_drewN|apply Kd.R_drew));exact HO119.out)) (by decide) hg);have n2_ := Aside0.mk (hb);have n3_ := Aside0.mk (ho);clear HO_4;clear HO_6;clear HB;clear HO119;have HO_4 := n0_;have HO_6 := n1_;have HB := n2_;have HO127 := n3_;clear n0_ n1_ n2_ n3_;clear ho hb hg hat;have p128 : 0 ≤ ((rd x7_2 (ji24)) : Int) := of_decide_eq_true (by first|(with_reducible assumption)|assumption);have q128 : (rd x7_2 (ji24)) < (x4_1.length : Int) := of_decide_eq_true (by first|(with_reducible assumption)|assumption);obtain ⟨ad128, e128, hx128_0, hx128_1, hx128_2⟩ := at_T88 (Kd.R_reads' HO_4.out).2.2 (rd x7_2 (ji24)) p128 q128;obtain rfl : ad122 = ad128 := (by injection e128);replace p128 := eq_true p128;replace q128 := eq_true q128;have p129 : 0 ≤ ((rd x7_2 (ji24)) : Int) := of_decide_eq_true (by first|(with_reducible assumption)|assumption);have q129 : (rd x7_2 (ji24)) < (x4_1.length : Int) := of_decide_eq_true (by first|(with_reducible assumption)|assumption);obtain ⟨ad129, e129, hx129_0, hx129_1, hx129_2⟩ := at_T88 (Kd.R_reads' HO_4.out).2.2 (rd x7_2 (ji24)) p129 q129;obtain rfl : ad122 = ad129 := (by injection e129);replace p129 := eq_true p129;replace q129 := eq_true q129;have p130 : 0 ≤ ((rd x7_2 (ji24)) : Int) := of_decide_eq_true (by first|(with_reducible assumption)|assumption);have q130 : (rd x7_2 (ji24)) < (x4_1.length : Int) := of_decide_eq_true (by first|(with_reducible assumption)|assumption);obtain ⟨ad130, e130, hx130_0, hx130_1, hx130_2⟩ := at_T88 (Kd.R_reads' HO_4.out).2.2 (rd x7_2 (ji24)) p130 q130;obtain rfl : ad122 = ad130 := (by injection e130);replace p130 := eq_true p130;replace q130 := eq_true q130)|((with_reducible refine gate_builtin (b := .append) (xs := #[.tmp 106, .tmp 109]) rfl ?_);at_builtin;refine Kd.R_append (Kd.int .i64) (w0 := w) w.heap.size rfl (.tmp 106) (.tmp 109) 62 3 (.int .i64 0) 8 rfl Try.underlying62 info3 rfl (by decide) (by omega) v126 y125 (wrap64 ((rd x7_2 (ji24)) + 1)) [.int .i64 (wrap64 ((rd x7_2 (ji24)) + 1))] (fun _ => True) (fun _ => False) rfl rfl ?aP (fun _ hk => hk.elim) ?aF ?aO ?aB ?aS ?aL ?_;(case aP => exact rfl);(case aB => exact (by repeat (first|(with_reducible first|exact HB.out|apply below_alloc|apply pw_below_drewN|apply below_drew1)|exact HB.out)));(case aF => exact (fun _ _ => trivial));(case aO => exact (by (with_reducible repeat (first|apply Kd.R_alloc|apply Kd.R_drewN|apply Kd.R_drew));exact HO127.out));(case aS => exact (below_size (by repeat (first|(with_reducible first|exact HB.out|apply below_alloc|apply pw_below_drewN|apply below_drew1)|exact HB.out))));(case aL => have := LMc61.out;omega);intro v132 w68 ho hb hg hat;rw [← Ny131.out] at ho;have n0_ := Aside0.mk (Kd.R_over' (by (with_reducible repeat (first|apply Kd.R_alloc|apply Kd.R_drewN|apply Kd.R_drew));exact HO_4.out) (Kd.R_typed (by (with_reducible repeat (first|apply Kd.R_alloc|apply Kd.R_drewN|apply Kd.R_drew));exact HO127.out)) (by decide) hg);have n1_ := Aside0.mk (Kd.R_over' (by (with_reducible repeat (first|apply Kd.R_alloc|apply Kd.R_drewN|apply Kd.R_drew));exact HO_6.out) (Kd.R_typed (by (with_reducible repeat (first|apply Kd.R_alloc|apply Kd.R_drewN|apply Kd.R_drew));exact HO127.out)) (by decide) hg);have n2_ := Aside0.mk (hb);have n3_ := Aside0.mk (ho);clear HO_4;clear HO_6;clear HB;clear HO127;have HO_4 := n0_;have HO_6 := n1_;have HB := n2_;have HO133 := n3_;clear n0_ n1_ n2_ n3_;clear ho hb hg hat))
                        go_roundg k2
                        case measure => have := HK1.out;have := HK2.out;omega
                        case rel => exact ⟨(y121), (y131), H', ⟨by have := HK1.out;have := HK2.out;omega⟩, ⟨by (try simp only [hl4_1]);(with_reducible repeat (first|apply Kd.R_alloc|apply Kd.R_drewN|apply Kd.R_drew));exact HO_4.out⟩, ⟨by (try simp only [hl4_1]);(with_reducible repeat (first|apply Kd.R_alloc|apply Kd.R_drewN|apply Kd.R_drew));exact HO_6.out⟩, ⟨by (try simp only [hl4_1]);(with_reducible repeat (first|apply Kd.R_alloc|apply Kd.R_drewN|apply Kd.R_drew));exact HO133.out⟩, ⟨by repeat (first|(with_reducible first|exact HB.out|apply below_alloc|apply pw_below_drewN|apply below_drew1)|exact HB.out)⟩⟩
                       ·rw [if_neg c61] at H
                        exact absurd H (by simp)
                   ·rw [if_neg c39] at H
                    exact absurd H (by simp)
                  ·replace c38 := Bool.eq_false_iff.mpr c38
                   subst c38
                   have H1 : (if ((rd_T88 x4_1 (rd x7_2 (ji24))).f0) = 5 then (impl_Tighten.l1 k2 x4_1 y121 y117) else (if ((rd_T88 x4_1 (rd x7_2 (ji24))).f0) = 9 then (impl_Tighten.l1 k2 x4_1 y121 y117) else (if ((rd_T88 x4_1 (rd x7_2 (ji24))).f0) = 10 then (impl_Tighten.l1 k2 x4_1 y121 y117) else (if y117.length < 17592186044416 then (impl_Tighten.l1 k2 x4_1 y121 (y117 ++ [wrap64 ((rd x7_2 (ji24)) + 1)])) else (none))))) = some (r1, r2) := by rw [if_neg (show ¬ (false = true) by decide)] at H;exact H
                   clear H
                   have H := H1
                   clear H1
                   by_cases c69 : ((rd_T88 x4_1 (rd x7_2 (ji24))).f0) = 5
                   ·rw [if_pos c69] at H
                    have c69b0 : (((rd_T88 x4_1 (rd x7_2 (ji24))).f0) == 5) = true := beq_iff_eq.mpr c69
                    have c69b1 : (((rd_T88 x4_1 (rd x7_2 (ji24))).f0) != 5) = false := bne_eq_false_iff_eq.mpr c69
                    clear c69
                    have H' := Aside0.mk H
                    clear H
                    obtain ⟨Ao70, co70, eo70⟩ := Kd.R_slice HO_7.out
                    subst eo70
                    have p116 : 0 ≤ ((ji24) : Int) := of_decide_eq_true (by first|(with_reducible assumption)|assumption)
                    have q116 : (ji24) < (x7_2.length : Int) := of_decide_eq_true (by first|(with_reducible assumption)|assumption)
                    obtain ⟨ad116, e116, hx116_0⟩ := Kd.at_int (Kd.R_reads' HO_7.out).2.2 (ji24) p116 q116
                    cases e116
                    replace p116 := eq_true p116
                    replace q116 := eq_true q116
                    have q71 : ((ji24) : Int) ≤ ((x7_2.length : Int) : Int) := of_decide_eq_true (by first|(with_reducible assumption)|assumption)
                    obtain ⟨i071, hi071, _, hsz71, _⟩ := info_parts info3
                    have hcut71 := cut_to (P := Try.prog) 62 3 .i64 Try.underlying62 hi071 (some ad116) x7_2.length co70 (ji24) (of_decide_eq_true (by first|(with_reducible assumption)|assumption)) q71 (Kd.R_reads' HO_7.out).2.1
                    have hr71 := Kd.R_take (m := ((ji24) : Int).toNat) HO_7.out (by omega)
                    have hy71 : y117.length = ((ji24) : Int).toNat := (by rw [Ny117.out, List.length_take];omega)
                    rw [← Ny117.out] at hr71
                    rw [← hy71] at hr71 hcut71
                    clear hy71 hi071 hsz71 HO_7
                    have HO119 := Aside0.mk hr71
                    clear hr71
                    replace q71 := eq_true q71
                    obtain ⟨Ao72, co72, eo72⟩ := Kd.R_slice HO_6.out
                    subst eo72
                    have p120 : 0 ≤ ((rd x7_2 (ji24)) : Int) := of_decide_eq_true (by first|(with_reducible assumption)|assumption)
                    have q120 : (rd x7_2 (ji24)) < (x6_2.length : Int) := of_decide_eq_true (by first|(with_reducible assumption)|assumption)
                    obtain ⟨ad120, e120, hx120_0⟩ := Kd.at_bool (Kd.R_reads' HO_6.out).2.2 (rd x7_2 (ji24)) p120 q120
                    (try rw [← Nbq30.out] at hx120_0)
                    cases e120
                    replace p120 := eq_true p120
                    replace q120 := eq_true q120
                    have p35 : 0 ≤ ((rd x7_2 (ji24)) : Int) := of_decide_eq_true (by first|(with_reducible assumption)|assumption)
                    have q35 : ((rd x7_2 (ji24)) : Int) < ((x6_2.length : Int) : Int) := of_decide_eq_true (by first|(with_reducible assumption)|assumption)
                    obtain ⟨go35, co35, eo35, gb35, gl35, cl35, HG35⟩ := Kd.R_form HO_6.out (by omega)
                    (first|cases eo35|(injection eo35 with ea_ en_ ec_;(first|subst ea_|(injection ea_ with ea_;subst ea_));subst ec_;clear en_))
                    have GB35 := Aside0.mk gb35
                    have GG35 := Aside0.mk HG35
                    clear gb35 gl35 HG35
                    (first|simp only [add_plain] at hx120_0|skip)
                    obtain ⟨hx35_0, hf35_0⟩ := Kd.R_celln false HO_6.out ((rd x7_2 (ji24)) : Int) p35 q35
                    replace p35 := eq_true p35
                    replace q35 := eq_true q35
                    have HP73 := Kd.R_putg HO_6.out ((rd x7_2 (ji24)) : Int) true
                    go_wp2_with (first|((with_reducible refine gate_store (t := 4) (p := 69) rfl ?_);refine store_event (t := 4) (p := 69) (v := ?vo_w74) (w1 := (wr.setCell ⟨go35, ((rd x7_2 (ji24)) : Int).toNat, none⟩ (.bool true))) ?hg ?ho ?hn ?hr ?_;(case ho => rfl);(case hg => rfl);(case hn => rfl);(case hr => first|(go_simp;done)|(go_simp;rfl));intro w74 hw;have hg : wr.grownBy w74 (some go35) := (by rw [hw];exact HP73.2);have hp_ : Kd.R Kd.bool 4 w74 w.heap.size (fun _ => True) (.slice (some ⟨go35, 0, none⟩) x6_2.length co72) y121 := (by rw [hw, Ny121.out];exact HP73.1);clear HP73;have n0_ := Aside0.mk (Kd.R_over' (v := (.slice (some ⟨go35, 0, none⟩) x6_2.length co72)) (by (with_reducible repeat (first|apply Kd.R_alloc|apply Kd.R_drewN|apply Kd.R_drew));exact HO_4.out) (Kd.R_typed HO_6.out) (by decide) hg);have n1_ := Aside0.mk (hp_);have n2_ := Aside0.mk (Kd.R_over' (v := (.slice (some ⟨go35, 0, none⟩) x6_2.length co72)) (by (with_reducible repeat (first|apply Kd.R_alloc|apply Kd.R_drewN|apply Kd.R_drew));exact HO119.out) (Kd.R_typed HO_6.out) (by decide) hg);have n3_ := Aside0.mk ((by rw [hw];exact below_set (HB.out) GB35.out : Below w.heap.size w w74));clear HO_4;clear HO_6;clear HO119;clear HB;have HO_4 := n0_;have HO_6 := n1_;have HO119 := n2_;have HB := n3_;clear n0_ n1_ n2_ n3_;clear hg hw hp_;have p122 : 0 ≤ ((rd x7_2 (ji24)) : Int) := of_decide_eq_true (by first|(with_reducible assumption)|assumption);have q122 : (rd x7_2 (ji24)) < (x4_1.length : Int) := of_decide_eq_true (by first|(with_reducible assumption)|assumption);obtain ⟨ad122, e122, hx122_0, hx122_1, hx122_2⟩ := at_T88 (Kd.R_reads' HO_4.out).2.2 (rd x7_2 (ji24)) p122 q122;cases e122;replace p122 := eq_true p122;replace q122 := eq_true q122)|((with_reducible refine gate_callee (f := 81) rfl ?_);refine goesL_ (some 75) rfl rfl Try.func81 (by kernel_rfl) rfl #[.int .i64 ((rd_T88 x4_1 (rd x7_2 (ji24))).f0)] rfl (by (try simp only [List.map_toArray, List.map_cons, List.map_nil]);first|done|(simp only [hji24];rfl)|rfl|(simp only [List.length_drop, List.length_take];rfl)) ?_;(with_reducible refine (impl_jumps.calls ((rd_T88 x4_1 (rd x7_2 (ji24))).f0) false _ A37.out).mono ?_);rintro e w' ⟨rfl, ⟨nd, rfl⟩⟩;refine ⟨_, rfl, ?_⟩;have p134 : 0 ≤ ((rd x7_2 (ji24)) : Int) := of_decide_eq_true (by first|(with_reducible assumption)|assumption);have q134 : (rd x7_2 (ji24)) < (x4_1.length : Int) := of_decide_eq_true (by first|(with_reducible assumption)|assumption);obtain ⟨ad134, e134, hx134_0, hx134_1, hx134_2⟩ := at_T88 (Kd.R_reads' HO_4.out).2.2 (rd x7_2 (ji24)) p134 q134;obtain rfl : ad122 = ad134 := (by injection e134);replace p134 := eq_true p134;replace q134 := eq_true q134))
                    go_roundg k2
                    case measure => have := HK1.out;have := HK2.out;omega
                    case rel => exact ⟨(y121), (y117), H', ⟨by have := HK1.out;have := HK2.out;omega⟩, ⟨by (try simp only [hl4_1]);(with_reducible repeat (first|apply Kd.R_alloc|apply Kd.R_drewN|apply Kd.R_drew));exact HO_4.out⟩, ⟨by (try simp only [hl4_1]);(with_reducible repeat (first|apply Kd.R_alloc|apply Kd.R_drewN|apply Kd.R_drew));exact HO_6.out⟩, ⟨by (try simp only [hl4_1]);(with_reducible repeat (first|apply Kd.R_alloc|apply Kd.R_drewN|apply Kd.R_drew));exact HO119.out⟩, ⟨by repeat (first|(with_reducible first|exact HB.out|apply below_alloc|apply pw_below_drewN|apply below_drew1)|exact HB.out)⟩⟩
                   ·rw [if_neg c69] at H
                    have c69b0 : (((rd_T88 x4_1 (rd x7_2 (ji24))).f0) == 5) = false := beq_eq_false_iff_ne.mpr c69
                    have c69b1 : (((rd_T88 x4_1 (rd x7_2 (ji24))).f0) != 5) = true := bne_iff_ne.mpr c69
                    by_cases c75 : ((rd_T88 x4_1 (rd x7_2 (ji24))).f0) = 9
                    ·rw [if_pos c75] at H
                     have c75b0 : (((rd_T88 x4_1 (rd x7_2 (ji24))).f0) == 9) = true := beq_iff_eq.mpr c75
                     have c75b1 : (((rd_T88 x4_1 (rd x7_2 (ji24))).f0) != 9) = false := bne_eq_false_iff_eq.mpr c75
                     clear c75
                     have H' := Aside0.mk H
                     clear H
                     obtain ⟨Ao76, co76, eo76⟩ := Kd.R_slice HO_7.out
                     subst eo76
                     have p116 : 0 ≤ ((ji24) : Int) := of_decide_eq_true (by first|(with_reducible assumption)|assumption)
                     have q116 : (ji24) < (x7_2.length : Int) := of_decide_eq_true (by first|(with_reducible assumption)|assumption)
                     obtain ⟨ad116, e116, hx116_0⟩ := Kd.at_int (Kd.R_reads' HO_7.out).2.2 (ji24) p116 q116
                     cases e116
                     replace p116 := eq_true p116
                     replace q116 := eq_true q116
                     have q77 : ((ji24) : Int) ≤ ((x7_2.length : Int) : Int) := of_decide_eq_true (by first|(with_reducible assumption)|assumption)
                     obtain ⟨i077, hi077, _, hsz77, _⟩ := info_parts info3
                     have hcut77 := cut_to (P := Try.prog) 62 3 .i64 Try.underlying62 hi077 (some ad116) x7_2.length co76 (ji24) (of_decide_eq_true (by first|(with_reducible assumption)|assumption)) q77 (Kd.R_reads' HO_7.out).2.1
                     have hr77 := Kd.R_take (m := ((ji24) : Int).toNat) HO_7.out (by omega)
                     have hy77 : y117.length = ((ji24) : Int).toNat := (by rw [Ny117.out, List.length_take];omega)
                     rw [← Ny117.out] at hr77
                     rw [← hy77] at hr77 hcut77
                     clear hy77 hi077 hsz77 HO_7
                     have HO119 := Aside0.mk hr77
                     clear hr77
                     replace q77 := eq_true q77
                     obtain ⟨Ao78, co78, eo78⟩ := Kd.R_slice HO_6.out
                     subst eo78
                     have p120 : 0 ≤ ((rd x7_2 (ji24)) : Int) := of_decide_eq_true (by first|(with_reducible assumption)|assumption)
                     have q120 : (rd x7_2 (ji24)) < (x6_2.length : Int) := of_decide_eq_true (by first|(with_reducible assumption)|assumption)
                     obtain ⟨ad120, e120, hx120_0⟩ := Kd.at_bool (Kd.R_reads' HO_6.out).2.2 (rd x7_2 (ji24)) p120 q120
                     (try rw [← Nbq30.out] at hx120_0)
                     cases e120
                     replace p120 := eq_true p120
                     replace q120 := eq_true q120
                     have p35 : 0 ≤ ((rd x7_2 (ji24)) : Int) := of_decide_eq_true (by first|(with_reducible assumption)|assumption)
                     have q35 : ((rd x7_2 (ji24)) : Int) < ((x6_2.length : Int) : Int) := of_decide_eq_true (by first|(with_reducible assumption)|assumption)
                     obtain ⟨go35, co35, eo35, gb35, gl35, cl35, HG35⟩ := Kd.R_form HO_6.out (by omega)
                     (first|cases eo35|(injection eo35 with ea_ en_ ec_;(first|subst ea_|(injection ea_ with ea_;subst ea_));subst ec_;clear en_))
                     have GB35 := Aside0.mk gb35
                     have GG35 := Aside0.mk HG35
                     clear gb35 gl35 HG35
                     (first|simp only [add_plain] at hx120_0|skip)
                     obtain ⟨hx35_0, hf35_0⟩ := Kd.R_celln false HO_6.out ((rd x7_2 (ji24)) : Int) p35 q35
                     replace p35 := eq_true p35
                     replace q35 := eq_true q35
                     have HP79 := Kd.R_putg HO_6.out ((rd x7_2 (ji24)) : Int) true
                     go_wp2_with (first|((with_reducible refine gate_store (t := 4) (p := 69) rfl ?_);refine store_event (t := 4) (p := 69) (v := ?vo_w80) (w1 := (wr.setCell ⟨go35, ((rd x7_2 (ji24)) : Int).toNat, none⟩ (.bool true))) ?hg ?ho ?hn ?hr ?_;(case ho => rfl);(case hg => rfl);(case hn => rfl);(case hr => first|(go_simp;done)|(go_simp;rfl));intro w80 hw;have hg : wr.grownBy w80 (some go35) := (by rw [hw];exact HP79.2);have hp_ : Kd.R Kd.bool 4 w80 w.heap.size (fun _ => True) (.slice (some ⟨go35, 0, none⟩) x6_2.length co78) y121 := (by rw [hw, Ny121.out];exact HP79.1);clear HP79;have n0_ := Aside0.mk (Kd.R_over' (v := (.slice (some ⟨go35, 0, none⟩) x6_2.length co78)) (by (with_reducible repeat (first|apply Kd.R_alloc|apply Kd.R_drewN|apply Kd.R_drew));exact HO_4.out) (Kd.R_typed HO_6.out) (by decide) hg);have n1_ := Aside0.mk (hp_);have n2_ := Aside0.mk (Kd.R_over' (v := (.slice (some ⟨go35, 0, none⟩) x6_2.length co78)) (by (with_reducible repeat (first|apply Kd.R_alloc|apply Kd.R_drewN|apply Kd.R_drew));exact HO119.out) (Kd.R_typed HO_6.out) (by decide) hg);have n3_ := Aside0.mk ((by rw [hw];exact below_set (HB.out) GB35.out : Below w.heap.size w w80));clear HO_4;clear HO_6;clear HO119;clear HB;have HO_4 := n0_;have HO_6 := n1_;have HO119 := n2_;have HB := n3_;clear n0_ n1_ n2_ n3_;clear hg hw hp_;have p122 : 0 ≤ ((rd x7_2 (ji24)) : Int) := of_decide_eq_true (by first|(with_reducible assumption)|assumption);have q122 : (rd x7_2 (ji24)) < (x4_1.length : Int) := of_decide_eq_true (by first|(with_reducible assumption)|assumption);obtain ⟨ad122, e122, hx122_0, hx122_1, hx122_2⟩ := at_T88 (Kd.R_reads' HO_4.out).2.2 (rd x7_2 (ji24)) p122 q122;cases e122;replace p122 := eq_true p122;replace q122 := eq_true q122)|((with_reducible refine gate_callee (f := 81) rfl ?_);refine goesL_ (some 75) rfl rfl Try.func81 (by kernel_rfl) rfl #[.int .i64 ((rd_T88 x4_1 (rd x7_2 (ji24))).f0)] rfl (by (try simp only [List.map_toArray, List.map_cons, List.map_nil]);first|done|(simp only [hji24];rfl)|rfl|(simp only [List.length_drop, List.length_take];rfl)) ?_;(with_reducible refine (impl_jumps.calls ((rd_T88 x4_1 (rd x7_2 (ji24))).f0) false _ A37.out).mono ?_);rintro e w' ⟨rfl, ⟨nd, rfl⟩⟩;refine ⟨_, rfl, ?_⟩;have p134 : 0 ≤ ((rd x7_2 (ji24)) : Int) := of_decide_eq_true (by first|(with_reducible assumption)|assumption);have q134 : (rd x7_2 (ji24)) < (x4_1.length : Int) := of_decide_eq_true (by first|(with_reducible assumption)|assumption);obtain ⟨ad134, e134, hx134_0, hx134_1, hx134_2⟩ := at_T88 (Kd.R_reads' HO_4.out).2.2 (rd x7_2 (ji24)) p134 q134;obtain rfl : ad122 = ad134 := (by injection e134);replace p134 := eq_true p134;replace q134 := eq_true q134;have p135 : 0 ≤ ((rd x7_2 (ji24)) : Int) := of_decide_eq_true (by first|(with_reducible assumption)|assumption);have q135 : (rd x7_2 (ji24)) < (x4_1.length : Int) := of_decide_eq_true (by first|(with_reducible assumption)|assumption);obtain ⟨ad135, e135, hx135_0, hx135_1, hx135_2⟩ := at_T88 (Kd.R_reads' HO_4.out).2.2 (rd x7_2 (ji24)) p135 q135;obtain rfl : ad122 = ad135 := (by injection e135);replace p135 := eq_true p135;replace q135 := eq_true q135))
                     go_roundg k2
                     case measure => have := HK1.out;have := HK2.out;omega
                     case rel => exact ⟨(y121), (y117), H', ⟨by have := HK1.out;have := HK2.out;omega⟩, ⟨by (try simp only [hl4_1]);(with_reducible repeat (first|apply Kd.R_alloc|apply Kd.R_drewN|apply Kd.R_drew));exact HO_4.out⟩, ⟨by (try simp only [hl4_1]);(with_reducible repeat (first|apply Kd.R_alloc|apply Kd.R_drewN|apply Kd.R_drew));exact HO_6.out⟩, ⟨by (try simp only [hl4_1]);(with_reducible repeat (first|apply Kd.R_alloc|apply Kd.R_drewN|apply Kd.R_drew));exact HO119.out⟩, ⟨by repeat (first|(with_reducible first|exact HB.out|apply below_alloc|apply pw_below_drewN|apply below_drew1)|exact HB.out)⟩⟩
                    ·rw [if_neg c75] at H
                     have c75b0 : (((rd_T88 x4_1 (rd x7_2 (ji24))).f0) == 9) = false := beq_eq_false_iff_ne.mpr c75
                     have c75b1 : (((rd_T88 x4_1 (rd x7_2 (ji24))).f0) != 9) = true := bne_iff_ne.mpr c75
                     by_cases c81 : ((rd_T88 x4_1 (rd x7_2 (ji24))).f0) = 10
                     ·rw [if_pos c81] at H
                      have c81b0 : (((rd_T88 x4_1 (rd x7_2 (ji24))).f0) == 10) = true := beq_iff_eq.mpr c81
                      have c81b1 : (((rd_T88 x4_1 (rd x7_2 (ji24))).f0) != 10) = false := bne_eq_false_iff_eq.mpr c81
                      clear c81
                      have H' := Aside0.mk H
                      clear H
                      obtain ⟨Ao82, co82, eo82⟩ := Kd.R_slice HO_7.out
                      subst eo82
                      have p116 : 0 ≤ ((ji24) : Int) := of_decide_eq_true (by first|(with_reducible assumption)|assumption)
                      have q116 : (ji24) < (x7_2.length : Int) := of_decide_eq_true (by first|(with_reducible assumption)|assumption)
                      obtain ⟨ad116, e116, hx116_0⟩ := Kd.at_int (Kd.R_reads' HO_7.out).2.2 (ji24) p116 q116
                      cases e116
                      replace p116 := eq_true p116
                      replace q116 := eq_true q116
                      have q83 : ((ji24) : Int) ≤ ((x7_2.length : Int) : Int) := of_decide_eq_true (by first|(with_reducible assumption)|assumption)
                      obtain ⟨i083, hi083, _, hsz83, _⟩ := info_parts info3
                      have hcut83 := cut_to (P := Try.prog) 62 3 .i64 Try.underlying62 hi083 (some ad116) x7_2.length co82 (ji24) (of_decide_eq_true (by first|(with_reducible assumption)|assumption)) q83 (Kd.R_reads' HO_7.out).2.1
                      have hr83 := Kd.R_take (m := ((ji24) : Int).toNat) HO_7.out (by omega)
                      have hy83 : y117.length = ((ji24) : Int).toNat := (by rw [Ny117.out, List.length_take];omega)
                      rw [← Ny117.out] at hr83
                      rw [← hy83] at hr83 hcut83
                      clear hy83 hi083 hsz83 HO_7
                      have HO119 := Aside0.mk hr83
                      clear hr83
                      replace q83 := eq_true q83
                      obtain ⟨Ao84, co84, eo84⟩ := Kd.R_slice HO_6.out
                      subst eo84
                      have p120 : 0 ≤ ((rd x7_2 (ji24)) : Int) := of_decide_eq_true (by first|(with_reducible assumption)|assumption)
                      have q120 : (rd x7_2 (ji24)) < (x6_2.length : Int) := of_decide_eq_true (by first|(with_reducible assumption)|assumption)
                      obtain ⟨ad120, e120, hx120_0⟩ := Kd.at_bool (Kd.R_reads' HO_6.out).2.2 (rd x7_2 (ji24)) p120 q120
                      (try rw [← Nbq30.out] at hx120_0)
                      cases e120
                      replace p120 := eq_true p120
                      replace q120 := eq_true q120
                      have p35 : 0 ≤ ((rd x7_2 (ji24)) : Int) := of_decide_eq_true (by first|(with_reducible assumption)|assumption)
                      have q35 : ((rd x7_2 (ji24)) : Int) < ((x6_2.length : Int) : Int) := of_decide_eq_true (by first|(with_reducible assumption)|assumption)
                      obtain ⟨go35, co35, eo35, gb35, gl35, cl35, HG35⟩ := Kd.R_form HO_6.out (by omega)
                      (first|cases eo35|(injection eo35 with ea_ en_ ec_;(first|subst ea_|(injection ea_ with ea_;subst ea_));subst ec_;clear en_))
                      have GB35 := Aside0.mk gb35
                      have GG35 := Aside0.mk HG35
                      clear gb35 gl35 HG35
                      (first|simp only [add_plain] at hx120_0|skip)
                      obtain ⟨hx35_0, hf35_0⟩ := Kd.R_celln false HO_6.out ((rd x7_2 (ji24)) : Int) p35 q35
                      replace p35 := eq_true p35
                      replace q35 := eq_true q35
                      have HP85 := Kd.R_putg HO_6.out ((rd x7_2 (ji24)) : Int) true
                      go_wp2_with (first|((with_reducible refine gate_store (t := 4) (p := 69) rfl ?_);refine store_event (t := 4) (p := 69) (v := ?vo_w86) (w1 := (wr.setCell ⟨go35, ((rd x7_2 (ji24)) : Int).toNat, none⟩ (.bool true))) ?hg ?ho ?hn ?hr ?_;(case ho => rfl);(case hg => rfl);(case hn => rfl);(case hr => first|(go_simp;done)|(go_simp;rfl));intro w86 hw;have hg : wr.grownBy w86 (some go35) := (by rw [hw];exact HP85.2);have hp_ : Kd.R Kd.bool 4 w86 w.heap.size (fun _ => True) (.slice (some ⟨go35, 0, none⟩) x6_2.length co84) y121 := (by rw [hw, Ny121.out];exact HP85.1);clear HP85;have n0_ := Aside0.mk (Kd.R_over' (v := (.slice (some ⟨go35, 0, none⟩) x6_2.length co84)) (by (with_reducible repeat (first|apply Kd.R_alloc|apply Kd.R_drewN|apply Kd.R_drew));exact HO_4.out) (Kd.R_typed HO_6.out) (by decide) hg);have n1_ := Aside0.mk (hp_);have n2_ := Aside0.mk (Kd.R_over' (v := (.slice (some ⟨go35, 0, none⟩) x6_2.length co84)) (by (with_reducible repeat (first|apply Kd.R_alloc|apply Kd.R_drewN|apply Kd.R_drew));exact HO119.out) (Kd.R_typed HO_6.out) (by decide) hg);have n3_ := Aside0.mk ((by rw [hw];exact below_set (HB.out) GB35.out : Below w.heap.size w w86));clear HO_4;clear HO_6;clear HO119;clear HB;have HO_4 := n0_;have HO_6 := n1_;have HO119 := n2_;have HB := n3_;clear n0_ n1_ n2_ n3_;clear hg hw hp_;have p122 : 0 ≤ ((rd x7_2 (ji24)) : Int) := of_decide_eq_true (by first|(with_reducible assumption)|assumption);have q122 : (rd x7_2 (ji24)) < (x4_1.length : Int) := of_decide_eq_true (by first|(with_reducible assumption)|assumption);obtain ⟨ad122, e122, hx122_0, hx122_1, hx122_2⟩ := at_T88 (Kd.R_reads' HO_4.out).2.2 (rd x7_2 (ji24)) p122 q122;cases e122;replace p122 := eq_true p122;replace q122 := eq_true q122)|((with_reducible refine gate_callee (f := 81) rfl ?_);refine goesL_ (some 75) rfl rfl Try.func81 (by kernel_rfl) rfl #[.int .i64 ((rd_T88 x4_1 (rd x7_2 (ji24))).f0)] rfl (by (try simp only [List.map_toArray, List.map_cons, List.map_nil]);first|done|(simp only [hji24];rfl)|rfl|(simp only [List.length_drop, List.length_take];rfl)) ?_;(with_reducible refine (impl_jumps.calls ((rd_T88 x4_1 (rd x7_2 (ji24))).f0) false _ A37.out).mono ?_);rintro e w' ⟨rfl, ⟨nd, rfl⟩⟩;refine ⟨_, rfl, ?_⟩;have p134 : 0 ≤ ((rd x7_2 (ji24)) : Int) := of_decide_eq_true (by first|(with_reducible assumption)|assumption);have q134 : (rd x7_2 (ji24)) < (x4_1.length : Int) := of_decide_eq_true (by first|(with_reducible assumption)|assumption);obtain ⟨ad134, e134, hx134_0, hx134_1, hx134_2⟩ := at_T88 (Kd.R_reads' HO_4.out).2.2 (rd x7_2 (ji24)) p134 q134;obtain rfl : ad122 = ad134 := (by injection e134);replace p134 := eq_true p134;replace q134 := eq_true q134;have p135 : 0 ≤ ((rd x7_2 (ji24)) : Int) := of_decide_eq_true (by first|(with_reducible assumption)|assumption);have q135 : (rd x7_2 (ji24)) < (x4_1.length : Int) := of_decide_eq_true (by first|(with_reducible assumption)|assumption);obtain ⟨ad135, e135, hx135_0, hx135_1, hx135_2⟩ := at_T88 (Kd.R_reads' HO_4.out).2.2 (rd x7_2 (ji24)) p135 q135;obtain rfl : ad122 = ad135 := (by injection e135);replace p135 := eq_true p135;replace q135 := eq_true q135;have p136 : 0 ≤ ((rd x7_2 (ji24)) : Int) := of_decide_eq_true (by first|(with_reducible assumption)|assumption);have q136 : (rd x7_2 (ji24)) < (x4_1.length : Int) := of_decide_eq_true (by first|(with_reducible assumption)|assumption);obtain ⟨ad136, e136, hx136_0, hx136_1, hx136_2⟩ := at_T88 (Kd.R_reads' HO_4.out).2.2 (rd x7_2 (ji24)) p136 q136;obtain rfl : ad122 = ad136 := (by injection e136);replace p136 := eq_true p136;replace q136 := eq_true q136))
                      go_roundg k2
                      case measure => have := HK1.out;have := HK2.out;omega
                      case rel => exact ⟨(y121), (y117), H', ⟨by have := HK1.out;have := HK2.out;omega⟩, ⟨by (try simp only [hl4_1]);(with_reducible repeat (first|apply Kd.R_alloc|apply Kd.R_drewN|apply Kd.R_drew));exact HO_4.out⟩, ⟨by (try simp only [hl4_1]);(with_reducible repeat (first|apply Kd.R_alloc|apply Kd.R_drewN|apply Kd.R_drew));exact HO_6.out⟩, ⟨by (try simp only [hl4_1]);(with_reducible repeat (first|apply Kd.R_alloc|apply Kd.R_drewN|apply Kd.R_drew));exact HO119.out⟩, ⟨by repeat (first|(with_reducible first|exact HB.out|apply below_alloc|apply pw_below_drewN|apply below_drew1)|exact HB.out)⟩⟩
                     ·rw [if_neg c81] at H
                      have c81b0 : (((rd_T88 x4_1 (rd x7_2 (ji24))).f0) == 10) = false := beq_eq_false_iff_ne.mpr c81
                      have c81b1 : (((rd_T88 x4_1 (rd x7_2 (ji24))).f0) != 10) = true := bne_iff_ne.mpr c81
                      by_cases c87 : y117.length < 17592186044416
                      ·rw [if_pos c87] at H
                       have LMc87 := Aside0.mk c87
                       clear c87
                       obtain ⟨y137, hy137⟩ : ∃ y_ : List Int, y_ = (y117 ++ [wrap64 ((rd x7_2 (ji24)) + 1)]) := ⟨_, rfl⟩
                       replace H : (impl_Tighten.l1 k2 x4_1 y121 y137) = some (r1, r2) := by first|(rw [hy137];with_reducible exact H)|(have H2_ := (Option.bind_some _ _).symm.trans H;rw [hy137];with_reducible exact H2_)|(have H2_ := (Option.bind_some _ _).symm.trans H;with_reducible exact H2_)|with_reducible exact H|(rw [hy137];exact H)|exact H
                       have Ny137 := Aside0.mk hy137
                       clear hy137
                       have H' := Aside0.mk H
                       clear H
                       obtain ⟨Ao88, co88, eo88⟩ := Kd.R_slice HO_7.out
                       subst eo88
                       have p116 : 0 ≤ ((ji24) : Int) := of_decide_eq_true (by first|(with_reducible assumption)|assumption)
                       have q116 : (ji24) < (x7_2.length : Int) := of_decide_eq_true (by first|(with_reducible assumption)|assumption)
                       obtain ⟨ad116, e116, hx116_0⟩ := Kd.at_int (Kd.R_reads' HO_7.out).2.2 (ji24) p116 q116
                       cases e116
                       replace p116 := eq_true p116
                       replace q116 := eq_true q116
                       have q89 : ((ji24) : Int) ≤ ((x7_2.length : Int) : Int) := of_decide_eq_true (by first|(with_reducible assumption)|assumption)
                       obtain ⟨i089, hi089, _, hsz89, _⟩ := info_parts info3
                       have hcut89 := cut_to (P := Try.prog) 62 3 .i64 Try.underlying62 hi089 (some ad116) x7_2.length co88 (ji24) (of_decide_eq_true (by first|(with_reducible assumption)|assumption)) q89 (Kd.R_reads' HO_7.out).2.1
                       have hr89 := Kd.R_take (m := ((ji24) : Int).toNat) HO_7.out (by omega)
                       have hy89 : y117.length = ((ji24) : Int).toNat := (by rw [Ny117.out, List.length_take];omega)
                       rw [← Ny117.out] at hr89
                       rw [← hy89] at hr89 hcut89
                       clear hy89 hi089 hsz89 HO_7
                       have HO119 := Aside0.mk hr89
                       clear hr89
                       replace q89 := eq_true q89
                       obtain ⟨Ao90, co90, eo90⟩ := Kd.R_slice HO_6.out
                       subst eo90
                       have p120 : 0 ≤ ((rd x7_2 (ji24)) : Int) := of_decide_eq_true (by first|(with_reducible assumption)|assumption)
                       have q120 : (rd x7_2 (ji24)) < (x6_2.length : Int) := of_decide_eq_true (by first|(with_reducible assumption)|assumption)
                       obtain ⟨ad120, e120, hx120_0⟩ := Kd.at_bool (Kd.R_reads' HO_6.out).2.2 (rd x7_2 (ji24)) p120 q120
                       (try rw [← Nbq30.out] at hx120_0)
                       cases e120
                       replace p120 := eq_true p120
                       replace q120 := eq_true q120
                       have p35 : 0 ≤ ((rd x7_2 (ji24)) : Int) := of_decide_eq_true (by first|(with_reducible assumption)|assumption)
                       have q35 : ((rd x7_2 (ji24)) : Int) < ((x6_2.length : Int) : Int) := of_decide_eq_true (by first|(with_reducible assumption)|assumption)
                       obtain ⟨go35, co35, eo35, gb35, gl35, cl35, HG35⟩ := Kd.R_form HO_6.out (by omega)
                       (first|cases eo35|(injection eo35 with ea_ en_ ec_;(first|subst ea_|(injection ea_ with ea_;subst ea_));subst ec_;clear en_))
                       have GB35 := Aside0.mk gb35
                       have GG35 := Aside0.mk HG35
                       clear gb35 gl35 HG35
                       (first|simp only [add_plain] at hx120_0|skip)
                       obtain ⟨hx35_0, hf35_0⟩ := Kd.R_celln false HO_6.out ((rd x7_2 (ji24)) : Int) p35 q35
                       replace p35 := eq_true p35
                       replace q35 := eq_true q35
                       have HP91 := Kd.R_putg HO_6.out ((rd x7_2 (ji24)) : Int) true
                       go_wp2_with (first|((with_reducible refine gate_store (t := 4) (p := 69) rfl ?_);refine store_event (t := 4) (p := 69) (v := ?vo_w92) (w1 := (wr.setCell ⟨go35, ((rd x7_2 (ji24)) : Int).toNat, none⟩ (.bool true))) ?hg ?ho ?hn ?hr ?_;(case ho => rfl);(case hg => rfl);(case hn => rfl);(case hr => first|(go_simp;done)|(go_simp;rfl));intro w92 hw;have hg : wr.grownBy w92 (some go35) := (by rw [hw];exact HP91.2);have hp_ : Kd.R Kd.bool 4 w92 w.heap.size (fun _ => True) (.slice (some ⟨go35, 0, none⟩) x6_2.length co90) y121 := (by rw [hw, Ny121.out];exact HP91.1);clear HP91;have n0_ := Aside0.mk (Kd.R_over' (v := (.slice (some ⟨go35, 0, none⟩) x6_2.length co90)) (by (with_reducible repeat (first|apply Kd.R_alloc|apply Kd.R_drewN|apply Kd.R_drew));exact HO_4.out) (Kd.R_typed HO_6.out) (by decide) hg);have n1_ := Aside0.mk (hp_);have n2_ := Aside0.mk (Kd.R_over' (v := (.slice (some ⟨go35, 0, none⟩) x6_2.length co90)) (by (with_reducible repeat (first|apply Kd.R_alloc|apply Kd.R_drewN|apply Kd.R_drew));exact HO119.out) (Kd.R_typed HO_6.out) (by decide) hg);have n3_ := Aside0.mk ((by rw [hw];exact below_set (HB.out) GB35.out : Below w.heap.size w w92));clear HO_4;clear HO_6;clear HO119;clear HB;have HO_4 := n0_;have HO_6 := n1_;have HO119 := n2_;have HB := n3_;clear n0_ n1_ n2_ n3_;clear hg hw hp_;have p122 : 0 ≤ ((rd x7_2 (ji24)) : Int) := of_decide_eq_true (by first|(with_reducible assumption)|assumption);have q122 : (rd x7_2 (ji24)) < (x4_1.length : Int) := of_decide_eq_true (by first|(with_reducible assumption)|assumption);obtain ⟨ad122, e122, hx122_0, hx122_1, hx122_2⟩ := at_T88 (Kd.R_reads' HO_4.out).2.2 (rd x7_2 (ji24)) p122 q122;cases e122;replace p122 := eq_true p122;replace q122 := eq_true q122)|((with_reducible refine gate_callee (f := 81) rfl ?_);refine goesL_ (some 75) rfl rfl Try.func81 (by kernel_rfl) rfl #[.int .i64 ((rd_T88 x4_1 (rd x7_2 (ji24))).f0)] rfl (by (try simp only [List.map_toArray, List.map_cons, List.map_nil]);first|done|(simp only [hji24];rfl)|rfl|(simp only [List.length_drop, List.length_take];rfl)) ?_;(with_reducible refine (impl_jumps.calls ((rd_T88 x4_1 (rd x7_2 (ji24))).f0) false _ A37.out).mono ?_);rintro e w' ⟨rfl, ⟨nd, rfl⟩⟩;refine ⟨_, rfl, ?_⟩;have p134 : 0 ≤ ((rd x7_2 (ji24)) : Int) := of_decide_eq_true (by first|(with_reducible assumption)|assumption);have q134 : (rd x7_2 (ji24)) < (x4_1.length : Int) := of_decide_eq_true (by first|(with_reducible assumption)|assumption);obtain ⟨ad134, e134, hx134_0, hx134_1, hx134_2⟩ := at_T88 (Kd.R_reads' HO_4.out).2.2 (rd x7_2 (ji24)) p134 q134;obtain rfl : ad122 = ad134 := (by injection e134);replace p134 := eq_true p134;replace q134 := eq_true q134;have p135 : 0 ≤ ((rd x7_2 (ji24)) : Int) := of_decide_eq_true (by first|(with_reducible assumption)|assumption);have q135 : (rd x7_2 (ji24)) < (x4_1.length : Int) := of_decide_eq_true (by first|(with_reducible assumption)|assumption);obtain ⟨ad135, e135, hx135_0, hx135_1, hx135_2⟩ := at_T88 (Kd.R_reads' HO_4.out).2.2 (rd x7_2 (ji24)) p135 q135;obtain rfl : ad122 = ad135 := (by injection e135);replace p135 := eq_true p135;replace q135 := eq_true q135;have p136 : 0 ≤ ((rd x7_2 (ji24)) : Int) := of_decide_eq_true (by first|(with_reducible assumption)|assumption);have q136 : (rd x7_2 (ji24)) < (x4_1.length : Int) := of_decide_eq_true (by first|(with_reducible assumption)|assumption);obtain ⟨ad136, e136, hx136_0, hx136_1, hx136_2⟩ := at_T88 (Kd.R_reads' HO_4.out).2.2 (rd x7_2 (ji24)) p136 q136;obtain rfl : ad122 = ad136 := (by injection e136);replace p136 := eq_true p136;replace q136 := eq_true q136)|((with_reducible refine gate_builtin (b := .append) (xs := #[.tmp 106, .tmp 109]) rfl ?_);at_builtin;refine Kd.R_append (Kd.int .i64) (w0 := w) w.heap.size rfl (.tmp 106) (.tmp 109) 62 3 (.int .i64 0) 8 rfl Try.underlying62 info3 rfl (by decide) (by omega) (.slice (some ad116) y117.length co88) y117 (wrap64 ((rd x7_2 (ji24)) + 1)) [.int .i64 (wrap64 ((rd x7_2 (ji24)) + 1))] (fun _ => True) (fun _ => False) rfl rfl ?aP (fun _ hk => hk.elim) ?aF ?aO ?aB ?aS ?aL ?_;(case aP => exact rfl);(case aB => exact (by repeat (first|(with_reducible first|exact HB.out|apply below_alloc|apply pw_below_drewN|apply below_drew1)|exact HB.out)));(case aF => exact (fun _ _ => trivial));(case aO => exact (by (with_reducible repeat (first|apply Kd.R_alloc|apply Kd.R_drewN|apply Kd.R_drew));exact HO119.out));(case aS => exact (below_size (by repeat (first|(with_reducible first|exact HB.out|apply below_alloc|apply pw_below_drewN|apply below_drew1)|exact HB.out))));(case aL => have := LMc87.out;omega);intro v138 w93 ho hb hg hat;rw [← Ny137.out] at ho;have n0_ := Aside0.mk (Kd.R_over' (by (with_reducible repeat (first|apply Kd.R_alloc|apply Kd.R_drewN|apply Kd.R_drew));exact HO_4.out) (Kd.R_typed (by (with_reducible repeat (first|apply Kd.R_alloc|apply Kd.R_drewN|apply Kd.R_drew));exact HO119.out)) (by decide) hg);have n1_ := Aside0.mk (Kd.R_over' (by (with_reducible repeat (first|apply Kd.R_alloc|apply Kd.R_drewN|apply Kd.R_drew));exact HO_6.out) (Kd.R_typed (by (with_reducible repeat (first|apply Kd.R_alloc|apply Kd.R_drewN|apply Kd.R_drew));exact HO119.out)) (by decide) hg);have n2_ := Aside0.mk (hb);have n3_ := Aside0.mk (ho);clear HO_4;clear HO_6;clear HB;clear HO119;have HO_4 := n0_;have HO_6 := n1_;have HB := n2_;have HO139 := n3_;clear n0_ n1_ n2_ n3_;clear ho hb hg hat))
                       go_roundg k2
                       case measure => have := HK1.out;have := HK2.out;omega
                       case rel => exact ⟨(y121), (y137), H', ⟨by have := HK1.out;have := HK2.out;omega⟩, ⟨by (try simp only [hl4_1]);(with_reducible repeat (first|apply Kd.R_alloc|apply Kd.R_drewN|apply Kd.R_drew));exact HO_4.out⟩, ⟨by (try simp only [hl4_1]);(with_reducible repeat (first|apply Kd.R_alloc|apply Kd.R_drewN|apply Kd.R_drew));exact HO_6.out⟩, ⟨by (try simp only [hl4_1]);(with_reducible repeat (first|apply Kd.R_alloc|apply Kd.R_drewN|apply Kd.R_drew));exact HO139.out⟩, ⟨by repeat (first|(with_reducible first|exact HB.out|apply below_alloc|apply pw_below_drewN|apply below_drew1)|exact HB.out)⟩⟩
                      ·rw [if_neg c87] at H
                       exact absurd H (by simp)
                 ·rw [if_neg c36] at H
                  exact absurd H (by simp)
               ·rw [if_neg c29] at H
                exact absurd H (by simp)
              ·rw [if_neg c28] at H
               exact absurd H (by simp)
             ·rw [if_neg c27] at H
              exact absurd H (by simp)
            ·rw [if_neg c26] at H
             exact absurd H (by simp)
           ·rw [if_neg c25] at H
            exact absurd H (by simp)
          ·rw [if_neg c23] at H
           have c23b0 : decide (0 < (x7_2.length : Int)) = false := decide_eq_false c23
           have c23b9 := c23b0
           try rw [hl4_1] at c23b9
           have c23b1 : decide (0 < x7_2.length) = false := decide_eq_false (by omega)
           clear c23
           have H' := Aside0.mk H
           clear H
           obtain ⟨Ao94, co94, eo94⟩ := Kd.R_slice HO_7.out
           subst eo94
           go_wp2
           go_loopg [9, 10] k2 (fun kq v9 v10 w' => ∃ (x6_3 : List Bool) (x9_3 : Int) (x10_3 : Int), v9 = .int .i64 x9_3 ∧ v10 = .int .i64 x10_3 ∧ Aside0 (impl_Tighten.l2 kq x4_1 x6_3 x9_3 x10_3 = some (r1, r2)) ∧ Aside0 (kq ≤ k2) ∧ Aside0 (Kd.R k88 88 w' w.heap.size (fun _ => True) (.slice Ao7 x4_1.length co7) x4_1) ∧ Aside0 (Kd.R Kd.bool 4 w' w.heap.size (fun _ => True) v111 x6_3) ∧ Aside0 (Below w.heap.size w w'))
           case atStart => exact ⟨(x6_2), ((x4_1.length : Int)), (wrap64 ((x4_1.length : Int) - 1)), (by first|rfl|(simp;done)|(simp [*];done)), (by first|rfl|(simp;done)|(simp [*];done)), H', ⟨Nat.le_refl _⟩, ⟨by (try simp only [hl4_1]);(with_reducible repeat (first|apply Kd.R_alloc|apply Kd.R_drewN|apply Kd.R_drew));exact HO_4.out⟩, ⟨by (try simp only [hl4_1]);(with_reducible repeat (first|apply Kd.R_alloc|apply Kd.R_drewN|apply Kd.R_drew));exact HO_6.out⟩, ⟨by repeat (first|(with_reducible first|exact HB.out|apply below_alloc|apply pw_below_drewN|apply below_drew1)|exact HB.out)⟩⟩
           case round =>
            clear H'
            try clear p1
            try clear q1
            try clear hx1
            try clear c2
            try clear p2
            try clear c3
            try clear p3
            try clear q3
            try clear hx3
            try clear hf3
            try clear c4
            try clear q4
            try clear c5
            try clear q5
            try clear c6
            try clear p6
            try clear q6
            try clear c7
            try clear q7
            try clear c8
            try clear q8
            try clear p10
            try clear q10
            try clear hx10
            try clear p11
            try clear q11
            try clear hx11
            try clear p12
            try clear q12
            try clear hx12
            try clear p13
            try clear q13
            try clear hx13
            try clear p14
            try clear q14
            try clear hx14
            try clear hx15
            try clear c23
            try clear c23b0
            try clear c23b1
            try clear c25
            try clear c25b0
            try clear c26
            try clear c26b0
            try clear c27
            try clear c27b0
            try clear c27b1
            try clear c28
            try clear c28b0
            try clear c29
            try clear c29b0
            try clear q30
            try clear c31
            try clear q33
            try clear p35
            try clear q35
            try clear hx35
            try clear hf35
            try clear c36
            try clear c36b0
            try clear c38
            try clear c39
            try clear c40
            try clear c40b0
            try clear c40b1
            try clear q42
            try clear c47
            try clear c47b0
            try clear c47b1
            try clear q49
            try clear c54
            try clear c54b0
            try clear c54b1
            try clear q56
            try clear c61
            try clear q63
            try clear p64
            try clear c69
            try clear c69b0
            try clear c69b1
            try clear q71
            try clear c75
            try clear c75b0
            try clear c75b1
            try clear q77
            try clear c81
            try clear c81b0
            try clear c81b1
            try clear q83
            try clear c87
            try clear q89
            try clear hx107_0
            try clear hx107_1
            try clear hx107_2
            try clear hx116_0
            try clear hx120_0
            try clear hx122_0
            try clear hx122_1
            try clear hx122_2
            try clear hx124_0
            try clear hx124_1
            try clear hx124_2
            try clear hx128_0
            try clear hx128_1
            try clear hx128_2
            try clear hx129_0
            try clear hx129_1
            try clear hx129_2
            try clear hx130_0
            try clear hx130_1
            try clear hx130_2
            try clear hx134_0
            try clear hx134_1
            try clear hx134_2
            try clear hx135_0
            try clear hx135_1
            try clear hx135_2
            try clear hx136_0
            try clear hx136_1
            try clear hx136_2
            try clear hx14_0
            try clear hx14_1
            try clear hx14_2
            try clear hx15_2
            try clear hx35_0
            try clear p105
            try clear p107
            try clear p116
            try clear p120
            try clear p122
            try clear p124
            try clear p128
            try clear p129
            try clear p130
            try clear p134
            try clear p135
            try clear p136
            try clear p14
            try clear p2
            try clear p35
            try clear q105
            try clear q107
            try clear q116
            try clear q120
            try clear q122
            try clear q124
            try clear q128
            try clear q129
            try clear q130
            try clear q134
            try clear q135
            try clear q136
            try clear q14
            try clear q33
            try clear q35
            try clear q42
            try clear q49
            try clear q56
            try clear q63
            try clear q71
            try clear q77
            try clear q83
            try clear q89
            obtain ⟨x6_3, x9_3, x10_3, rfl, rfl, HA, HK3, HO_4, HO_6, HB⟩ := hrel
            cases gk with
            | zero => exact absurd HA.out (by simp [impl_Tighten.l2])
            | succ k3 =>
             have H := HA.out
             clear HA
             simp only [impl_Tighten.l2] at H
             by_cases c95 : x10_3 ≥ 0
             ·rw [if_pos c95] at H
              have c95b0 : decide (0 ≤ x10_3) = true := decide_eq_true c95
              clear c95
              have HC96 := Aside0.mk H
              clear H
              go_upto_region 25 with (fail)
              go_cut [149] (fun v149 wc => ∃ (kq : Nat) (x149_95 : Bool), v149 = .bool x149_95 ∧ Aside0 (impl_Tighten.j3 kq x4_1 x6_3 x9_3 x10_3 x149_95 = some (r1, r2)) ∧ Aside0 (kq ≤ k3) ∧ Aside0 (Kd.R k88 88 wc w.heap.size (fun _ => True) (.slice Ao7 x4_1.length co7) x4_1) ∧ Aside0 (Kd.R Kd.bool 4 wc w.heap.size (fun _ => True) v111 x6_3) ∧ Aside0 (Below w.heap.size w wc))
              case first =>
               have H := HC96.out
               clear HC96
               by_cases c97 : 0 ≤ x10_3
               ·rw [if_pos c97] at H
                have c97b0 : decide (0 ≤ x10_3) = true := decide_eq_true c97
                clear c97
                (first|rw [c97b0]|(simp only [i64_w, i32_w];rw [c97b0])|skip)
                by_cases c98 : x10_3 < (x6_3.length : Int)
                ·rw [if_pos c98] at H
                 have c98b0 : decide (x10_3 < (x6_3.length : Int)) = true := decide_eq_true c98
                 clear c98
                 obtain ⟨bq99, hbq99⟩ : ∃ b_ : Bool, b_ = (rdOf false x6_3 x10_3) := ⟨_, rfl⟩
                 replace H : (if bq99 = true then (if x10_3 < (x4_1.length : Int) then ((impl_jumps.f ((rd_T88 x4_1 x10_3).f0)).bind fun t142 => (if t142 = true then (if ((rd_T88 x4_1 x10_3).f2) > x10_3 then (impl_Tighten.j3 k3 x4_1 x6_3 x9_3 x10_3 (decide (((rd_T88 x4_1 x10_3).f2) ≤ x9_3))) else (impl_Tighten.j3 k3 x4_1 x6_3 x9_3 x10_3 false)) else (impl_Tighten.j3 k3 x4_1 x6_3 x9_3 x10_3 false))) else (none)) else (impl_Tighten.j3 k3 x4_1 x6_3 x9_3 x10_3 false)) = some (r1, r2) := by rw [← hbq99] at H;exact H
                 have Nbq99 := Aside0.mk hbq99
                 clear hbq99
                 by_cases c100 : bq99 = true
                 ·subst c100
                  have H1 : (if x10_3 < (x4_1.length : Int) then ((impl_jumps.f ((rd_T88 x4_1 x10_3).f0)).bind fun t142 => (if t142 = true then (if ((rd_T88 x4_1 x10_3).f2) > x10_3 then (impl_Tighten.j3 k3 x4_1 x6_3 x9_3 x10_3 (decide (((rd_T88 x4_1 x10_3).f2) ≤ x9_3))) else (impl_Tighten.j3 k3 x4_1 x6_3 x9_3 x10_3 false)) else (impl_Tighten.j3 k3 x4_1 x6_3 x9_3 x10_3 false))) else (none)) = some (r1, r2) := by rw [if_pos rfl] at H;exact H
                  clear H
                  have H := H1
                  clear H1
                  by_cases c101 : x10_3 < (x4_1.length : Int)
                  ·rw [if_pos c101] at H
                   have c101b0 : decide (x10_3 < (x4_1.length : Int)) = true := decide_eq_true c101
                   clear c101
                   replace H := Option.bind_eq_some_iff.mp H
                   obtain ⟨t142, A1020, H⟩ := H
                   replace H : (if t142 = true then (if ((rd_T88 x4_1 x10_3).f2) > x10_3 then (impl_Tighten.j3 k3 x4_1 x6_3 x9_3 x10_3 (decide (((rd_T88 x4_1 x10_3).f2) ≤ x9_3))) else (impl_Tighten.j3 k3 x4_1 x6_3 x9_3 x10_3 false)) else (impl_Tighten.j3 k3 x4_1 x6_3 x9_3 x10_3 false)) = some (r1, r2) := H
                   have A102 := Aside0.mk A1020
                   clear A1020
                   by_cases c103 : t142 = true
                   ·subst c103
                    have H1 : (if ((rd_T88 x4_1 x10_3).f2) > x10_3 then (impl_Tighten.j3 k3 x4_1 x6_3 x9_3 x10_3 (decide (((rd_T88 x4_1 x10_3).f2) ≤ x9_3))) else (impl_Tighten.j3 k3 x4_1 x6_3 x9_3 x10_3 false)) = some (r1, r2) := by rw [if_pos rfl] at H;exact H
                    clear H
                    have H := H1
                    clear H1
                    by_cases c104 : ((rd_T88 x4_1 x10_3).f2) > x10_3
                    ·rw [if_pos c104] at H
                     have c104b0 : decide (x10_3 < ((rd_T88 x4_1 x10_3).f2)) = true := decide_eq_true c104
                     clear c104
                     have H' := Aside0.mk H
                     clear H
                     obtain ⟨Ao105, co105, eo105⟩ := Kd.R_slice HO_6.out
                     subst eo105
                     have p140 : 0 ≤ (x10_3 : Int) := of_decide_eq_true (by first|(with_reducible assumption)|assumption)
                     have q140 : x10_3 < (x6_3.length : Int) := of_decide_eq_true (by first|(with_reducible assumption)|assumption)
                     obtain ⟨ad140, e140, hx140_0⟩ := Kd.at_bool (Kd.R_reads' HO_6.out).2.2 x10_3 p140 q140
                     (try rw [← Nbq99.out] at hx140_0)
                     cases e140
                     replace p140 := eq_true p140
                     replace q140 := eq_true q140
                     have p141 : 0 ≤ (x10_3 : Int) := of_decide_eq_true (by first|(with_reducible assumption)|assumption)
                     have q141 : x10_3 < (x4_1.length : Int) := of_decide_eq_true (by first|(with_reducible assumption)|assumption)
                     obtain ⟨ad141, e141, hx141_0, hx141_1, hx141_2⟩ := at_T88 (Kd.R_reads' HO_4.out).2.2 x10_3 p141 q141
                     cases e141
                     replace p141 := eq_true p141
                     replace q141 := eq_true q141
                     go_wp2_with (first|(go_at_call 81;(with_reducible refine (impl_jumps.calls ((rd_T88 x4_1 x10_3).f0) true _ A102.out).mono ?_);rintro e w' ⟨rfl, ⟨nd, rfl⟩⟩;have p143 : 0 ≤ (x10_3 : Int) := of_decide_eq_true (by first|(with_reducible assumption)|assumption);have q143 : x10_3 < (x4_1.length : Int) := of_decide_eq_true (by first|(with_reducible assumption)|assumption);obtain ⟨ad143, e143, hx143_0, hx143_1, hx143_2⟩ := at_T88 (Kd.R_reads' HO_4.out).2.2 x10_3 p143 q143;obtain rfl : ad141 = ad143 := (by injection e143);replace p143 := eq_true p143;replace q143 := eq_true q143;have p144 : 0 ≤ (x10_3 : Int) := of_decide_eq_true (by first|(with_reducible assumption)|assumption);have q144 : x10_3 < (x4_1.length : Int) := of_decide_eq_true (by first|(with_reducible assumption)|assumption);obtain ⟨ad144, e144, hx144_0, hx144_1, hx144_2⟩ := at_T88 (Kd.R_reads' HO_4.out).2.2 x10_3 p144 q144;obtain rfl : ad141 = ad144 := (by injection e144);replace p144 := eq_true p144;replace q144 := eq_true q144))
                     go_meet
                     case rel => exact ⟨_, (decide (((rd_T88 x4_1 x10_3).f2) ≤ x9_3)), (by first|rfl|(simp;done)|(simp [*];done)), H', ⟨by have := HK1.out;have := HK2.out;have := HK3.out;first|omega|exact Nat.le_refl _⟩, ⟨by (try simp only [hl4_1]);(with_reducible repeat (first|apply Kd.R_alloc|apply Kd.R_drewN|apply Kd.R_drew));exact HO_4.out⟩, ⟨by (try simp only [hl4_1]);(with_reducible repeat (first|apply Kd.R_alloc|apply Kd.R_drewN|apply Kd.R_drew));exact HO_6.out⟩, ⟨by repeat (first|(with_reducible first|exact HB.out|apply below_alloc|apply pw_below_drewN|apply below_drew1)|exact HB.out)⟩⟩
                    ·rw [if_neg c104] at H
                     have c104b0 : decide (x10_3 < ((rd_T88 x4_1 x10_3).f2)) = false := decide_eq_false c104
                     clear c104
                     have H' := Aside0.mk H
                     clear H
                     obtain ⟨Ao106, co106, eo106⟩ := Kd.R_slice HO_6.out
                     subst eo106
                     have p140 : 0 ≤ (x10_3 : Int) := of_decide_eq_true (by first|(with_reducible assumption)|assumption)
                     have q140 : x10_3 < (x6_3.length : Int) := of_decide_eq_true (by first|(with_reducible assumption)|assumption)
                     obtain ⟨ad140, e140, hx140_0⟩ := Kd.at_bool (Kd.R_reads' HO_6.out).2.2 x10_3 p140 q140
                     (try rw [← Nbq99.out] at hx140_0)
                     cases e140
                     replace p140 := eq_true p140
                     replace q140 := eq_true q140
                     have p141 : 0 ≤ (x10_3 : Int) := of_decide_eq_true (by first|(with_reducible assumption)|assumption)
                     have q141 : x10_3 < (x4_1.length : Int) := of_decide_eq_true (by first|(with_reducible assumption)|assumption)
                     obtain ⟨ad141, e141, hx141_0, hx141_1, hx141_2⟩ := at_T88 (Kd.R_reads' HO_4.out).2.2 x10_3 p141 q141
                     cases e141
                     replace p141 := eq_true p141
                     replace q141 := eq_true q141
                     go_wp2_with (first|(go_at_call 81;(with_reducible refine (impl_jumps.calls ((rd_T88 x4_1 x10_3).f0) true _ A102.out).mono ?_);rintro e w' ⟨rfl, ⟨nd, rfl⟩⟩;have p143 : 0 ≤ (x10_3 : Int) := of_decide_eq_true (by first|(with_reducible assumption)|assumption);have q143 : x10_3 < (x4_1.length : Int) := of_decide_eq_true (by first|(with_reducible assumption)|assumption);obtain ⟨ad143, e143, hx143_0, hx143_1, hx143_2⟩ := at_T88 (Kd.R_reads' HO_4.out).2.2 x10_3 p143 q143;obtain rfl : ad141 = ad143 := (by injection e143);replace p143 := eq_true p143;replace q143 := eq_true q143))
                     go_meet
                     case rel => exact ⟨_, (false), (by first|rfl|(simp;done)|(simp [*];done)), H', ⟨by have := HK1.out;have := HK2.out;have := HK3.out;first|omega|exact Nat.le_refl _⟩, ⟨by (try simp only [hl4_1]);(with_reducible repeat (first|apply Kd.R_alloc|apply Kd.R_drewN|apply Kd.R_drew));exact HO_4.out⟩, ⟨by (try simp only [hl4_1]);(with_reducible repeat (first|apply Kd.R_alloc|apply Kd.R_drewN|apply Kd.R_drew));exact HO_6.out⟩, ⟨by repeat (first|(with_reducible first|exact HB.out|apply below_alloc|apply pw_below_drewN|apply below_drew1)|exact HB.out)⟩⟩
                   ·replace c103 := Bool.eq_false_iff.mpr c103
                    subst c103
                    have H1 : (impl_Tighten.j3 k3 x4_1 x6_3 x9_3 x10_3 false) = some (r1, r2) := by rw [if_neg (show ¬ (false = true) by decide)] at H;exact H
                    clear H
                    have H := H1
                    clear H1
                    have H' := Aside0.mk H
                    clear H
                    obtain ⟨Ao107, co107, eo107⟩ := Kd.R_slice HO_6.out
                    subst eo107
                    have p140 : 0 ≤ (x10_3 : Int) := of_decide_eq_true (by first|(with_reducible assumption)|assumption)
                    have q140 : x10_3 < (x6_3.length : Int) := of_decide_eq_true (by first|(with_reducible assumption)|assumption)
                    obtain ⟨ad140, e140, hx140_0⟩ := Kd.at_bool (Kd.R_reads' HO_6.out).2.2 x10_3 p140 q140
                    (try rw [← Nbq99.out] at hx140_0)
                    cases e140
                    replace p140 := eq_true p140
                    replace q140 := eq_true q140
                    have p141 : 0 ≤ (x10_3 : Int) := of_decide_eq_true (by first|(with_reducible assumption)|assumption)
                    have q141 : x10_3 < (x4_1.length : Int) := of_decide_eq_true (by first|(with_reducible assumption)|assumption)
                    obtain ⟨ad141, e141, hx141_0, hx141_1, hx141_2⟩ := at_T88 (Kd.R_reads' HO_4.out).2.2 x10_3 p141 q141
                    cases e141
                    replace p141 := eq_true p141
                    replace q141 := eq_true q141
                    go_wp2_with (first|(go_at_call 81;(with_reducible refine (impl_jumps.calls ((rd_T88 x4_1 x10_3).f0) false _ A102.out).mono ?_);rintro e w' ⟨rfl, ⟨nd, rfl⟩⟩))
                    go_meet
                    case rel => exact ⟨_, (false), (by first|rfl|(simp;done)|(simp [*];done)), H', ⟨by have := HK1.out;have := HK2.out;have := HK3.out;first|omega|exact Nat.le_refl _⟩, ⟨by (try simp only [hl4_1]);(with_reducible repeat (first|apply Kd.R_alloc|apply Kd.R_drewN|apply Kd.R_drew));exact HO_4.out⟩, ⟨by (try simp only [hl4_1]);(with_reducible repeat (first|apply Kd.R_alloc|apply Kd.R_drewN|apply Kd.R_drew));exact HO_6.out⟩, ⟨by repeat (first|(with_reducible first|exact HB.out|apply below_alloc|apply pw_below_drewN|apply below_drew1)|exact HB.out)⟩⟩
                  ·rw [if_neg c101] at H
                   exact absurd H (by simp)
                 ·replace c100 := Bool.eq_false_iff.mpr c100
                  subst c100
                  have H1 : (impl_Tighten.j3 k3 x4_1 x6_3 x9_3 x10_3 false) = some (r1, r2) := by rw [if_neg (show ¬ (false = true) by decide)] at H;exact H
                  clear H
                  have H := H1
                  clear H1
                  have H' := Aside0.mk H
                  clear H
                  obtain ⟨Ao108, co108, eo108⟩ := Kd.R_slice HO_6.out
                  subst eo108
                  have p140 : 0 ≤ (x10_3 : Int) := of_decide_eq_true (by first|(with_reducible assumption)|assumption)
                  have q140 : x10_3 < (x6_3.length : Int) := of_decide_eq_true (by first|(with_reducible assumption)|assumption)
                  obtain ⟨ad140, e140, hx140_0⟩ := Kd.at_bool (Kd.R_reads' HO_6.out).2.2 x10_3 p140 q140
                  (try rw [← Nbq99.out] at hx140_0)
                  cases e140
                  replace p140 := eq_true p140
                  replace q140 := eq_true q140
                  go_wp2
                  go_meet
                  case rel => exact ⟨_, (false), (by first|rfl|(simp;done)|(simp [*];done)), H', ⟨by have := HK1.out;have := HK2.out;have := HK3.out;first|omega|exact Nat.le_refl _⟩, ⟨by (try simp only [hl4_1]);(with_reducible repeat (first|apply Kd.R_alloc|apply Kd.R_drewN|apply Kd.R_drew));exact HO_4.out⟩, ⟨by (try simp only [hl4_1]);(with_reducible repeat (first|apply Kd.R_alloc|apply Kd.R_drewN|apply Kd.R_drew));exact HO_6.out⟩, ⟨by repeat (first|(with_reducible first|exact HB.out|apply below_alloc|apply pw_below_drewN|apply below_drew1)|exact HB.out)⟩⟩
                ·rw [if_neg c98] at H
                 exact absurd H (by simp)
               ·rw [if_neg c97] at H
                exact absurd H (by simp)
              case rest =>
               clear HC96
               try clear c1
               try clear p1
               try clear q1
               try clear hx1
               try clear c2
               try clear p2
               try clear c3
               try clear p3
               try clear q3
               try clear hx3
               try clear hf3
               try clear c4
               try clear q4
               try clear c5
               try clear q5
               try clear c6
               try clear p6
               try clear q6
               try clear c7
               try clear q7
               try clear c8
               try clear q8
               try clear c9
               try clear q9
               try clear c10
               try clear p10
               try clear q10
               try clear hx10
               try clear p11
               try clear q11
               try clear hx11
               try clear p12
               try clear q12
               try clear hx12
               try clear p13
               try clear q13
               try clear hx13
               try clear p14
               try clear q14
               try clear hx14
               try clear hx15
               try clear c23
               try clear c23b0
               try clear c23b1
               try clear c25
               try clear c25b0
               try clear c26
               try clear c26b0
               try clear c27
               try clear c27b0
               try clear c27b1
               try clear c28
               try clear c28b0
               try clear c29
               try clear c29b0
               try clear q30
               try clear c31
               try clear q33
               try clear p35
               try clear q35
               try clear hx35
               try clear hf35
               try clear c36
               try clear c36b0
               try clear c38
               try clear c39
               try clear c40
               try clear c40b0
               try clear c40b1
               try clear q42
               try clear c47
               try clear c47b0
               try clear c47b1
               try clear q49
               try clear c54
               try clear c54b0
               try clear c54b1
               try clear q56
               try clear c61
               try clear q63
               try clear p64
               try clear c69
               try clear c69b0
               try clear c69b1
               try clear q71
               try clear c75
               try clear c75b0
               try clear c75b1
               try clear q77
               try clear c81
               try clear c81b0
               try clear c81b1
               try clear q83
               try clear c87
               try clear q89
               try clear c95
               try clear c95b0
               try clear c97
               try clear c97b0
               try clear c98
               try clear c98b0
               try clear q99
               try clear c100
               try clear c101
               try clear c101b0
               try clear c103
               try clear c104
               try clear c104b0
               try clear p105
               try clear q105
               try clear p107
               try clear q107
               try clear hx107
               try clear hx107_0
               try clear hx107_1
               try clear hx107_2
               try clear hx116_0
               try clear hx120_0
               try clear hx122_0
               try clear hx122_1
               try clear hx122_2
               try clear hx124_0
               try clear hx124_1
               try clear hx124_2
               try clear hx128_0
               try clear hx128_1
               try clear hx128_2
               try clear hx129_0
               try clear hx129_1
               try clear hx129_2
               try clear hx130_0
               try clear hx130_1
               try clear hx130_2
               try clear hx134_0
               try clear hx134_1
               try clear hx134_2
               try clear hx135_0
               try clear hx135_1
               try clear hx135_2
               try clear hx136_0
               try clear hx136_1
               try clear hx136_2
               try clear hx140_0
               try clear hx141_0
               try clear hx141_1
               try clear hx141_2
               try clear hx143_0
               try clear hx143_1
               try clear hx143_2
               try clear hx144_0
               try clear hx144_1
               try clear hx144_2
               try clear hx14_0
               try clear hx14_1
               try clear hx14_2
               try clear hx15_2
               try clear hx35_0
               try clear p1
               try clear p10
               try clear p105
               try clear p107
               try clear p11
               try clear p116
               try clear p12
               try clear p120
               try clear p122
               try clear p124
               try clear p128
               try clear p129
               try clear p13
               try clear p130
               try clear p134
               try clear p135
               try clear p136
               try clear p14
               try clear p140
               try clear p141
               try clear p143
               try clear p144
               try clear p2
               try clear p3
               try clear p35
               try clear p6
               try clear p64
               try clear q1
               try clear q10
               try clear q105
               try clear q107
               try clear q11
               try clear q116
               try clear q12
               try clear q120
               try clear q122
               try clear q124
               try clear q128
               try clear q129
               try clear q13
               try clear q130
               try clear q134
               try clear q135
               try clear q136
               try clear q14
               try clear q140
               try clear q141
               try clear q143
               try clear q144
               try clear q3
               try clear q30
               try clear q33
               try clear q35
               try clear q4
               try clear q42
               try clear q49
               try clear q5
               try clear q56
               try clear q6
               try clear q63
               try clear q7
               try clear q71
               try clear q77
               try clear q8
               try clear q83
               try clear q89
               obtain ⟨kq, x149_95, rfl, HA, HJ95, HO_4, HO_6, HB⟩ := hcut
               cases kq with
               | zero => exact absurd HA.out (by simp [impl_Tighten.j3])
               | succ kj95 =>
                have H := HA.out
                clear HA
                simp only [impl_Tighten.j3] at H
                by_cases c109 : x149_95 = true
                ·subst c109
                 have H1 : (if 0 ≤ x10_3 then (if x10_3 < (x6_3.length : Int) then ((some (x6_3.set (x10_3 : Int).toNat false : List Bool)).bind fun y145 => (if rdOf false y145 x10_3 = true then (impl_Tighten.l2 kj95 x4_1 y145 x10_3 (wrap64 (x10_3 - 1))) else (impl_Tighten.l2 kj95 x4_1 y145 x9_3 (wrap64 (x10_3 - 1))))) else (none)) else (none)) = some (r1, r2) := by rw [if_pos rfl] at H;exact H
                 clear H
                 have H := H1
                 clear H1
                 by_cases c110 : 0 ≤ x10_3
                 ·rw [if_pos c110] at H
                  have c110b0 : decide (0 ≤ x10_3) = true := decide_eq_true c110
                  clear c110
                  by_cases c111 : x10_3 < (x6_3.length : Int)
                  ·rw [if_pos c111] at H
                   have c111b0 : decide (x10_3 < (x6_3.length : Int)) = true := decide_eq_true c111
                   clear c111
                   obtain ⟨y145, hy145⟩ : ∃ y_ : List Bool, y_ = (x6_3.set (x10_3 : Int).toNat false) := ⟨_, rfl⟩
                   replace H : (if rdOf false y145 x10_3 = true then (impl_Tighten.l2 kj95 x4_1 y145 x10_3 (wrap64 (x10_3 - 1))) else (impl_Tighten.l2 kj95 x4_1 y145 x9_3 (wrap64 (x10_3 - 1)))) = some (r1, r2) := by first|(rw [hy145];with_reducible exact H)|(have H2_ := (Option.bind_some _ _).symm.trans H;rw [hy145];with_reducible exact H2_)|(have H2_ := (Option.bind_some _ _).symm.trans H;with_reducible exact H2_)|with_reducible exact H|(rw [hy145];exact H)|exact H
                   have Ny145 := Aside0.mk hy145
                   clear hy145
                   obtain ⟨bq113, hbq113⟩ : ∃ b_ : Bool, b_ = (rdOf false y145 x10_3) := ⟨_, rfl⟩
                   replace H : (if bq113 = true then (impl_Tighten.l2 kj95 x4_1 y145 x10_3 (wrap64 (x10_3 - 1))) else (impl_Tighten.l2 kj95 x4_1 y145 x9_3 (wrap64 (x10_3 - 1)))) = some (r1, r2) := by rw [← hbq113] at H;exact H
                   have Nbq113 := Aside0.mk hbq113
                   clear hbq113
                   by_cases c114 : bq113 = true
                   ·subst c114
                    have H1 : (impl_Tighten.l2 kj95 x4_1 y145 x10_3 (wrap64 (x10_3 - 1))) = some (r1, r2) := by rw [if_pos rfl] at H;exact H
                    clear H
                    have H := H1
                    clear H1
                    have H' := Aside0.mk H
                    clear H
                    have p112 : 0 ≤ (x10_3 : Int) := of_decide_eq_true (by first|(with_reducible assumption)|assumption)
                    have q112 : (x10_3 : Int) < ((x6_3.length : Int) : Int) := of_decide_eq_true (by first|(with_reducible assumption)|assumption)
                    obtain ⟨go112, co112, eo112, gb112, gl112, cl112, HG112⟩ := Kd.R_form HO_6.out (by omega)
                    (first|cases eo112|(injection eo112 with ea_ en_ ec_;(first|subst ea_|(injection ea_ with ea_;subst ea_));subst ec_;clear en_))
                    have GB112 := Aside0.mk gb112
                    have GG112 := Aside0.mk HG112
                    clear gb112 gl112 HG112
                    obtain ⟨hx112_0, hf112_0⟩ := Kd.R_celln false HO_6.out (x10_3 : Int) p112 q112
                    replace p112 := eq_true p112
                    replace q112 := eq_true q112
                    have HP115 := Kd.R_putg HO_6.out (x10_3 : Int) false
                    go_wp2_with (first|((with_reducible refine gate_store (t := 4) (p := 152) rfl ?_);refine store_event (t := 4) (p := 152) (v := ?vo_w116) (w1 := (wc.setCell ⟨go112, (x10_3 : Int).toNat, none⟩ (.bool false))) ?hg ?ho ?hn ?hr ?_;(case ho => rfl);(case hg => rfl);(case hn => rfl);(case hr => first|(go_simp;done)|(go_simp;rfl));intro w116 hw;have hg : wc.grownBy w116 (some go112) := (by rw [hw];exact HP115.2);have hp_ : Kd.R Kd.bool 4 w116 w.heap.size (fun _ => True) (.slice (some ⟨go112, 0, none⟩) x6_3.length co112) y145 := (by rw [hw, Ny145.out];exact HP115.1);clear HP115;have n0_ := Aside0.mk (Kd.R_over' (v := (.slice (some ⟨go112, 0, none⟩) x6_3.length co112)) (by (with_reducible repeat (first|apply Kd.R_alloc|apply Kd.R_drewN|apply Kd.R_drew));exact HO_4.out) (Kd.R_typed HO_6.out) (by decide) hg);have n1_ := Aside0.mk (hp_);have n2_ := Aside0.mk ((by rw [hw];exact below_set (HB.out) GB112.out : Below w.heap.size w w116));clear HO_4;clear HO_6;clear HB;have HO_4 := n0_;have HO_6 := n1_;have HB := n2_;clear n0_ n1_ n2_;clear hg hw hp_;have p146 : 0 ≤ (x10_3 : Int) := of_decide_eq_true (by first|(with_reducible assumption)|assumption);have q146 : x10_3 < (y145.length : Int) := (by have h_ : (x10_3 : Int) < ((x6_3.length : Int) : Int) := of_decide_eq_true (by first|(with_reducible assumption)|assumption);first|(have e_ := (Kd.R_reads' HO_6.out).1;omega)|simpa only [Ny145.out, List.length_set] using h_);have ql146 : ((x10_3 : Int) < ((x6_3.length : Int) : Int)) = True := eq_true (of_decide_eq_true (by first|(with_reducible assumption)|assumption));obtain ⟨ad146, e146, hx146_0⟩ := Kd.at_bool (Kd.R_reads' HO_6.out).2.2 x10_3 p146 q146;(try rw [← Nbq113.out] at hx146_0);obtain rfl : (⟨go112, 0, none⟩ : Addr) = ad146 := (by injection e146);(first|simp only [add_plain] at hx146_0|simp only [add_at] at hx146_0|simp only [Addr.add, Nat.zero_add] at hx146_0|skip);replace p146 := eq_true p146;replace q146 := eq_true q146))
                    go_roundg kj95
                    case measure => have := HK1.out;have := HK2.out;have := HK3.out;have := HJ95.out;omega
                    case rel => exact ⟨(y145), (x10_3), (wrap64 (x10_3 - 1)), (by first|rfl|(simp;done)|(simp [*];done)), (by first|rfl|(simp;done)|(simp [*];done)), H', ⟨by have := HK1.out;have := HK2.out;have := HK3.out;have := HJ95.out;omega⟩, ⟨by (try simp only [hl4_1]);(with_reducible repeat (first|apply Kd.R_alloc|apply Kd.R_drewN|apply Kd.R_drew));exact HO_4.out⟩, ⟨by (try simp only [hl4_1]);(with_reducible repeat (first|apply Kd.R_alloc|apply Kd.R_drewN|apply Kd.R_drew));exact HO_6.out⟩, ⟨by repeat (first|(with_reducible first|exact HB.out|apply below_alloc|apply pw_below_drewN|apply below_drew1)|exact HB.out)⟩⟩
                   ·replace c114 := Bool.eq_false_iff.mpr c114
                    subst c114
                    have H1 : (impl_Tighten.l2 kj95 x4_1 y145 x9_3 (wrap64 (x10_3 - 1))) = some (r1, r2) := by rw [if_neg (show ¬ (false = true) by decide)] at H;exact H
                    clear H
                    have H := H1
                    clear H1
                    have H' := Aside0.mk H
                    clear H
                    have p112 : 0 ≤ (x10_3 : Int) := of_decide_eq_true (by first|(with_reducible assumption)|assumption)
                    have q112 : (x10_3 : Int) < ((x6_3.length : Int) : Int) := of_decide_eq_true (by first|(with_reducible assumption)|assumption)
                    obtain ⟨go112, co112, eo112, gb112, gl112, cl112, HG112⟩ := Kd.R_form HO_6.out (by omega)
                    (first|cases eo112|(injection eo112 with ea_ en_ ec_;(first|subst ea_|(injection ea_ with ea_;subst ea_));subst ec_;clear en_))
                    have GB112 := Aside0.mk gb112
                    have GG112 := Aside0.mk HG112
                    clear gb112 gl112 HG112
                    obtain ⟨hx112_0, hf112_0⟩ := Kd.R_celln false HO_6.out (x10_3 : Int) p112 q112
                    replace p112 := eq_true p112
                    replace q112 := eq_true q112
                    have HP117 := Kd.R_putg HO_6.out (x10_3 : Int) false
                    go_wp2_with (first|((with_reducible refine gate_store (t := 4) (p := 152) rfl ?_);refine store_event (t := 4) (p := 152) (v := ?vo_w118) (w1 := (wc.setCell ⟨go112, (x10_3 : Int).toNat, none⟩ (.bool false))) ?hg ?ho ?hn ?hr ?_;(case ho => rfl);(case hg => rfl);(case hn => rfl);(case hr => first|(go_simp;done)|(go_simp;rfl));intro w118 hw;have hg : wc.grownBy w118 (some go112) := (by rw [hw];exact HP117.2);have hp_ : Kd.R Kd.bool 4 w118 w.heap.size (fun _ => True) (.slice (some ⟨go112, 0, none⟩) x6_3.length co112) y145 := (by rw [hw, Ny145.out];exact HP117.1);clear HP117;have n0_ := Aside0.mk (Kd.R_over' (v := (.slice (some ⟨go112, 0, none⟩) x6_3.length co112)) (by (with_reducible repeat (first|apply Kd.R_alloc|apply Kd.R_drewN|apply Kd.R_drew));exact HO_4.out) (Kd.R_typed HO_6.out) (by decide) hg);have n1_ := Aside0.mk (hp_);have n2_ := Aside0.mk ((by rw [hw];exact below_set (HB.out) GB112.out : Below w.heap.size w w118));clear HO_4;clear HO_6;clear HB;have HO_4 := n0_;have HO_6 := n1_;have HB := n2_;clear n0_ n1_ n2_;clear hg hw hp_;have p146 : 0 ≤ (x10_3 : Int) := of_decide_eq_true (by first|(with_reducible assumption)|assumption);have q146 : x10_3 < (y145.length : Int) := (by have h_ : (x10_3 : Int) < ((x6_3.length : Int) : Int) := of_decide_eq_true (by first|(with_reducible assumption)|assumption);first|(have e_ := (Kd.R_reads' HO_6.out).1;omega)|simpa only [Ny145.out, List.length_set] using h_);have ql146 : ((x10_3 : Int) < ((x6_3.length : Int) : Int)) = True := eq_true (of_decide_eq_true (by first|(with_reducible assumption)|assumption));obtain ⟨ad146, e146, hx146_0⟩ := Kd.at_bool (Kd.R_reads' HO_6.out).2.2 x10_3 p146 q146;(try rw [← Nbq113.out] at hx146_0);obtain rfl : (⟨go112, 0, none⟩ : Addr) = ad146 := (by injection e146);(first|simp only [add_plain] at hx146_0|simp only [add_at] at hx146_0|simp only [Addr.add, Nat.zero_add] at hx146_0|skip);replace p146 := eq_true p146;replace q146 := eq_true q146))
                    go_roundg kj95
                    case measure => have := HK1.out;have := HK2.out;have := HK3.out;have := HJ95.out;omega
                    case rel => exact ⟨(y145), (x9_3), (wrap64 (x10_3 - 1)), (by first|rfl|(simp;done)|(simp [*];done)), (by first|rfl|(simp;done)|(simp [*];done)), H', ⟨by have := HK1.out;have := HK2.out;have := HK3.out;have := HJ95.out;omega⟩, ⟨by (try simp only [hl4_1]);(with_reducible repeat (first|apply Kd.R_alloc|apply Kd.R_drewN|apply Kd.R_drew));exact HO_4.out⟩, ⟨by (try simp only [hl4_1]);(with_reducible repeat (first|apply Kd.R_alloc|apply Kd.R_drewN|apply Kd.R_drew));exact HO_6.out⟩, ⟨by repeat (first|(with_reducible first|exact HB.out|apply below_alloc|apply pw_below_drewN|apply below_drew1)|exact HB.out)⟩⟩
                  ·rw [if_neg c111] at H
                   exact absurd H (by simp)
                 ·rw [if_neg c110] at H
                  exact absurd H (by simp)
                ·replace c109 := Bool.eq_false_iff.mpr c109
                 subst c109
                 have H1 : (if 0 ≤ x10_3 then (if x10_3 < (x6_3.length : Int) then (if rdOf false x6_3 x10_3 = true then (impl_Tighten.l2 kj95 x4_1 x6_3 x10_3 (wrap64 (x10_3 - 1))) else (impl_Tighten.l2 kj95 x4_1 x6_3 x9_3 (wrap64 (x10_3 - 1)))) else (none)) else (none)) = some (r1, r2) := by rw [if_neg (show ¬ (false = true) by decide)] at H;exact H
                 clear H
                 have H := H1
                 clear H1
                 by_cases c119 : 0 ≤ x10_3
                 ·rw [if_pos c119] at H
                  have c119b0 : decide (0 ≤ x10_3) = true := decide_eq_true c119
                  clear c119
                  by_cases c120 : x10_3 < (x6_3.length : Int)
                  ·rw [if_pos c120] at H
                   have c120b0 : decide (x10_3 < (x6_3.length : Int)) = true := decide_eq_true c120
                   clear c120
                   obtain ⟨bq121, hbq121⟩ : ∃ b_ : Bool, b_ = (rdOf false x6_3 x10_3) := ⟨_, rfl⟩
                   replace H : (if bq121 = true then (impl_Tighten.l2 kj95 x4_1 x6_3 x10_3 (wrap64 (x10_3 - 1))) else (impl_Tighten.l2 kj95 x4_1 x6_3 x9_3 (wrap64 (x10_3 - 1)))) = some (r1, r2) := by rw [← hbq121] at H;exact H
                   have Nbq121 := Aside0.mk hbq121
                   clear hbq121
                   by_cases c122 : bq121 = true
                   ·subst c122
                    have H1 : (impl_Tighten.l2 kj95 x4_1 x6_3 x10_3 (wrap64 (x10_3 - 1))) = some (r1, r2) := by rw [if_pos rfl] at H;exact H
                    clear H
                    have H := H1
                    clear H1
                    have H' := Aside0.mk H
                    clear H
                    obtain ⟨Ao123, co123, eo123⟩ := Kd.R_slice HO_6.out
                    subst eo123
                    have p147 : 0 ≤ (x10_3 : Int) := of_decide_eq_true (by first|(with_reducible assumption)|assumption)
                    have q147 : x10_3 < (x6_3.length : Int) := of_decide_eq_true (by first|(with_reducible assumption)|assumption)
                    obtain ⟨ad147, e147, hx147_0⟩ := Kd.at_bool (Kd.R_reads' HO_6.out).2.2 x10_3 p147 q147
                    (try rw [← Nbq121.out] at hx147_0)
                    cases e147
                    replace p147 := eq_true p147
                    replace q147 := eq_true q147
                    go_wp2
                    go_roundg kj95
                    case measure => have := HK1.out;have := HK2.out;have := HK3.out;have := HJ95.out;omega
                    case rel => exact ⟨(x6_3), (x10_3), (wrap64 (x10_3 - 1)), (by first|rfl|(simp;done)|(simp [*];done)), (by first|rfl|(simp;done)|(simp [*];done)), H', ⟨by have := HK1.out;have := HK2.out;have := HK3.out;have := HJ95.out;omega⟩, ⟨by (try simp only [hl4_1]);(with_reducible repeat (first|apply Kd.R_alloc|apply Kd.R_drewN|apply Kd.R_drew));exact HO_4.out⟩, ⟨by (try simp only [hl4_1]);(with_reducible repeat (first|apply Kd.R_alloc|apply Kd.R_drewN|apply Kd.R_drew));exact HO_6.out⟩, ⟨by repeat (first|(with_reducible first|exact HB.out|apply below_alloc|apply pw_below_drewN|apply below_drew1)|exact HB.out)⟩⟩
                   ·replace c122 := Bool.eq_false_iff.mpr c122
                    subst c122
                    have H1 : (impl_Tighten.l2 kj95 x4_1 x6_3 x9_3 (wrap64 (x10_3 - 1))) = some (r1, r2) := by rw [if_neg (show ¬ (false = true) by decide)] at H;exact H
                    clear H
                    have H := H1
                    clear H1
                    have H' := Aside0.mk H
                    clear H
                    obtain ⟨Ao124, co124, eo124⟩ := Kd.R_slice HO_6.out
                    subst eo124
                    have p147 : 0 ≤ (x10_3 : Int) := of_decide_eq_true (by first|(with_reducible assumption)|assumption)
                    have q147 : x10_3 < (x6_3.length : Int) := of_decide_eq_true (by first|(with_reducible assumption)|assumption)
                    obtain ⟨ad147, e147, hx147_0⟩ := Kd.at_bool (Kd.R_reads' HO_6.out).2.2 x10_3 p147 q147
                    (try rw [← Nbq121.out] at hx147_0)
                    cases e147
                    replace p147 := eq_true p147
                    replace q147 := eq_true q147
                    go_wp2
                    go_roundg kj95
                    case measure => have := HK1.out;have := HK2.out;have := HK3.out;have := HJ95.out;omega
                    case rel => exact ⟨(x6_3), (x9_3), (wrap64 (x10_3 - 1)), (by first|rfl|(simp;done)|(simp [*];done)), (by first|rfl|(simp;done)|(simp [*];done)), H', ⟨by have := HK1.out;have := HK2.out;have := HK3.out;have := HJ95.out;omega⟩, ⟨by (try simp only [hl4_1]);(with_reducible repeat (first|apply Kd.R_alloc|apply Kd.R_drewN|apply Kd.R_drew));exact HO_4.out⟩, ⟨by (try simp only [hl4_1]);(with_reducible repeat (first|apply Kd.R_alloc|apply Kd.R_drewN|apply Kd.R_drew));exact HO_6.out⟩, ⟨by repeat (first|(with_reducible first|exact HB.out|apply below_alloc|apply pw_below_drewN|apply below_drew1)|exact HB.out)⟩⟩
                  ·rw [if_neg c120] at H
                   exact absurd H (by simp)
                 ·rw [if_neg c119] at H
                  exact absurd H (by simp)
             ·rw [if_neg c95] at H
              have c95b0 : decide (0 ≤ x10_3) = false := decide_eq_false c95
              clear c95
              by_cases c125 : 0 ≤ (x4_1.length : Int)
              ·rw [if_pos c125] at H
               have c125b0 := eq_true c125
               have c125b1 : decide (0 ≤ (x4_1.length : Int)) = true := decide_eq_true c125
               clear c125
               by_cases c126 : ((x4_1.length : Int) : Int).toNat ≤ 35184372088832
               ·rw [if_pos c126] at H
                have c126b0 := eq_true c126
                have c126b1 : decide (((x4_1.length : Int) : Int).toNat ≤ 35184372088832) = true := decide_eq_true c126
                clear c126
                obtain ⟨y148, hy148⟩ : ∃ y_ : List Int, y_ = (List.replicate ((x4_1.length : Int) : Int).toNat 0) := ⟨_, rfl⟩
                replace H : (impl_Tighten.l3 k3 x4_1 x6_3 y148 0 (x4_1.length : Int) 0) = some (r1, r2) := by first|(rw [hy148];with_reducible exact H)|(have H2_ := (Option.bind_some _ _).symm.trans H;rw [hy148];with_reducible exact H2_)|(have H2_ := (Option.bind_some _ _).symm.trans H;with_reducible exact H2_)|with_reducible exact H|(rw [hy148];exact H)|exact H
                have Ny148 := Aside0.mk hy148
                clear hy148
                have H' := Aside0.mk H
                clear H
                go_wp2_with (first|((with_reducible refine gate_dst (N := 160) rfl ?_);refine Kd.R_make (Kd.int .i64) _ 3 rfl (N := 160) rfl 62 _ _ rfl (x4_1.length : Int) rfl rfl Try.underlying62 (.int .i64 0) 8 info3 rfl (by decide) (by omega) 0 (ok := fun _ => True) (okp := fun _ => True) rfl (fun _ hk => hk) trivial (of_decide_eq_true (by first|(with_reducible assumption)|assumption)) (Nat.le_trans (Nat.mul_le_mul_right _ (of_decide_eq_true (by first|(with_reducible assumption)|assumption) : (x4_1.length : Int).toNat ≤ 35184372088832)) (by omega)) (Below.refl _ _) (Nat.le_refl _) ?_;intro v149 w127 ho128 hb hg_ hnew_;clear hg_ hnew_;(first|rw [← Ny148.out] at ho128|(simp only [Int.reduceToNat] at ho128;rw [← Ny148.out] at ho128));have n0_ := Aside0.mk (Kd.R_below (by (with_reducible repeat (first|apply Kd.R_alloc|apply Kd.R_drewN|apply Kd.R_drew));exact HO_4.out) hb);have n1_ := Aside0.mk (Kd.R_below (by (with_reducible repeat (first|apply Kd.R_alloc|apply Kd.R_drewN|apply Kd.R_drew));exact HO_6.out) hb);have n2_ := Aside0.mk (Kd.R_lower ho128 (below_size (by repeat (first|(with_reducible first|exact HB.out|apply below_alloc|apply pw_below_drewN|apply below_drew1)|exact HB.out))));have n3_ := Aside0.mk (below_step (by repeat (first|(with_reducible first|exact HB.out|apply below_alloc|apply pw_below_drewN|apply below_drew1)|exact HB.out)) hb);clear HO_4;clear HO_6;clear HB;have HO_4 := n0_;have HO_6 := n1_;have HO150 := n2_;have HB := n3_;clear n0_ n1_ n2_ n3_;clear hb ho128))
                go_loopg [12, 163] k3 (fun kq v12 v163 w' => ∃ (x11_4 : List Int) (x12_4 : Int) (x163_4 : Int), v12 = .int .i64 x12_4 ∧ v163 = .int .i64 x163_4 ∧ Aside0 (impl_Tighten.l3 kq x4_1 x6_3 x11_4 x12_4 (x4_1.length : Int) x163_4 = some (r1, r2)) ∧ Aside0 (kq ≤ k3) ∧ Aside0 (Kd.R k88 88 w' w.heap.size (fun _ => True) (.slice Ao7 x4_1.length co7) x4_1) ∧ Aside0 (Kd.R Kd.bool 4 w' w.heap.size (fun _ => True) v111 x6_3) ∧ Aside0 (Kd.R (Kd.int .i64) 3 w' w.heap.size (fun _ => True) v149 x11_4) ∧ Aside0 (Below w.heap.size w w'))
                case atStart => exact ⟨(y148), (0), (0), (by first|rfl|(simp;done)|(simp [*];done)), (by first|rfl|(simp;done)|(simp [*];done)), H', ⟨Nat.le_refl _⟩, ⟨by (try simp only [hl4_1]);(with_reducible repeat (first|apply Kd.R_alloc|apply Kd.R_drewN|apply Kd.R_drew));exact HO_4.out⟩, ⟨by (try simp only [hl4_1]);(with_reducible repeat (first|apply Kd.R_alloc|apply Kd.R_drewN|apply Kd.R_drew));exact HO_6.out⟩, ⟨by (try simp only [hl4_1]);(with_reducible repeat (first|apply Kd.R_alloc|apply Kd.R_drewN|apply Kd.R_drew));exact HO150.out⟩, ⟨by repeat (first|(with_reducible first|exact HB.out|apply below_alloc|apply pw_below_drewN|apply below_drew1)|exact HB.out)⟩⟩
                case round =>
                 clear H'
                 try clear c1
                 try clear p1
                 try clear q1
                 try clear hx1
                 try clear hf1
                 try clear c2
                 try clear p2
                 try clear c3
                 try clear p3
                 try clear q3
                 try clear hx3
                 try clear hf3
                 try clear c4
                 try clear q4
                 try clear c5
                 try clear q5
                 try clear c6
                 try clear p6
                 try clear q6
                 try clear c7
                 try clear q7
                 try clear c8
                 try clear q8
                 try clear c9
                 try clear q9
                 try clear c10
                 try clear p10
                 try clear q10
                 try clear hx10
                 try clear c11
                 try clear p11
                 try clear q11
                 try clear hx11
                 try clear hf11
                 try clear c12
                 try clear p12
                 try clear q12
                 try clear hx12
                 try clear p13
                 try clear q13
                 try clear hx13
                 try clear p14
                 try clear q14
                 try clear hx14
                 try clear hx15
                 try clear c23
                 try clear c23b0
                 try clear c23b1
                 try clear c25
                 try clear c25b0
                 try clear c26
                 try clear c26b0
                 try clear c27
                 try clear c27b0
                 try clear c27b1
                 try clear c28
                 try clear c28b0
                 try clear c29
                 try clear c29b0
                 try clear q30
                 try clear c31
                 try clear q33
                 try clear p35
                 try clear q35
                 try clear hx35
                 try clear hf35
                 try clear c36
                 try clear c36b0
                 try clear c38
                 try clear c39
                 try clear c40
                 try clear c40b0
                 try clear c40b1
                 try clear q42
                 try clear c47
                 try clear c47b0
                 try clear c47b1
                 try clear q49
                 try clear c54
                 try clear c54b0
                 try clear c54b1
                 try clear q56
                 try clear c61
                 try clear q63
                 try clear p64
                 try clear c69
                 try clear c69b0
                 try clear c69b1
                 try clear q71
                 try clear c75
                 try clear c75b0
                 try clear c75b1
                 try clear q77
                 try clear c81
                 try clear c81b0
                 try clear c81b1
                 try clear q83
                 try clear c87
                 try clear q89
                 try clear c95
                 try clear c95b0
                 try clear c97
                 try clear c97b0
                 try clear c98
                 try clear c98b0
                 try clear q99
                 try clear c100
                 try clear c101
                 try clear c101b0
                 try clear c103
                 try clear c104
                 try clear c104b0
                 try clear p105
                 try clear q105
                 try clear p107
                 try clear q107
                 try clear hx107
                 try clear c109
                 try clear c110
                 try clear c110b0
                 try clear c111
                 try clear c111b0
                 try clear p112
                 try clear q112
                 try clear hx112
                 try clear hf112
                 try clear q113
                 try clear c114
                 try clear p116
                 try clear q116
                 try clear hx116
                 try clear c119
                 try clear c119b0
                 try clear c120
                 try clear c120b0
                 try clear p120
                 try clear q120
                 try clear hx120
                 try clear q121
                 try clear c122
                 try clear p122
                 try clear q122
                 try clear hx122
                 try clear p124
                 try clear q124
                 try clear hx124
                 try clear c125
                 try clear c125b0
                 try clear c125b1
                 try clear c126
                 try clear c126b0
                 try clear c126b1
                 try clear p128
                 try clear q128
                 try clear hx128
                 try clear hx107_0
                 try clear hx107_1
                 try clear hx107_2
                 try clear hx112_0
                 try clear hx116_0
                 try clear hx120_0
                 try clear hx122_0
                 try clear hx122_1
                 try clear hx122_2
                 try clear hx124_0
                 try clear hx124_1
                 try clear hx124_2
                 try clear hx128_0
                 try clear hx128_1
                 try clear hx128_2
                 try clear hx129_0
                 try clear hx129_1
                 try clear hx129_2
                 try clear hx130_0
                 try clear hx130_1
                 try clear hx130_2
                 try clear hx134_0
                 try clear hx134_1
                 try clear hx134_2
                 try clear hx135_0
                 try clear hx135_1
                 try clear hx135_2
                 try clear hx136_0
                 try clear hx136_1
                 try clear hx136_2
                 try clear hx140_0
                 try clear hx141_0
                 try clear hx141_1
                 try clear hx141_2
                 try clear hx143_0
                 try clear hx143_1
                 try clear hx143_2
                 try clear hx144_0
                 try clear hx144_1
                 try clear hx144_2
                 try clear hx146_0
                 try clear hx147_0
                 try clear hx14_0
                 try clear hx14_1
                 try clear hx14_2
                 try clear hx15_2
                 try clear hx35_0
                 try clear p1
                 try clear p10
                 try clear p105
                 try clear p107
                 try clear p11
                 try clear p112
                 try clear p116
                 try clear p12
                 try clear p120
                 try clear p122
                 try clear p124
                 try clear p128
                 try clear p129
                 try clear p13
                 try clear p130
                 try clear p134
                 try clear p135
                 try clear p136
                 try clear p14
                 try clear p140
                 try clear p141
                 try clear p143
                 try clear p144
                 try clear p146
                 try clear p147
                 try clear p2
                 try clear p3
                 try clear p35
                 try clear p6
                 try clear p64
                 try clear q1
                 try clear q10
                 try clear q105
                 try clear q107
                 try clear q11
                 try clear q112
                 try clear q116
                 try clear q12
                 try clear q120
                 try clear q122
                 try clear q124
                 try clear q128
                 try clear q129
                 try clear q13
                 try clear q130
                 try clear q134
                 try clear q135
                 try clear q136
                 try clear q14
                 try clear q140
                 try clear q141
                 try clear q143
                 try clear q144
                 try clear q146
                 try clear q147
                 try clear q3
                 try clear q30
                 try clear q33
                 try clear q35
                 try clear q4
                 try clear q42
                 try clear q49
                 try clear q5
                 try clear q56
                 try clear q6
                 try clear q63
                 try clear q7
                 try clear q71
                 try clear q77
                 try clear q8
                 try clear q83
                 try clear q89
                 try clear q9
                 try clear q99
                 obtain ⟨x11_4, x12_4, x163_4, rfl, rfl, HA, HK4, HO_4, HO_6, HO_11, HB⟩ := hrel
                 cases gk with
                 | zero => exact absurd HA.out (by simp [impl_Tighten.l3])
                 | succ k4 =>
                  have H := HA.out
                  clear HA
                  simp only [impl_Tighten.l3] at H
                  by_cases c129 : x163_4 < (x4_1.length : Int)
                  ·rw [if_pos c129] at H
                   have c129b0 : decide (x163_4 < (x4_1.length : Int)) = true := decide_eq_true c129
                   clear c129
                   by_cases c130 : 0 ≤ x163_4
                   ·rw [if_pos c130] at H
                    have c130b0 : decide (0 ≤ x163_4) = true := decide_eq_true c130
                    clear c130
                    by_cases c131 : x163_4 < (x11_4.length : Int)
                    ·rw [if_pos c131] at H
                     have c131b0 : decide (x163_4 < (x11_4.length : Int)) = true := decide_eq_true c131
                     clear c131
                     obtain ⟨y151, hy151⟩ : ∃ y_ : List Int, y_ = (x11_4.set (x163_4 : Int).toNat x12_4) := ⟨_, rfl⟩
                     replace H : (if x163_4 < (x6_3.length : Int) then (if rdOf false x6_3 x163_4 = true then (impl_Tighten.l3 k4 x4_1 x6_3 y151 (wrap64 (x12_4 + 1)) (x4_1.length : Int) (wrap64 (x163_4 + 1))) else (impl_Tighten.l3 k4 x4_1 x6_3 y151 x12_4 (x4_1.length : Int) (wrap64 (x163_4 + 1)))) else (none)) = some (r1, r2) := by first|(rw [hy151];with_reducible exact H)|(have H2_ := (Option.bind_some _ _).symm.trans H;rw [hy151];with_reducible exact H2_)|(have H2_ := (Option.bind_some _ _).symm.trans H;with_reducible exact H2_)|with_reducible exact H|(rw [hy151];exact H)|exact H
                     have Ny151 := Aside0.mk hy151
                     clear hy151
                     by_cases c133 : x163_4 < (x6_3.length : Int)
                     ·rw [if_pos c133] at H
                      have c133b0 : decide (x163_4 < (x6_3.length : Int)) = true := decide_eq_true c133
                      clear c133
                      obtain ⟨bq134, hbq134⟩ : ∃ b_ : Bool, b_ = (rdOf false x6_3 x163_4) := ⟨_, rfl⟩
                      replace H : (if bq134 = true then (impl_Tighten.l3 k4 x4_1 x6_3 y151 (wrap64 (x12_4 + 1)) (x4_1.length : Int) (wrap64 (x163_4 + 1))) else (impl_Tighten.l3 k4 x4_1 x6_3 y151 x12_4 (x4_1.length : Int) (wrap64 (x163_4 + 1)))) = some (r1, r2) := by rw [← hbq134] at H;exact H
                      have Nbq134 := Aside0.mk hbq134
                      clear hbq134
                      by_cases c135 : bq134 = true
                      ·subst c135
                       have H1 : (impl_Tighten.l3 k4 x4_1 x6_3 y151 (wrap64 (x12_4 + 1)) (x4_1.length : Int) (wrap64 (x163_4 + 1))) = some (r1, r2) := by rw [if_pos rfl] at H;exact H
                       clear H
                       have H := H1
                       clear H1
                       have H' := Aside0.mk H
                       clear H
                       have p132 : 0 ≤ (x163_4 : Int) := of_decide_eq_true (by first|(with_reducible assumption)|assumption)
                       have q132 : (x163_4 : Int) < ((x11_4.length : Int) : Int) := of_decide_eq_true (by first|(with_reducible assumption)|assumption)
                       obtain ⟨go132, co132, eo132, gb132, gl132, cl132, HG132⟩ := Kd.R_form HO_11.out (by omega)
                       (first|cases eo132|(injection eo132 with ea_ en_ ec_;(first|subst ea_|(injection ea_ with ea_;subst ea_));subst ec_;clear en_))
                       have GB132 := Aside0.mk gb132
                       have GG132 := Aside0.mk HG132
                       clear gb132 gl132 HG132
                       obtain ⟨hx132_0, hf132_0⟩ := Kd.R_celln 0 HO_11.out (x163_4 : Int) p132 q132
                       replace p132 := eq_true p132
                       replace q132 := eq_true q132
                       have HP136 := Kd.R_putg HO_11.out (x163_4 : Int) x12_4
                       go_wp2_with (first|((with_reducible refine gate_store (t := 3) (p := 169) rfl ?_);refine store_event (t := 3) (p := 169) (v := ?vo_w137) (w1 := (wr.setCell ⟨go132, (x163_4 : Int).toNat, none⟩ (.int .i64 x12_4))) ?hg ?ho ?hn ?hr ?_;(case ho => rfl);(case hg => rfl);(case hn => rfl);(case hr => first|(go_simp;done)|(go_simp;rfl));intro w137 hw;have hg : wr.grownBy w137 (some go132) := (by rw [hw];exact HP136.2);have hp_ : Kd.R (Kd.int .i64) 3 w137 w.heap.size (fun _ => True) (.slice (some ⟨go132, 0, none⟩) x11_4.length co132) y151 := (by rw [hw, Ny151.out];exact HP136.1);clear HP136;have n0_ := Aside0.mk (Kd.R_over' (v := (.slice (some ⟨go132, 0, none⟩) x11_4.length co132)) (by (with_reducible repeat (first|apply Kd.R_alloc|apply Kd.R_drewN|apply Kd.R_drew));exact HO_4.out) (Kd.R_typed HO_11.out) (by decide) hg);have n1_ := Aside0.mk (Kd.R_over' (v := (.slice (some ⟨go132, 0, none⟩) x11_4.length co132)) (by (with_reducible repeat (first|apply Kd.R_alloc|apply Kd.R_drewN|apply Kd.R_drew));exact HO_6.out) (Kd.R_typed HO_11.out) (by decide) hg);have n2_ := Aside0.mk (hp_);have n3_ := Aside0.mk ((by rw [hw];exact below_set (HB.out) GB132.out : Below w.heap.size w w137));clear HO_4;clear HO_6;clear HO_11;clear HB;have HO_4 := n0_;have HO_6 := n1_;have HO_11 := n2_;have HB := n3_;clear n0_ n1_ n2_ n3_;clear hg hw hp_;obtain ⟨Ao138, co138, eo138⟩ := Kd.R_slice HO_6.out;subst eo138;have p152 : 0 ≤ (x163_4 : Int) := of_decide_eq_true (by first|(with_reducible assumption)|assumption);have q152 : x163_4 < (x6_3.length : Int) := of_decide_eq_true (by first|(with_reducible assumption)|assumption);obtain ⟨ad152, e152, hx152_0⟩ := Kd.at_bool (Kd.R_reads' HO_6.out).2.2 x163_4 p152 q152;(try rw [← Nbq134.out] at hx152_0);cases e152;replace p152 := eq_true p152;replace q152 := eq_true q152))
                       go_roundg k4
                       case measure => have := HK1.out;have := HK2.out;have := HK3.out;have := HK4.out;omega
                       case rel => exact ⟨(y151), (wrap64 (x12_4 + 1)), (wrap64 (x163_4 + 1)), (by first|rfl|(simp;done)|(simp [*];done)), (by first|rfl|(simp;done)|(simp [*];done)), H', ⟨by have := HK1.out;have := HK2.out;have := HK3.out;have := HK4.out;omega⟩, ⟨by (try simp only [hl4_1]);(with_reducible repeat (first|apply Kd.R_alloc|apply Kd.R_drewN|apply Kd.R_drew));exact HO_4.out⟩, ⟨by (try simp only [hl4_1]);(with_reducible repeat (first|apply Kd.R_alloc|apply Kd.R_drewN|apply Kd.R_drew));exact HO_6.out⟩, ⟨by (try simp only [hl4_1]);(with_reducible repeat (first|apply Kd.R_alloc|apply Kd.R_drewN|apply Kd.R_drew));exact HO_11.out⟩, ⟨by repeat (first|(with_reducible first|exact HB.out|apply below_alloc|apply pw_below_drewN|apply below_drew1)|exact HB.out)⟩⟩
                      ·replace c135 := Bool.eq_false_iff.mpr c135
                       subst c135
                       have H1 : (impl_Tighten.l3 k4 x4_1 x6_3 y151 x12_4 (x4_1.length : Int) (wrap64 (x163_4 + 1))) = some (r1, r2) := by rw [if_neg (show ¬ (false = true) by decide)] at H;exact H
                       clear H
                       have H := H1
                       clear H1
                       have H' := Aside0.mk H
                       clear H
                       have p132 : 0 ≤ (x163_4 : Int) := of_decide_eq_true (by first|(with_reducible assumption)|assumption)
                       have q132 : (x163_4 : Int) < ((x11_4.length : Int) : Int) := of_decide_eq_true (by first|(with_reducible assumption)|assumption)
                       obtain ⟨go132, co132, eo132, gb132, gl132, cl132, HG132⟩ := Kd.R_form HO_11.out (by omega)
                       (first|cases eo132|(injection eo132 with ea_ en_ ec_;(first|subst ea_|(injection ea_ with ea_;subst ea_));subst ec_;clear en_))
                       have GB132 := Aside0.mk gb132
                       have GG132 := Aside0.mk HG132
                       clear gb132 gl132 HG132
                       obtain ⟨hx132_0, hf132_0⟩ := Kd.R_celln 0 HO_11.out (x163_4 : Int) p132 q132
                       replace p132 := eq_true p132
                       replace q132 := eq_true q132
                       have HP139 := Kd.R_putg HO_11.out (x163_4 : Int) x12_4
                       go_wp2_with (first|((with_reducible refine gate_store (t := 3) (p := 169) rfl ?_);refine store_event (t := 3) (p := 169) (v := ?vo_w140) (w1 := (wr.setCell ⟨go132, (x163_4 : Int).toNat, none⟩ (.int .i64 x12_4))) ?hg ?ho ?hn ?hr ?_;(case ho => rfl);(case hg => rfl);(case hn => rfl);(case hr => first|(go_simp;done)|(go_simp;rfl));intro w140 hw;have hg : wr.grownBy w140 (some go132) := (by rw [hw];exact HP139.2);have hp_ : Kd.R (Kd.int .i64) 3 w140 w.heap.size (fun _ => True) (.slice (some ⟨go132, 0, none⟩) x11_4.length co132) y151 := (by rw [hw, Ny151.out];exact HP139.1);clear HP139;have n0_ := Aside0.mk (Kd.R_over' (v := (.slice (some ⟨go132, 0, none⟩) x11_4.length co132)) (by (with_reducible repeat (first|apply Kd.R_alloc|apply Kd.R_drewN|apply Kd.R_drew));exact HO_4.out) (Kd.R_typed HO_11.out) (by decide) hg);have n1_ := Aside0.mk (Kd.R_over' (v := (.slice (some ⟨go132, 0, none⟩) x11_4.length co132)) (by (with_reducible repeat (first|apply Kd.R_alloc|apply Kd.R_drewN|apply Kd.R_drew));exact HO_6.out) (Kd.R_typed HO_11.out) (by decide) hg);have n2_ := Aside0.mk (hp_);have n3_ := Aside0.mk ((by rw [hw];exact below_set (HB.out) GB132.out : Below w.heap.size w w140));clear HO_4;clear HO_6;clear HO_11;clear HB;have HO_4 := n0_;have HO_6 := n1_;have HO_11 := n2_;have HB := n3_;clear n0_ n1_ n2_ n3_;clear hg hw hp_;obtain ⟨Ao141, co141, eo141⟩ := Kd.R_slice HO_6.out;subst eo141;have p152 : 0 ≤ (x163_4 : Int) := of_decide_eq_true (by first|(with_reducible assumption)|assumption);have q152 : x163_4 < (x6_3.length : Int) := of_decide_eq_true (by first|(with_reducible assumption)|assumption);obtain ⟨ad152, e152, hx152_0⟩ := Kd.at_bool (Kd.R_reads' HO_6.out).2.2 x163_4 p152 q152;(try rw [← Nbq134.out] at hx152_0);cases e152;replace p152 := eq_true p152;replace q152 := eq_true q152))
                       go_roundg k4
                       case measure => have := HK1.out;have := HK2.out;have := HK3.out;have := HK4.out;omega
                       case rel => exact ⟨(y151), (x12_4), (wrap64 (x163_4 + 1)), (by first|rfl|(simp;done)|(simp [*];done)), (by first|rfl|(simp;done)|(simp [*];done)), H', ⟨by have := HK1.out;have := HK2.out;have := HK3.out;have := HK4.out;omega⟩, ⟨by (try simp only [hl4_1]);(with_reducible repeat (first|apply Kd.R_alloc|apply Kd.R_drewN|apply Kd.R_drew));exact HO_4.out⟩, ⟨by (try simp only [hl4_1]);(with_reducible repeat (first|apply Kd.R_alloc|apply Kd.R_drewN|apply Kd.R_drew));exact HO_6.out⟩, ⟨by (try simp only [hl4_1]);(with_reducible repeat (first|apply Kd.R_alloc|apply Kd.R_drewN|apply Kd.R_drew));exact HO_11.out⟩, ⟨by repeat (first|(with_reducible first|exact HB.out|apply below_alloc|apply pw_below_drewN|apply below_drew1)|exact HB.out)⟩⟩
                     ·rw [if_neg c133] at H
                      exact absurd H (by simp)
                    ·rw [if_neg c131] at H
                     exact absurd H (by simp)
                   ·rw [if_neg c130] at H
                    exact absurd H (by simp)
                  ·rw [if_neg c129] at H
                   have c129b0 : decide (x163_4 < (x4_1.length : Int)) = false := decide_eq_false c129
                   have c129b9 := c129b0
                   try rw [hl4_1] at c129b9
                   clear c129
                   have H' := Aside0.mk H
                   clear H
                   go_wp2
                   go_loopg [14, 179] k4 (fun kq v14 v179 w' => ∃ (x14_5 : List (S88)) (x179_5 : Int), v179 = .int .i64 x179_5 ∧ Aside0 (impl_Tighten.l4 kq x6_3 x11_4 x14_5 x4_1 (x4_1.length : Int) x179_5 = some (r1, r2)) ∧ Aside0 (kq ≤ k4) ∧ Aside0 (Kd.R Kd.bool 4 w' w.heap.size (fun _ => True) v111 x6_3) ∧ Aside0 (Kd.R (Kd.int .i64) 3 w' w.heap.size (fun _ => True) v149 x11_4) ∧ Aside0 (Kd.R k88 88 w' w.heap.size (fun k_ => some k_ ≠ ((.slice Ao7 x4_1.length co7) : Value).ownBlock) v14 x14_5) ∧ Aside0 (Kd.R k88 88 w' w.heap.size (fun k_ => some k_ ≠ (v14 : Value).ownBlock) (.slice Ao7 x4_1.length co7) x4_1) ∧ Aside0 (Below w.heap.size w w'))
                   case atStart => exact ⟨(([] : List (S88))), (0), (by first|rfl|(simp;done)|(simp [*];done)), H', ⟨Nat.le_refl _⟩, ⟨by (try simp only [hl4_1]);(with_reducible repeat (first|apply Kd.R_alloc|apply Kd.R_drewN|apply Kd.R_drew));exact HO_6.out⟩, ⟨by (try simp only [hl4_1]);(with_reducible repeat (first|apply Kd.R_alloc|apply Kd.R_drewN|apply Kd.R_drew));exact HO_11.out⟩, ⟨by (try simp only [hl4_1]);first|exact Kd.R_nil _ _ _ _ _|exact Kd.N_nil _ _ _ _ _|exact Kd.V_nil _ _ _ _ _|exact Kd.Q_nil _ _ _ _ _|exact Kd.S_nil _ _ _ _ _⟩, ⟨by (try simp only [hl4_1]);(with_reducible repeat (first|apply Kd.R_alloc|apply Kd.R_drewN|apply Kd.R_drew));exact Kd.R_mono HO_4.out (fun _ hk => (by simp [Value.ownBlock]))⟩, ⟨by repeat (first|(with_reducible first|exact HB.out|apply below_alloc|apply pw_below_drewN|apply below_drew1)|exact HB.out)⟩⟩
                   case round =>
                    clear H'
                    try clear c1
                    try clear p1
                    try clear q1
                    try clear hx1
                    try clear hf1
                    try clear c2
                    try clear p2
                    try clear c3
                    try clear p3
                    try clear q3
                    try clear hx3
                    try clear hf3
                    try clear c4
                    try clear q4
                    try clear c5
                    try clear q5
                    try clear c6
                    try clear p6
                    try clear q6
                    try clear c7
                    try clear q7
                    try clear c8
                    try clear q8
                    try clear c9
                    try clear q9
                    try clear c10
                    try clear p10
                    try clear q10
                    try clear hx10
                    try clear c11
                    try clear p11
                    try clear q11
                    try clear hx11
                    try clear hf11
                    try clear c12
                    try clear p12
                    try clear q12
                    try clear hx12
                    try clear c13
                    try clear p13
                    try clear q13
                    try clear hx13
                    try clear hf13
                    try clear p14
                    try clear q14
                    try clear hx14
                    try clear p15
                    try clear q15
                    try clear hx15
                    try clear c23
                    try clear c23b0
                    try clear c23b1
                    try clear c25
                    try clear c25b0
                    try clear c26
                    try clear c26b0
                    try clear c27
                    try clear c27b0
                    try clear c27b1
                    try clear c28
                    try clear c28b0
                    try clear c29
                    try clear c29b0
                    try clear q30
                    try clear c31
                    try clear q33
                    try clear p35
                    try clear q35
                    try clear hx35
                    try clear hf35
                    try clear c36
                    try clear c36b0
                    try clear c38
                    try clear c39
                    try clear c40
                    try clear c40b0
                    try clear c40b1
                    try clear q42
                    try clear c47
                    try clear c47b0
                    try clear c47b1
                    try clear q49
                    try clear c54
                    try clear c54b0
                    try clear c54b1
                    try clear q56
                    try clear c61
                    try clear q63
                    try clear p64
                    try clear c69
                    try clear c69b0
                    try clear c69b1
                    try clear q71
                    try clear c75
                    try clear c75b0
                    try clear c75b1
                    try clear q77
                    try clear c81
                    try clear c81b0
                    try clear c81b1
                    try clear q83
                    try clear c87
                    try clear q89
                    try clear c95
                    try clear c95b0
                    try clear c97
                    try clear c97b0
                    try clear c98
                    try clear c98b0
                    try clear q99
                    try clear c100
                    try clear c101
                    try clear c101b0
                    try clear c103
                    try clear c104
                    try clear c104b0
                    try clear p105
                    try clear q105
                    try clear p107
                    try clear q107
                    try clear hx107
                    try clear c109
                    try clear c110
                    try clear c110b0
                    try clear c111
                    try clear c111b0
                    try clear p112
                    try clear q112
                    try clear hx112
                    try clear hf112
                    try clear q113
                    try clear c114
                    try clear p116
                    try clear q116
                    try clear hx116
                    try clear c119
                    try clear c119b0
                    try clear c120
                    try clear c120b0
                    try clear p120
                    try clear q120
                    try clear hx120
                    try clear q121
                    try clear c122
                    try clear p122
                    try clear q122
                    try clear hx122
                    try clear p124
                    try clear q124
                    try clear hx124
                    try clear c125
                    try clear c125b0
                    try clear c125b1
                    try clear c126
                    try clear c126b0
                    try clear c126b1
                    try clear p128
                    try clear q128
                    try clear hx128
                    try clear c129
                    try clear c129b0
                    try clear p129
                    try clear q129
                    try clear hx129
                    try clear c130
                    try clear c130b0
                    try clear p130
                    try clear q130
                    try clear hx130
                    try clear c131
                    try clear c131b0
                    try clear p132
                    try clear q132
                    try clear hx132
                    try clear hf132
                    try clear c133
                    try clear c133b0
                    try clear p134
                    try clear q134
                    try clear hx134
                    try clear c135
                    try clear p135
                    try clear q135
                    try clear hx135
                    try clear p136
                    try clear q136
                    try clear hx136
                    try clear p140
                    try clear q140
                    try clear hx140
                    try clear p141
                    try clear q141
                    try clear hx141
                    try clear hx107_0
                    try clear hx107_1
                    try clear hx107_2
                    try clear hx112_0
                    try clear hx116_0
                    try clear hx120_0
                    try clear hx122_0
                    try clear hx122_1
                    try clear hx122_2
                    try clear hx124_0
                    try clear hx124_1
                    try clear hx124_2
                    try clear hx128_0
                    try clear hx128_1
                    try clear hx128_2
                    try clear hx129_0
                    try clear hx129_1
                    try clear hx129_2
                    try clear hx130_0
                    try clear hx130_1
                    try clear hx130_2
                    try clear hx132_0
                    try clear hx134_0
                    try clear hx134_1
                    try clear hx134_2
                    try clear hx135_0
                    try clear hx135_1
                    try clear hx135_2
                    try clear hx136_0
                    try clear hx136_1
                    try clear hx136_2
                    try clear hx140_0
                    try clear hx141_0
                    try clear hx141_1
                    try clear hx141_2
                    try clear hx143_0
                    try clear hx143_1
                    try clear hx143_2
                    try clear hx144_0
                    try clear hx144_1
                    try clear hx144_2
                    try clear hx146_0
                    try clear hx147_0
                    try clear hx14_0
                    try clear hx14_1
                    try clear hx14_2
                    try clear hx152_0
                    try clear hx15_2
                    try clear hx35_0
                    try clear p1
                    try clear p10
                    try clear p105
                    try clear p107
                    try clear p11
                    try clear p112
                    try clear p116
                    try clear p12
                    try clear p120
                    try clear p122
                    try clear p124
                    try clear p128
                    try clear p129
                    try clear p13
                    try clear p130
                    try clear p132
                    try clear p134
                    try clear p135
                    try clear p136
                    try clear p14
                    try clear p140
                    try clear p141
                    try clear p143
                    try clear p144
                    try clear p146
                    try clear p147
                    try clear p152
                    try clear p2
                    try clear p3
                    try clear p35
                    try clear p6
                    try clear p64
                    try clear q1
                    try clear q10
                    try clear q105
                    try clear q107
                    try clear q11
                    try clear q112
                    try clear q113
                    try clear q116
                    try clear q12
                    try clear q120
                    try clear q121
                    try clear q122
                    try clear q124
                    try clear q128
                    try clear q129
                    try clear q13
                    try clear q130
                    try clear q132
                    try clear q134
                    try clear q135
                    try clear q136
                    try clear q14
                    try clear q140
                    try clear q141
                    try clear q143
                    try clear q144
                    try clear q146
                    try clear q147
                    try clear q152
                    try clear q3
                    try clear q30
                    try clear q33
                    try clear q35
                    try clear q4
                    try clear q42
                    try clear q49
                    try clear q5
                    try clear q56
                    try clear q6
                    try clear q63
                    try clear q7
                    try clear q71
                    try clear q77
                    try clear q8
                    try clear q83
                    try clear q89
                    try clear q9
                    try clear q99
                    obtain ⟨x14_5, x179_5, rfl, HA, HK5, HO_6, HO_11, HO_14, HO_177, HB⟩ := hrel
                    cases gk with
                    | zero => exact absurd HA.out (by simp [impl_Tighten.l4])
                    | succ k5 =>
                     have H := HA.out
                     clear HA
                     simp only [impl_Tighten.l4] at H
                     by_cases c142 : x179_5 < (x4_1.length : Int)
                     ·rw [if_pos c142] at H
                      have c142b0 : decide (x179_5 < (x4_1.length : Int)) = true := decide_eq_true c142
                      clear c142
                      by_cases c143 : 0 ≤ x179_5
                      ·rw [if_pos c143] at H
                       have c143b0 : decide (0 ≤ x179_5) = true := decide_eq_true c143
                       clear c143
                       by_cases c144 : x179_5 < (x4_1.length : Int)
                       ·rw [if_pos c144] at H
                        have c144b0 : decide (x179_5 < (x4_1.length : Int)) = true := decide_eq_true c144
                        clear c144
                        by_cases c145 : x179_5 < (x6_3.length : Int)
                        ·rw [if_pos c145] at H
                         have c145b0 : decide (x179_5 < (x6_3.length : Int)) = true := decide_eq_true c145
                         clear c145
                         obtain ⟨bq146, hbq146⟩ : ∃ b_ : Bool, b_ = (rdOf false x6_3 x179_5) := ⟨_, rfl⟩
                         replace H : (if bq146 = true then ((impl_jumps.f ((rd_T88 x4_1 x179_5).f0)).bind fun t156 => (if t156 = true then (if 0 ≤ ((rd_T88 x4_1 x179_5).f2) then (if ((rd_T88 x4_1 x179_5).f2) < (x11_4.length : Int) then (if x14_5.length < 5864062014805 then (impl_Tighten.l4 k5 x6_3 x11_4 (x14_5 ++ [(⟨(rd_T88 x4_1 x179_5).f0, (rd_T88 x4_1 x179_5).f1, rd x11_4 ((rd_T88 x4_1 x179_5).f2)⟩ : S88)]) x4_1 (x4_1.length : Int) (wrap64 (x179_5 + 1))) else (none)) else (none)) else (none)) else (if x14_5.length < 5864062014805 then (impl_Tighten.l4 k5 x6_3 x11_4 (x14_5 ++ [(⟨(rd_T88 x4_1 x179_5).f0, (rd_T88 x4_1 x179_5).f1, (rd_T88 x4_1 x179_5).f2⟩ : S88)]) x4_1 (x4_1.length : Int) (wrap64 (x179_5 + 1))) else (none)))) else (impl_Tighten.l4 k5 x6_3 x11_4 x14_5 x4_1 (x4_1.length : Int) (wrap64 (x179_5 + 1)))) = some (r1, r2) := by rw [← hbq146] at H;exact H
                         have Nbq146 := Aside0.mk hbq146
                         clear hbq146
                         by_cases c147 : bq146 = true
                         ·subst c147
                          have H1 : ((impl_jumps.f ((rd_T88 x4_1 x179_5).f0)).bind fun t156 => (if t156 = true then (if 0 ≤ ((rd_T88 x4_1 x179_5).f2) then (if ((rd_T88 x4_1 x179_5).f2) < (x11_4.length : Int) then (if x14_5.length < 5864062014805 then (impl_Tighten.l4 k5 x6_3 x11_4 (x14_5 ++ [(⟨(rd_T88 x4_1 x179_5).f0, (rd_T88 x4_1 x179_5).f1, rd x11_4 ((rd_T88 x4_1 x179_5).f2)⟩ : S88)]) x4_1 (x4_1.length : Int) (wrap64 (x179_5 + 1))) else (none)) else (none)) else (none)) else (if x14_5.length < 5864062014805 then (impl_Tighten.l4 k5 x6_3 x11_4 (x14_5 ++ [(⟨(rd_T88 x4_1 x179_5).f0, (rd_T88 x4_1 x179_5).f1, (rd_T88 x4_1 x179_5).f2⟩ : S88)]) x4_1 (x4_1.length : Int) (wrap64 (x179_5 + 1))) else (none)))) = some (r1, r2) := by rw [if_pos rfl] at H;exact H
                          clear H
                          have H := H1
                          clear H1
                          replace H := Option.bind_eq_some_iff.mp H
                          obtain ⟨t156, A1480, H⟩ := H
                          replace H : (if t156 = true then (if 0 ≤ ((rd_T88 x4_1 x179_5).f2) then (if ((rd_T88 x4_1 x179_5).f2) < (x11_4.length : Int) then (if x14_5.length < 5864062014805 then (impl_Tighten.l4 k5 x6_3 x11_4 (x14_5 ++ [(⟨(rd_T88 x4_1 x179_5).f0, (rd_T88 x4_1 x179_5).f1, rd x11_4 ((rd_T88 x4_1 x179_5).f2)⟩ : S88)]) x4_1 (x4_1.length : Int) (wrap64 (x179_5 + 1))) else (none)) else (none)) else (none)) else (if x14_5.length < 5864062014805 then (impl_Tighten.l4 k5 x6_3 x11_4 (x14_5 ++ [(⟨(rd_T88 x4_1 x179_5).f0, (rd_T88 x4_1 x179_5).f1, (rd_T88 x4_1 x179_5).f2⟩ : S88)]) x4_1 (x4_1.length : Int) (wrap64 (x179_5 + 1))) else (none))) = some (r1, r2) := H
                          have A148 := Aside0.mk A1480
                          clear A1480
                          by_cases c149 : t156 = true
                          ·subst c149
                           have H1 : (if 0 ≤ ((rd_T88 x4_1 x179_5).f2) then (if ((rd_T88 x4_1 x179_5).f2) < (x11_4.length : Int) then (if x14_5.length < 5864062014805 then (impl_Tighten.l4 k5 x6_3 x11_4 (x14_5 ++ [(⟨(rd_T88 x4_1 x179_5).f0, (rd_T88 x4_1 x179_5).f1, rd x11_4 ((rd_T88 x4_1 x179_5).f2)⟩ : S88)]) x4_1 (x4_1.length : Int) (wrap64 (x179_5 + 1))) else (none)) else (none)) else (none)) = some (r1, r2) := by rw [if_pos rfl] at H;exact H
                           clear H
                           have H := H1
                           clear H1
                           by_cases c150 : 0 ≤ ((rd_T88 x4_1 x179_5).f2)
                           ·rw [if_pos c150] at H
                            have c150b0 : decide (0 ≤ ((rd_T88 x4_1 x179_5).f2)) = true := decide_eq_true c150
                            clear c150
                            by_cases c151 : ((rd_T88 x4_1 x179_5).f2) < (x11_4.length : Int)
                            ·rw [if_pos c151] at H
                             have c151b0 : decide (((rd_T88 x4_1 x179_5).f2) < (x11_4.length : Int)) = true := decide_eq_true c151
                             clear c151
                             by_cases c152 : x14_5.length < 5864062014805
                             ·rw [if_pos c152] at H
                              have LMc152 := Aside0.mk c152
                              clear c152
                              obtain ⟨y158, hy158⟩ : ∃ y_ : List (S88), y_ = (x14_5 ++ [(⟨(rd_T88 x4_1 x179_5).f0, (rd_T88 x4_1 x179_5).f1, rd x11_4 ((rd_T88 x4_1 x179_5).f2)⟩ : S88)]) := ⟨_, rfl⟩
                              replace H : (impl_Tighten.l4 k5 x6_3 x11_4 y158 x4_1 (x4_1.length : Int) (wrap64 (x179_5 + 1))) = some (r1, r2) := by first|(rw [hy158];with_reducible exact H)|(have H2_ := (Option.bind_some _ _).symm.trans H;rw [hy158];with_reducible exact H2_)|(have H2_ := (Option.bind_some _ _).symm.trans H;with_reducible exact H2_)|with_reducible exact H|(rw [hy158];exact H)|exact H
                              have Ny158 := Aside0.mk hy158
                              clear hy158
                              have H' := Aside0.mk H
                              clear H
                              have p153 : 0 ≤ (x179_5 : Int) := of_decide_eq_true (by first|(with_reducible assumption)|assumption)
                              have q153 : x179_5 < (x4_1.length : Int) := of_decide_eq_true (by first|(with_reducible assumption)|assumption)
                              obtain ⟨ad153, e153, hx153_0, hx153_1, hx153_2⟩ := at_T88 (Kd.R_reads' HO_177.out).2.2 x179_5 p153 q153
                              cases e153
                              replace p153 := eq_true p153
                              replace q153 := eq_true q153
                              go_wp2_with (first|((with_reducible refine gate_dst (N := 16) rfl ?_);refine box_event ?hg (N := 16) ?hd (cs := #[.int .i64 0, .int .i64 0, .int .i64 0]) (t := 88) ?hr ?_;(case hd => rfl);(case hg => rfl);(case hr => first|(go_simp;done)|(go_simp;rfl));intro gb154 hg w153 hbox hb;have n0_ := Aside0.mk (Kd.R_below (by (with_reducible repeat (first|apply Kd.R_alloc|apply Kd.R_drewN|apply Kd.R_drew));exact HO_6.out) hb);have n1_ := Aside0.mk (Kd.R_below (by (with_reducible repeat (first|apply Kd.R_alloc|apply Kd.R_drewN|apply Kd.R_drew));exact HO_11.out) hb);have n2_ := Aside0.mk (Kd.R_below (Kd.R_elderB (by (with_reducible repeat (first|apply Kd.R_alloc|apply Kd.R_drewN|apply Kd.R_drew));exact HO_14.out) gb154 (Nat.le_of_eq hg.symm)) hb);have n3_ := Aside0.mk (Kd.R_below (Kd.R_elderB (by (with_reducible repeat (first|apply Kd.R_alloc|apply Kd.R_drewN|apply Kd.R_drew));exact HO_177.out) gb154 (Nat.le_of_eq hg.symm)) hb);have n4_ := Aside0.mk (below_step (by repeat (first|(with_reducible first|exact HB.out|apply below_alloc|apply pw_below_drewN|apply below_drew1)|exact HB.out)) hb);have n5_ := Aside0.mk (hbox);have n6_ := Aside0.mk ((by rw [hg];exact (below_size (by repeat (first|(with_reducible first|exact HB.out|apply below_alloc|apply pw_below_drewN|apply below_drew1)|exact HB.out))) : w.heap.size ≤ gb154));have n7_ := Aside0.mk ((by rw [hg];exact (below_size (by repeat (first|(with_reducible first|exact HB.out|apply below_alloc|apply pw_below_drewN|apply below_drew1)|exact HB.out))) : w.heap.size ≤ gb154));clear HO_6;clear HO_11;clear HO_14;clear HO_177;clear HB;have HO_6 := n0_;have HO_11 := n1_;have HO_14 := n2_;have HO_177 := n3_;have HB := n4_;have BK154 := n5_;have GW154 := n6_;have GE154 := n7_;clear n0_ n1_ n2_ n3_ n4_ n5_ n6_ n7_;clear hb hbox hg;have hcz154_0 : w153.cell? ⟨gb154, 0, none⟩ = some (.int .i64 0) := (blk_cell BK154.out 0).trans rfl;have hcz154_1 : w153.cell? ⟨gb154, 1, none⟩ = some (.int .i64 0) := (blk_cell BK154.out 1).trans rfl;have hcz154_2 : w153.cell? ⟨gb154, 2, none⟩ = some (.int .i64 0) := (blk_cell BK154.out 2).trans rfl;have hfz154_0 := blk_frozen BK154.out 0;have hfz154_1 := blk_frozen BK154.out 1;have hfz154_2 := blk_frozen BK154.out 2;obtain ⟨Ao155, co155, eo155⟩ := Kd.R_slice HO_6.out;subst eo155;have p155 : 0 ≤ (x179_5 : Int) := of_decide_eq_true (by first|(with_reducible assumption)|assumption);have q155 : x179_5 < (x6_3.length : Int) := of_decide_eq_true (by first|(with_reducible assumption)|assumption);obtain ⟨ad155, e155, hx155_0⟩ := Kd.at_bool (Kd.R_reads' HO_6.out).2.2 x179_5 p155 q155;(try rw [← Nbq146.out] at hx155_0);cases e155;have hn155_0 : ad155.block ≠ gb154 := Kd.own_blk (Kd.R_ne HO_6.out BK154.out (by decide));have hn155_1 : ad155.block ≠ gb154 := Kd.own_blk (Kd.R_ne HO_6.out BK154.out (by decide));have hn155_2 : ad155.block ≠ gb154 := Kd.own_blk (Kd.R_ne HO_6.out BK154.out (by decide));replace hx155_0 := (cell_far (p := ⟨gb154, 0, none⟩) (by first|(rw [add_block];exact hn155_0)|(show (Addr.add _ _).block ≠ _;rw [add_block];exact hn155_0)|exact hn155_0) (.int .i64 ((rd_T88 x4_1 x179_5).f0))).trans hx155_0;replace hx155_0 := (cell_far (p := ⟨gb154, 1, none⟩) (by first|(rw [add_block];exact hn155_1)|(show (Addr.add _ _).block ≠ _;rw [add_block];exact hn155_1)|exact hn155_1) (.int .i64 ((rd_T88 x4_1 x179_5).f1))).trans hx155_0;replace hx155_0 := (cell_far (p := ⟨gb154, 2, none⟩) (by first|(rw [add_block];exact hn155_2)|(show (Addr.add _ _).block ≠ _;rw [add_block];exact hn155_2)|exact hn155_2) (.int .i64 ((rd_T88 x4_1 x179_5).f2))).trans hx155_0;clear hn155_0;clear hn155_1;clear hn155_2;replace p155 := eq_true p155;replace q155 := eq_true q155)|((with_reducible refine gate_callee (f := 81) rfl ?_);refine goesL_ (some 190) rfl rfl Try.func81 (by kernel_rfl) rfl #[.int .i64 ((rd_T88 x4_1 x179_5).f0)] rfl (by (try simp only [List.map_toArray, List.map_cons, List.map_nil]);first|done|rfl|(simp only [List.length_drop, List.length_take];rfl)) ?_;(with_reducible refine (impl_jumps.calls ((rd_T88 x4_1 x179_5).f0) true _ A148.out).mono ?_);rintro e w' ⟨rfl, ⟨nd, rfl⟩⟩;refine ⟨_, rfl, ?_⟩;try (refine impl_Tighten.with_blk (g := gb154) (cs := #[.int .i64 ((rd_T88 x4_1 x179_5).f0), .int .i64 ((rd_T88 x4_1 x179_5).f1), .int .i64 ((rd_T88 x4_1 x179_5).f2)]) (t := 88) ?bk (fun hcq_ => ?_);(case bk => ((with_reducible repeat (first|refine blk_drewN ?_ _|refine blk_drew ?_|refine blk_alloc ?_ _));refine blk_put (cs := #[.int .i64 ((rd_T88 x4_1 x179_5).f0), .int .i64 ((rd_T88 x4_1 x179_5).f1), .int .i64 0]) ?_ 2 _ rfl;(with_reducible repeat (first|refine blk_drewN ?_ _|refine blk_drew ?_|refine blk_alloc ?_ _));refine blk_put (cs := #[.int .i64 ((rd_T88 x4_1 x179_5).f0), .int .i64 0, .int .i64 0]) ?_ 1 _ rfl;(with_reducible repeat (first|refine blk_drewN ?_ _|refine blk_drew ?_|refine blk_alloc ?_ _));refine blk_put (cs := #[.int .i64 0, .int .i64 0, .int .i64 0]) ?_ 0 _ rfl;(with_reducible repeat (first|refine blk_drewN ?_ _|refine blk_drew ?_|refine blk_alloc ?_ _));exact BK154.out));have hcqgb154_0 := (hcq_ 0).trans (show _ = some (.int .i64 ((rd_T88 x4_1 x179_5).f0)) from rfl);try simp only [World.drewN_drewN] at hcqgb154_0;have hcqgb154_1 := (hcq_ 1).trans (show _ = some (.int .i64 ((rd_T88 x4_1 x179_5).f1)) from rfl);try simp only [World.drewN_drewN] at hcqgb154_1;have hcqgb154_2 := (hcq_ 2).trans (show _ = some (.int .i64 ((rd_T88 x4_1 x179_5).f2)) from rfl);try simp only [World.drewN_drewN] at hcqgb154_2;clear hcq_);obtain ⟨Ao156, co156, eo156⟩ := Kd.R_slice HO_11.out;subst eo156;have p157 : 0 ≤ (((rd_T88 x4_1 x179_5).f2) : Int) := of_decide_eq_true (by first|(with_reducible assumption)|assumption);have q157 : ((rd_T88 x4_1 x179_5).f2) < (x11_4.length : Int) := of_decide_eq_true (by first|(with_reducible assumption)|assumption);obtain ⟨ad157, e157, hx157_0⟩ := Kd.at_int (Kd.R_reads' HO_11.out).2.2 ((rd_T88 x4_1 x179_5).f2) p157 q157;cases e157;have hn157_0 : ad157.block ≠ gb154 := Kd.own_blk (Kd.R_ne HO_11.out BK154.out (by decide));have hn157_1 : ad157.block ≠ gb154 := Kd.own_blk (Kd.R_ne HO_11.out BK154.out (by decide));have hn157_2 : ad157.block ≠ gb154 := Kd.own_blk (Kd.R_ne HO_11.out BK154.out (by decide));replace hx157_0 := (cell_far (p := ⟨gb154, 0, none⟩) (by first|(rw [add_block];exact hn157_0)|(show (Addr.add _ _).block ≠ _;rw [add_block];exact hn157_0)|exact hn157_0) (.int .i64 ((rd_T88 x4_1 x179_5).f0))).trans hx157_0;replace hx157_0 := (cell_far (p := ⟨gb154, 1, none⟩) (by first|(rw [add_block];exact hn157_1)|(show (Addr.add _ _).block ≠ _;rw [add_block];exact hn157_1)|exact hn157_1) (.int .i64 ((rd_T88 x4_1 x179_5).f1))).trans hx157_0;replace hx157_0 := (cell_far (p := ⟨gb154, 2, none⟩) (by first|(rw [add_block];exact hn157_2)|(show (Addr.add _ _).block ≠ _;rw [add_block];exact hn157_2)|exact hn157_2) (.int .i64 ((rd_T88 x4_1 x179_5).f2))).trans hx157_0;clear hn157_0;clear hn157_1;clear hn157_2;replace p157 := eq_true p157;replace q157 := eq_true q157)|((with_reducible refine gate_builtin (b := .append) (xs := #[.tmp 197, .tmp 199]) rfl ?_);at_builtin;refine Kd.R_append k88 (w0 := w) w.heap.size rfl (.tmp 197) (.tmp 199) 36 88 (.agg #[(.int .i64 0), (.int .i64 0), (.int .i64 0)]) 24 rfl Try.underlying36 info88 rfl (by decide) (by omega) u14 x14_5 (⟨(rd_T88 x4_1 x179_5).f0, (rd_T88 x4_1 x179_5).f1, rd x11_4 ((rd_T88 x4_1 x179_5).f2)⟩ : S88) [.int .i64 ((rd_T88 x4_1 x179_5).f0), .int .i64 ((rd_T88 x4_1 x179_5).f1), .int .i64 (rd x11_4 ((rd_T88 x4_1 x179_5).f2))] (fun k_ => some k_ ≠ (.slice (some ad153) x4_1.length co7 : Value).ownBlock ∧ k_ ≠ gb154) (fun _ => False) rfl (by first|(go_simp;done)|(go_simp;rfl)) ?aP (fun _ hk => hk.elim) ?aF ?aO ?aB ?aS ?aL ?_;(case aP => exact k88_mkM _ _ _ (⟨(rd_T88 x4_1 x179_5).f0, (rd_T88 x4_1 x179_5).f1, rd x11_4 ((rd_T88 x4_1 x179_5).f2)⟩ : S88));(case aB => exact (by repeat (first|(with_reducible first|exact HB.out|apply below_alloc|apply pw_below_drewN|apply below_drew1|refine below_set ?_ GE154.out)|exact HB.out)));(case aF => exact (fun k_ hk => ⟨Kd.fresh' (Kd.R_lt (by (with_reducible repeat (first|apply Kd.R_alloc|apply Kd.R_drewN|apply Kd.R_drew));exact (Kd.R_mono (Kd.R_far (p := ⟨gb154, 2, none⟩) (Kd.R_far (p := ⟨gb154, 2, none⟩) (Kd.R_far (p := ⟨gb154, 1, none⟩) (Kd.R_far (p := ⟨gb154, 0, none⟩) (Kd.R_mono HO_177.out (fun k_ hk => (⟨hk, hk.2⟩ : _ ∧ k_ ≠ gb154))) (fun _ hk => hk.2) (.int .i64 ((rd_T88 x4_1 x179_5).f0))) (fun _ hk => hk.2) (.int .i64 ((rd_T88 x4_1 x179_5).f1))) (fun _ hk => hk.2) (.int .i64 ((rd_T88 x4_1 x179_5).f2))) (fun _ hk => hk.2) (.int .i64 (rd x11_4 ((rd_T88 x4_1 x179_5).f2)))) (fun _ h_ => h_.1)))) k_ hk, Kd.freshB (g := gb154) (o := .cells #[.int .i64 ((rd_T88 x4_1 x179_5).f0), .int .i64 ((rd_T88 x4_1 x179_5).f1), .int .i64 (rd x11_4 ((rd_T88 x4_1 x179_5).f2))] 88 (0, 0)) (by (with_reducible repeat (first|refine blk_drewN ?_ _|refine blk_drew ?_|refine blk_alloc ?_ _));refine blk_put (cs := #[.int .i64 ((rd_T88 x4_1 x179_5).f0), .int .i64 ((rd_T88 x4_1 x179_5).f1), .int .i64 ((rd_T88 x4_1 x179_5).f2)]) ?_ 2 _ rfl;(with_reducible repeat (first|refine blk_drewN ?_ _|refine blk_drew ?_|refine blk_alloc ?_ _));refine blk_put (cs := #[.int .i64 ((rd_T88 x4_1 x179_5).f0), .int .i64 ((rd_T88 x4_1 x179_5).f1), .int .i64 0]) ?_ 2 _ rfl;(with_reducible repeat (first|refine blk_drewN ?_ _|refine blk_drew ?_|refine blk_alloc ?_ _));refine blk_put (cs := #[.int .i64 ((rd_T88 x4_1 x179_5).f0), .int .i64 0, .int .i64 0]) ?_ 1 _ rfl;(with_reducible repeat (first|refine blk_drewN ?_ _|refine blk_drew ?_|refine blk_alloc ?_ _));refine blk_put (cs := #[.int .i64 0, .int .i64 0, .int .i64 0]) ?_ 0 _ rfl;(with_reducible repeat (first|refine blk_drewN ?_ _|refine blk_drew ?_|refine blk_alloc ?_ _));exact BK154.out) k_ hk⟩));(case aO => exact (by (with_reducible repeat (first|apply Kd.R_alloc|apply Kd.R_drewN|apply Kd.R_drew));exact Kd.R_mono (Kd.R_far (p := ⟨gb154, 2, none⟩) (Kd.R_far (p := ⟨gb154, 2, none⟩) (Kd.R_far (p := ⟨gb154, 1, none⟩) (Kd.R_far (p := ⟨gb154, 0, none⟩) (Kd.R_mono HO_14.out (fun k_ hk => (⟨hk, hk.2⟩ : _ ∧ k_ ≠ gb154))) (fun _ hk => hk.2) (.int .i64 ((rd_T88 x4_1 x179_5).f0))) (fun _ hk => hk.2) (.int .i64 ((rd_T88 x4_1 x179_5).f1))) (fun _ hk => hk.2) (.int .i64 ((rd_T88 x4_1 x179_5).f2))) (fun _ hk => hk.2) (.int .i64 (rd x11_4 ((rd_T88 x4_1 x179_5).f2)))) (fun _ hk => ⟨hk.1.1, hk.1.2⟩)));(case aS => exact (below_size (by repeat (first|(with_reducible first|exact HB.out|apply below_alloc|apply pw_below_drewN|apply below_drew1|refine below_set ?_ GE154.out)|exact HB.out))));(case aL => have := LMc152.out;omega);intro v159 w157 ho hb hg hat;rw [← Ny158.out] at ho;have n0_ := Aside0.mk (Kd.R_over' (by (with_reducible repeat (first|apply Kd.R_alloc|apply Kd.R_drewN|apply Kd.R_drew));exact (Kd.R_mono (Kd.R_far (p := ⟨gb154, 2, none⟩) (Kd.R_far (p := ⟨gb154, 2, none⟩) (Kd.R_far (p := ⟨gb154, 1, none⟩) (Kd.R_far (p := ⟨gb154, 0, none⟩) (Kd.R_types HO_6.out BK154.out (by decide)) (fun _ hk => hk.2) (.int .i64 ((rd_T88 x4_1 x179_5).f0))) (fun _ hk => hk.2) (.int .i64 ((rd_T88 x4_1 x179_5).f1))) (fun _ hk => hk.2) (.int .i64 ((rd_T88 x4_1 x179_5).f2))) (fun _ hk => hk.2) (.int .i64 (rd x11_4 ((rd_T88 x4_1 x179_5).f2)))) (fun _ h_ => h_.1))) (Kd.R_typed (by (with_reducible repeat (first|apply Kd.R_alloc|apply Kd.R_drewN|apply Kd.R_drew));exact (Kd.R_mono (Kd.R_far (p := ⟨gb154, 2, none⟩) (Kd.R_far (p := ⟨gb154, 2, none⟩) (Kd.R_far (p := ⟨gb154, 1, none⟩) (Kd.R_far (p := ⟨gb154, 0, none⟩) (Kd.R_mono HO_14.out (fun k_ hk => (⟨hk, hk.2⟩ : _ ∧ k_ ≠ gb154))) (fun _ hk => hk.2) (.int .i64 ((rd_T88 x4_1 x179_5).f0))) (fun _ hk => hk.2) (.int .i64 ((rd_T88 x4_1 x179_5).f1))) (fun _ hk => hk.2) (.int .i64 ((rd_T88 x4_1 x179_5).f2))) (fun _ hk => hk.2) (.int .i64 (rd x11_4 ((rd_T88 x4_1 x179_5).f2)))) (fun _ h_ => h_.1)))) (by decide) hg);have n1_ := Aside0.mk (Kd.R_over' (by (with_reducible repeat (first|apply Kd.R_alloc|apply Kd.R_drewN|apply Kd.R_drew));exact (Kd.R_mono (Kd.R_far (p := ⟨gb154, 2, none⟩) (Kd.R_far (p := ⟨gb154, 2, none⟩) (Kd.R_far (p := ⟨gb154, 1, none⟩) (Kd.R_far (p := ⟨gb154, 0, none⟩) (Kd.R_types HO_11.out BK154.out (by decide)) (fun _ hk => hk.2) (.int .i64 ((rd_T88 x4_1 x179_5).f0))) (fun _ hk => hk.2) (.int .i64 ((rd_T88 x4_1 x179_5).f1))) (fun _ hk => hk.2) (.int .i64 ((rd_T88 x4_1 x179_5).f2))) (fun _ hk => hk.2) (.int .i64 (rd x11_4 ((rd_T88 x4_1 x179_5).f2)))) (fun _ h_ => h_.1))) (Kd.R_typed (by (with_reducible repeat (first|apply Kd.R_alloc|apply Kd.R_drewN|apply Kd.R_drew));exact (Kd.R_mono (Kd.R_far (p := ⟨gb154, 2, none⟩) (Kd.R_far (p := ⟨gb154, 2, none⟩) (Kd.R_far (p := ⟨gb154, 1, none⟩) (Kd.R_far (p := ⟨gb154, 0, none⟩) (Kd.R_mono HO_14.out (fun k_ hk => (⟨hk, hk.2⟩ : _ ∧ k_ ≠ gb154))) (fun _ hk => hk.2) (.int .i64 ((rd_T88 x4_1 x179_5).f0))) (fun _ hk => hk.2) (.int .i64 ((rd_T88 x4_1 x179_5).f1))) (fun _ hk => hk.2) (.int .i64 ((rd_T88 x4_1 x179_5).f2))) (fun _ hk => hk.2) (.int .i64 (rd x11_4 ((rd_T88 x4_1 x179_5).f2)))) (fun _ h_ => h_.1)))) (by decide) hg);have n2_ := Aside0.mk (Kd.R_after (ok := (fun k_ => k_ ≠ gb154)) (by (with_reducible repeat (first|apply Kd.R_alloc|apply Kd.R_drewN|apply Kd.R_drew));exact Kd.R_mono (Kd.R_far (p := ⟨gb154, 2, none⟩) (Kd.R_far (p := ⟨gb154, 2, none⟩) (Kd.R_far (p := ⟨gb154, 1, none⟩) (Kd.R_far (p := ⟨gb154, 0, none⟩) (Kd.R_mono HO_177.out (fun k_ hk => (⟨hk, hk.2⟩ : _ ∧ k_ ≠ gb154))) (fun _ hk => hk.2) (.int .i64 ((rd_T88 x4_1 x179_5).f0))) (fun _ hk => hk.2) (.int .i64 ((rd_T88 x4_1 x179_5).f1))) (fun _ hk => hk.2) (.int .i64 ((rd_T88 x4_1 x179_5).f2))) (fun _ hk => hk.2) (.int .i64 (rd x11_4 ((rd_T88 x4_1 x179_5).f2)))) (fun _ hk => ⟨hk.1.2, hk.1.1⟩)) hg hat);have n3_ := Aside0.mk (blk_grown (g := gb154) (o := .cells #[.int .i64 ((rd_T88 x4_1 x179_5).f0), .int .i64 ((rd_T88 x4_1 x179_5).f1), .int .i64 (rd x11_4 ((rd_T88 x4_1 x179_5).f2))] 88 (0, 0)) (by (with_reducible repeat (first|refine blk_drewN ?_ _|refine blk_drew ?_|refine blk_alloc ?_ _));refine blk_put (cs := #[.int .i64 ((rd_T88 x4_1 x179_5).f0), .int .i64 ((rd_T88 x4_1 x179_5).f1), .int .i64 ((rd_T88 x4_1 x179_5).f2)]) ?_ 2 _ rfl;(with_reducible repeat (first|refine blk_drewN ?_ _|refine blk_drew ?_|refine blk_alloc ?_ _));refine blk_put (cs := #[.int .i64 ((rd_T88 x4_1 x179_5).f0), .int .i64 ((rd_T88 x4_1 x179_5).f1), .int .i64 0]) ?_ 2 _ rfl;(with_reducible repeat (first|refine blk_drewN ?_ _|refine blk_drew ?_|refine blk_alloc ?_ _));refine blk_put (cs := #[.int .i64 ((rd_T88 x4_1 x179_5).f0), .int .i64 0, .int .i64 0]) ?_ 1 _ rfl;(with_reducible repeat (first|refine blk_drewN ?_ _|refine blk_drew ?_|refine blk_alloc ?_ _));refine blk_put (cs := #[.int .i64 0, .int .i64 0, .int .i64 0]) ?_ 0 _ rfl;(with_reducible repeat (first|refine blk_drewN ?_ _|refine blk_drew ?_|refine blk_alloc ?_ _));exact BK154.out) hg (Kd.R_away HO_14.out (fun _ hk => hk.2)));have n4_ := Aside0.mk (hb);have n5_ := Aside0.mk (ho);clear HO_6;clear HO_11;clear HO_177;clear BK154;clear HB;clear HO_14;have HO_6 := n0_;have HO_11 := n1_;have HO_177 := n2_;have BK154 := n3_;have HB := n4_;have HO160 := n5_;clear n0_ n1_ n2_ n3_ n4_ n5_;clear ho hb hg hat))
                              go_roundg k5
                              case measure => have := HK1.out;have := HK2.out;have := HK3.out;have := HK4.out;have := HK5.out;omega
                              case rel => exact ⟨(y158), (wrap64 (x179_5 + 1)), (by first|rfl|(simp;done)|(simp [*];done)), H', ⟨by have := HK1.out;have := HK2.out;have := HK3.out;have := HK4.out;have := HK5.out;omega⟩, ⟨by (try simp only [hl4_1]);(with_reducible repeat (first|apply Kd.R_alloc|apply Kd.R_drewN|apply Kd.R_drew));exact HO_6.out⟩, ⟨by (try simp only [hl4_1]);(with_reducible repeat (first|apply Kd.R_alloc|apply Kd.R_drewN|apply Kd.R_drew));exact HO_11.out⟩, ⟨by (try simp only [hl4_1]);(with_reducible repeat (first|apply Kd.R_alloc|apply Kd.R_drewN|apply Kd.R_drew));exact Kd.R_mono HO160.out (fun _ hk => hk.1)⟩, ⟨by (try simp only [hl4_1]);(with_reducible repeat (first|apply Kd.R_alloc|apply Kd.R_drewN|apply Kd.R_drew));exact Kd.R_mono HO_177.out (fun _ hk => hk.2)⟩, ⟨by repeat (first|(with_reducible first|exact HB.out|apply below_alloc|apply pw_below_drewN|apply below_drew1|refine below_set ?_ GE154.out)|exact HB.out)⟩⟩
                             ·rw [if_neg c152] at H
                              exact absurd H (by simp)
                            ·rw [if_neg c151] at H
                             exact absurd H (by simp)
                           ·rw [if_neg c150] at H
                            exact absurd H (by simp)
                          ·replace c149 := Bool.eq_false_iff.mpr c149
                           subst c149
                           have H1 : (if x14_5.length < 5864062014805 then (impl_Tighten.l4 k5 x6_3 x11_4 (x14_5 ++ [(⟨(rd_T88 x4_1 x179_5).f0, (rd_T88 x4_1 x179_5).f1, (rd_T88 x4_1 x179_5).f2⟩ : S88)]) x4_1 (x4_1.length : Int) (wrap64 (x179_5 + 1))) else (none)) = some (r1, r2) := by rw [if_neg (show ¬ (false = true) by decide)] at H;exact H
                           clear H
                           have H := H1
                           clear H1
                           by_cases c158 : x14_5.length < 5864062014805
                           ·rw [if_pos c158] at H
                            have LMc158 := Aside0.mk c158
                            clear c158
                            obtain ⟨y161, hy161⟩ : ∃ y_ : List (S88), y_ = (x14_5 ++ [(⟨(rd_T88 x4_1 x179_5).f0, (rd_T88 x4_1 x179_5).f1, (rd_T88 x4_1 x179_5).f2⟩ : S88)]) := ⟨_, rfl⟩
                            replace H : (impl_Tighten.l4 k5 x6_3 x11_4 y161 x4_1 (x4_1.length : Int) (wrap64 (x179_5 + 1))) = some (r1, r2) := by first|(rw [hy161];with_reducible exact H)|(have H2_ := (Option.bind_some _ _).symm.trans H;rw [hy161];with_reducible exact H2_)|(have H2_ := (Option.bind_some _ _).symm.trans H;with_reducible exact H2_)|with_reducible exact H|(rw [hy161];exact H)|exact H
                            have Ny161 := Aside0.mk hy161
                            clear hy161
                            have H' := Aside0.mk H
                            clear H
                            have p153 : 0 ≤ (x179_5 : Int) := of_decide_eq_true (by first|(with_reducible assumption)|assumption)
                            have q153 : x179_5 < (x4_1.length : Int) := of_decide_eq_true (by first|(with_reducible assumption)|assumption)
                            obtain ⟨ad153, e153, hx153_0, hx153_1, hx153_2⟩ := at_T88 (Kd.R_reads' HO_177.out).2.2 x179_5 p153 q153
                            cases e153
                            replace p153 := eq_true p153
                            replace q153 := eq_true q153
                            go_wp2_with (first|((with_reducible refine gate_dst (N := 16) rfl ?_);refine box_event ?hg (N := 16) ?hd (cs := #[.int .i64 0, .int .i64 0, .int .i64 0]) (t := 88) ?hr ?_;(case hd => rfl);(case hg => rfl);(case hr => first|(go_simp;done)|(go_simp;rfl));intro gb154 hg w159 hbox hb;have n0_ := Aside0.mk (Kd.R_below (by (with_reducible repeat (first|apply Kd.R_alloc|apply Kd.R_drewN|apply Kd.R_drew));exact HO_6.out) hb);have n1_ := Aside0.mk (Kd.R_below (by (with_reducible repeat (first|apply Kd.R_alloc|apply Kd.R_drewN|apply Kd.R_drew));exact HO_11.out) hb);have n2_ := Aside0.mk (Kd.R_below (Kd.R_elderB (by (with_reducible repeat (first|apply Kd.R_alloc|apply Kd.R_drewN|apply Kd.R_drew));exact HO_14.out) gb154 (Nat.le_of_eq hg.symm)) hb);have n3_ := Aside0.mk (Kd.R_below (Kd.R_elderB (by (with_reducible repeat (first|apply Kd.R_alloc|apply Kd.R_drewN|apply Kd.R_drew));exact HO_177.out) gb154 (Nat.le_of_eq hg.symm)) hb);have n4_ := Aside0.mk (below_step (by repeat (first|(with_reducible first|exact HB.out|apply below_alloc|apply pw_below_drewN|apply below_drew1)|exact HB.out)) hb);have n5_ := Aside0.mk (hbox);have n6_ := Aside0.mk ((by rw [hg];exact (below_size (by repeat (first|(with_reducible first|exact HB.out|apply below_alloc|apply pw_below_drewN|apply below_drew1)|exact HB.out))) : w.heap.size ≤ gb154));have n7_ := Aside0.mk ((by rw [hg];exact (below_size (by repeat (first|(with_reducible first|exact HB.out|apply below_alloc|apply pw_below_drewN|apply below_drew1)|exact HB.out))) : w.heap.size ≤ gb154));clear HO_6;clear HO_11;clear HO_14;clear HO_177;clear HB;have HO_6 := n0_;have HO_11 := n1_;have HO_14 := n2_;have HO_177 := n3_;have HB := n4_;have BK154 := n5_;have GW154 := n6_;have GE154 := n7_;clear n0_ n1_ n2_ n3_ n4_ n5_ n6_ n7_;clear hb hbox hg;have hcz160_0 : w159.cell? ⟨gb154, 0, none⟩ = some (.int .i64 0) := (blk_cell BK154.out 0).trans rfl;have hcz160_1 : w159.cell? ⟨gb154, 1, none⟩ = some (.int .i64 0) := (blk_cell BK154.out 1).trans rfl;have hcz160_2 : w159.cell? ⟨gb154, 2, none⟩ = some (.int .i64 0) := (blk_cell BK154.out 2).trans rfl;have hfz160_0 := blk_frozen BK154.out 0;have hfz160_1 := blk_frozen BK154.out 1;have hfz160_2 := blk_frozen BK154.out 2;obtain ⟨Ao161, co161, eo161⟩ := Kd.R_slice HO_6.out;subst eo161;have p155 : 0 ≤ (x179_5 : Int) := of_decide_eq_true (by first|(with_reducible assumption)|assumption);have q155 : x179_5 < (x6_3.length : Int) := of_decide_eq_true (by first|(with_reducible assumption)|assumption);obtain ⟨ad155, e155, hx155_0⟩ := Kd.at_bool (Kd.R_reads' HO_6.out).2.2 x179_5 p155 q155;(try rw [← Nbq146.out] at hx155_0);cases e155;have hn155_0 : ad155.block ≠ gb154 := Kd.own_blk (Kd.R_ne HO_6.out BK154.out (by decide));have hn155_1 : ad155.block ≠ gb154 := Kd.own_blk (Kd.R_ne HO_6.out BK154.out (by decide));have hn155_2 : ad155.block ≠ gb154 := Kd.own_blk (Kd.R_ne HO_6.out BK154.out (by decide));replace hx155_0 := (cell_far (p := ⟨gb154, 0, none⟩) (by first|(rw [add_block];exact hn155_0)|(show (Addr.add _ _).block ≠ _;rw [add_block];exact hn155_0)|exact hn155_0) (.int .i64 ((rd_T88 x4_1 x179_5).f0))).trans hx155_0;replace hx155_0 := (cell_far (p := ⟨gb154, 1, none⟩) (by first|(rw [add_block];exact hn155_1)|(show (Addr.add _ _).block ≠ _;rw [add_block];exact hn155_1)|exact hn155_1) (.int .i64 ((rd_T88 x4_1 x179_5).f1))).trans hx155_0;replace hx155_0 := (cell_far (p := ⟨gb154, 2, none⟩) (by first|(rw [add_block];exact hn155_2)|(show (Addr.add _ _).block ≠ _;rw [add_block];exact hn155_2)|exact hn155_2) (.int .i64 ((rd_T88 x4_1 x179_5).f2))).trans hx155_0;clear hn155_0;clear hn155_1;clear hn155_2;replace p155 := eq_true p155;replace q155 := eq_true q155)|((with_reducible refine gate_callee (f := 81) rfl ?_);refine goesL_ (some 190) rfl rfl Try.func81 (by kernel_rfl) rfl #[.int .i64 ((rd_T88 x4_1 x179_5).f0)] rfl (by (try simp only [List.map_toArray, List.map_cons, List.map_nil]);first|done|rfl|(simp only [List.length_drop, List.length_take];rfl)) ?_;(with_reducible refine (impl_jumps.calls ((rd_T88 x4_1 x179_5).f0) false _ A148.out).mono ?_);rintro e w' ⟨rfl, ⟨nd, rfl⟩⟩;refine ⟨_, rfl, ?_⟩)|((with_reducible refine gate_builtin (b := .append) (xs := #[.tmp 197, .tmp 199]) rfl ?_);at_builtin;refine Kd.R_append k88 (w0 := w) w.heap.size rfl (.tmp 197) (.tmp 199) 36 88 (.agg #[(.int .i64 0), (.int .i64 0), (.int .i64 0)]) 24 rfl Try.underlying36 info88 rfl (by decide) (by omega) u14 x14_5 (⟨(rd_T88 x4_1 x179_5).f0, (rd_T88 x4_1 x179_5).f1, (rd_T88 x4_1 x179_5).f2⟩ : S88) [.int .i64 ((rd_T88 x4_1 x179_5).f0), .int .i64 ((rd_T88 x4_1 x179_5).f1), .int .i64 ((rd_T88 x4_1 x179_5).f2)] (fun k_ => some k_ ≠ (.slice (some ad153) x4_1.length co7 : Value).ownBlock ∧ k_ ≠ gb154) (fun _ => False) rfl (by first|(go_simp;done)|(go_simp;rfl)) ?aP (fun _ hk => hk.elim) ?aF ?aO ?aB ?aS ?aL ?_;(case aP => exact k88_mkM _ _ _ (⟨(rd_T88 x4_1 x179_5).f0, (rd_T88 x4_1 x179_5).f1, (rd_T88 x4_1 x179_5).f2⟩ : S88));(case aB => exact (by repeat (first|(with_reducible first|exact HB.out|apply below_alloc|apply pw_below_drewN|apply below_drew1|refine below_set ?_ GE154.out)|exact HB.out)));(case aF => exact (fun k_ hk => ⟨Kd.fresh' (Kd.R_lt (by (with_reducible repeat (first|apply Kd.R_alloc|apply Kd.R_drewN|apply Kd.R_drew));exact (Kd.R_mono (Kd.R_far (p := ⟨gb154, 2, none⟩) (Kd.R_far (p := ⟨gb154, 1, none⟩) (Kd.R_far (p := ⟨gb154, 0, none⟩) (Kd.R_mono HO_177.out (fun k_ hk => (⟨hk, hk.2⟩ : _ ∧ k_ ≠ gb154))) (fun _ hk => hk.2) (.int .i64 ((rd_T88 x4_1 x179_5).f0))) (fun _ hk => hk.2) (.int .i64 ((rd_T88 x4_1 x179_5).f1))) (fun _ hk => hk.2) (.int .i64 ((rd_T88 x4_1 x179_5).f2))) (fun _ h_ => h_.1)))) k_ hk, Kd.freshB (g := gb154) (o := .cells #[.int .i64 ((rd_T88 x4_1 x179_5).f0), .int .i64 ((rd_T88 x4_1 x179_5).f1), .int .i64 ((rd_T88 x4_1 x179_5).f2)] 88 (0, 0)) (by (with_reducible repeat (first|refine blk_drewN ?_ _|refine blk_drew ?_|refine blk_alloc ?_ _));refine blk_put (cs := #[.int .i64 ((rd_T88 x4_1 x179_5).f0), .int .i64 ((rd_T88 x4_1 x179_5).f1), .int .i64 0]) ?_ 2 _ rfl;(with_reducible repeat (first|refine blk_drewN ?_ _|refine blk_drew ?_|refine blk_alloc ?_ _));refine blk_put (cs := #[.int .i64 ((rd_T88 x4_1 x179_5).f0), .int .i64 0, .int .i64 0]) ?_ 1 _ rfl;(with_reducible repeat (first|refine blk_drewN ?_ _|refine blk_drew ?_|refine blk_alloc ?_ _));refine blk_put (cs := #[.int .i64 0, .int .i64 0, .int .i64 0]) ?_ 0 _ rfl;(with_reducible repeat (first|refine blk_drewN ?_ _|refine blk_drew ?_|refine blk_alloc ?_ _));exact BK154.out) k_ hk⟩));(case aO => exact (by (with_reducible repeat (first|apply Kd.R_alloc|apply Kd.R_drewN|apply Kd.R_drew));exact Kd.R_mono (Kd.R_far (p := ⟨gb154, 2, none⟩) (Kd.R_far (p := ⟨gb154, 1, none⟩) (Kd.R_far (p := ⟨gb154, 0, none⟩) (Kd.R_mono HO_14.out (fun k_ hk => (⟨hk, hk.2⟩ : _ ∧ k_ ≠ gb154))) (fun _ hk => hk.2) (.int .i64 ((rd_T88 x4_1 x179_5).f0))) (fun _ hk => hk.2) (.int .i64 ((rd_T88 x4_1 x179_5).f1))) (fun _ hk => hk.2) (.int .i64 ((rd_T88 x4_1 x179_5).f2))) (fun _ hk => ⟨hk.1.1, hk.1.2⟩)));(case aS => exact (below_size (by repeat (first|(with_reducible first|exact HB.out|apply below_alloc|apply pw_below_drewN|apply below_drew1|refine below_set ?_ GE154.out)|exact HB.out))));(case aL => have := LMc158.out;omega);intro v162 w162 ho hb hg hat;rw [← Ny161.out] at ho;have n0_ := Aside0.mk (Kd.R_over' (by (with_reducible repeat (first|apply Kd.R_alloc|apply Kd.R_drewN|apply Kd.R_drew));exact (Kd.R_mono (Kd.R_far (p := ⟨gb154, 2, none⟩) (Kd.R_far (p := ⟨gb154, 1, none⟩) (Kd.R_far (p := ⟨gb154, 0, none⟩) (Kd.R_types HO_6.out BK154.out (by decide)) (fun _ hk => hk.2) (.int .i64 ((rd_T88 x4_1 x179_5).f0))) (fun _ hk => hk.2) (.int .i64 ((rd_T88 x4_1 x179_5).f1))) (fun _ hk => hk.2) (.int .i64 ((rd_T88 x4_1 x179_5).f2))) (fun _ h_ => h_.1))) (Kd.R_typed (by (with_reducible repeat (first|apply Kd.R_alloc|apply Kd.R_drewN|apply Kd.R_drew));exact (Kd.R_mono (Kd.R_far (p := ⟨gb154, 2, none⟩) (Kd.R_far (p := ⟨gb154, 1, none⟩) (Kd.R_far (p := ⟨gb154, 0, none⟩) (Kd.R_mono HO_14.out (fun k_ hk => (⟨hk, hk.2⟩ : _ ∧ k_ ≠ gb154))) (fun _ hk => hk.2) (.int .i64 ((rd_T88 x4_1 x179_5).f0))) (fun _ hk => hk.2) (.int .i64 ((rd_T88 x4_1 x179_5).f1))) (fun _ hk => hk.2) (.int .i64 ((rd_T88 x4_1 x179_5).f2))) (fun _ h_ => h_.1)))) (by decide) hg);have n1_ := Aside0.mk (Kd.R_over' (by (with_reducible repeat (first|apply Kd.R_alloc|apply Kd.R_drewN|apply Kd.R_drew));exact (Kd.R_mono (Kd.R_far (p := ⟨gb154, 2, none⟩) (Kd.R_far (p := ⟨gb154, 1, none⟩) (Kd.R_far (p := ⟨gb154, 0, none⟩) (Kd.R_types HO_11.out BK154.out (by decide)) (fun _ hk => hk.2) (.int .i64 ((rd_T88 x4_1 x179_5).f0))) (fun _ hk => hk.2) (.int .i64 ((rd_T88 x4_1 x179_5).f1))) (fun _ hk => hk.2) (.int .i64 ((rd_T88 x4_1 x179_5).f2))) (fun _ h_ => h_.1))) (Kd.R_typed (by (with_reducible repeat (first|apply Kd.R_alloc|apply Kd.R_drewN|apply Kd.R_drew));exact (Kd.R_mono (Kd.R_far (p := ⟨gb154, 2, none⟩) (Kd.R_far (p := ⟨gb154, 1, none⟩) (Kd.R_far (p := ⟨gb154, 0, none⟩) (Kd.R_mono HO_14.out (fun k_ hk => (⟨hk, hk.2⟩ : _ ∧ k_ ≠ gb154))) (fun _ hk => hk.2) (.int .i64 ((rd_T88 x4_1 x179_5).f0))) (fun _ hk => hk.2) (.int .i64 ((rd_T88 x4_1 x179_5).f1))) (fun _ hk => hk.2) (.int .i64 ((rd_T88 x4_1 x179_5).f2))) (fun _ h_ => h_.1)))) (by decide) hg);have n2_ := Aside0.mk (Kd.R_after (ok := (fun k_ => k_ ≠ gb154)) (by (with_reducible repeat (first|apply Kd.R_alloc|apply Kd.R_drewN|apply Kd.R_drew));exact Kd.R_mono (Kd.R_far (p := ⟨gb154, 2, none⟩) (Kd.R_far (p := ⟨gb154, 1, none⟩) (Kd.R_far (p := ⟨gb154, 0, none⟩) (Kd.R_mono HO_177.out (fun k_ hk => (⟨hk, hk.2⟩ : _ ∧ k_ ≠ gb154))) (fun _ hk => hk.2) (.int .i64 ((rd_T88 x4_1 x179_5).f0))) (fun _ hk => hk.2) (.int .i64 ((rd_T88 x4_1 x179_5).f1))) (fun _ hk => hk.2) (.int .i64 ((rd_T88 x4_1 x179_5).f2))) (fun _ hk => ⟨hk.1.2, hk.1.1⟩)) hg hat);have n3_ := Aside0.mk (blk_grown (g := gb154) (o := .cells #[.int .i64 ((rd_T88 x4_1 x179_5).f0), .int .i64 ((rd_T88 x4_1 x179_5).f1), .int .i64 ((rd_T88 x4_1 x179_5).f2)] 88 (0, 0)) (by (with_reducible repeat (first|refine blk_drewN ?_ _|refine blk_drew ?_|refine blk_alloc ?_ _));refine blk_put (cs := #[.int .i64 ((rd_T88 x4_1 x179_5).f0), .int .i64 ((rd_T88 x4_1 x179_5).f1), .int .i64 0]) ?_ 2 _ rfl;(with_reducible repeat (first|refine blk_drewN ?_ _|refine blk_drew ?_|refine blk_alloc ?_ _));refine blk_put (cs := #[.int .i64 ((rd_T88 x4_1 x179_5).f0), .int .i64 0, .int .i64 0]) ?_ 1 _ rfl;(with_reducible repeat (first|refine blk_drewN ?_ _|refine blk_drew ?_|refine blk_alloc ?_ _));refine blk_put (cs := #[.int .i64 0, .int .i64 0, .int .i64 0]) ?_ 0 _ rfl;(with_reducible repeat (first|refine blk_drewN ?_ _|refine blk_drew ?_|refine blk_alloc ?_ _));exact BK154.out) hg (Kd.R_away HO_14.out (fun _ hk => hk.2)));have n4_ := Aside0.mk (hb);have n5_ := Aside0.mk (ho);clear HO_6;clear HO_11;clear HO_177;clear BK154;clear HB;clear HO_14;have HO_6 := n0_;have HO_11 := n1_;have HO_177 := n2_;have BK154 := n3_;have HB := n4_;have HO163 := n5_;clear n0_ n1_ n2_ n3_ n4_ n5_;clear ho hb hg hat))
                            go_roundg k5
                            case measure => have := HK1.out;have := HK2.out;have := HK3.out;have := HK4.out;have := HK5.out;omega
                            case rel => exact ⟨(y161), (wrap64 (x179_5 + 1)), (by first|rfl|(simp;done)|(simp [*];done)), H', ⟨by have := HK1.out;have := HK2.out;have := HK3.out;have := HK4.out;have := HK5.out;omega⟩, ⟨by (try simp only [hl4_1]);(with_reducible repeat (first|apply Kd.R_alloc|apply Kd.R_drewN|apply Kd.R_drew));exact HO_6.out⟩, ⟨by (try simp only [hl4_1]);(with_reducible repeat (first|apply Kd.R_alloc|apply Kd.R_drewN|apply Kd.R_drew));exact HO_11.out⟩, ⟨by (try simp only [hl4_1]);(with_reducible repeat (first|apply Kd.R_alloc|apply Kd.R_drewN|apply Kd.R_drew));exact Kd.R_mono HO163.out (fun _ hk => hk.1)⟩, ⟨by (try simp only [hl4_1]);(with_reducible repeat (first|apply Kd.R_alloc|apply Kd.R_drewN|apply Kd.R_drew));exact Kd.R_mono HO_177.out (fun _ hk => hk.2)⟩, ⟨by repeat (first|(with_reducible first|exact HB.out|apply below_alloc|apply pw_below_drewN|apply below_drew1|refine below_set ?_ GE154.out)|exact HB.out)⟩⟩
                           ·rw [if_neg c158] at H
                            exact absurd H (by simp)
                         ·replace c147 := Bool.eq_false_iff.mpr c147
                          subst c147
                          have H1 : (impl_Tighten.l4 k5 x6_3 x11_4 x14_5 x4_1 (x4_1.length : Int) (wrap64 (x179_5 + 1))) = some (r1, r2) := by rw [if_neg (show ¬ (false = true) by decide)] at H;exact H
                          clear H
                          have H := H1
                          clear H1
                          have H' := Aside0.mk H
                          clear H
                          have p153 : 0 ≤ (x179_5 : Int) := of_decide_eq_true (by first|(with_reducible assumption)|assumption)
                          have q153 : x179_5 < (x4_1.length : Int) := of_decide_eq_true (by first|(with_reducible assumption)|assumption)
                          obtain ⟨ad153, e153, hx153_0, hx153_1, hx153_2⟩ := at_T88 (Kd.R_reads' HO_177.out).2.2 x179_5 p153 q153
                          cases e153
                          replace p153 := eq_true p153
                          replace q153 := eq_true q153
                          go_wp2_with (first|((with_reducible refine gate_dst (N := 16) rfl ?_);refine box_event ?hg (N := 16) ?hd (cs := #[.int .i64 0, .int .i64 0, .int .i64 0]) (t := 88) ?hr ?_;(case hd => rfl);(case hg => rfl);(case hr => first|(go_simp;done)|(go_simp;rfl));intro gb154 hg w163 hbox hb;have n0_ := Aside0.mk (Kd.R_below (by (with_reducible repeat (first|apply Kd.R_alloc|apply Kd.R_drewN|apply Kd.R_drew));exact HO_6.out) hb);have n1_ := Aside0.mk (Kd.R_below (by (with_reducible repeat (first|apply Kd.R_alloc|apply Kd.R_drewN|apply Kd.R_drew));exact HO_11.out) hb);have n2_ := Aside0.mk (Kd.R_below (Kd.R_elderB (by (with_reducible repeat (first|apply Kd.R_alloc|apply Kd.R_drewN|apply Kd.R_drew));exact HO_14.out) gb154 (Nat.le_of_eq hg.symm)) hb);have n3_ := Aside0.mk (Kd.R_below (Kd.R_elderB (by (with_reducible repeat (first|apply Kd.R_alloc|apply Kd.R_drewN|apply Kd.R_drew));exact HO_177.out) gb154 (Nat.le_of_eq hg.symm)) hb);have n4_ := Aside0.mk (below_step (by repeat (first|(with_reducible first|exact HB.out|apply below_alloc|apply pw_below_drewN|apply below_drew1)|exact HB.out)) hb);have n5_ := Aside0.mk (hbox);have n6_ := Aside0.mk ((by rw [hg];exact (below_size (by repeat (first|(with_reducible first|exact HB.out|apply below_alloc|apply pw_below_drewN|apply below_drew1)|exact HB.out))) : w.heap.size ≤ gb154));have n7_ := Aside0.mk ((by rw [hg];exact (below_size (by repeat (first|(with_reducible first|exact HB.out|apply below_alloc|apply pw_below_drewN|apply below_drew1)|exact HB.out))) : w.heap.size ≤ gb154));clear HO_6;clear HO_11;clear HO_14;clear HO_177;clear HB;have HO_6 := n0_;have HO_11 := n1_;have HO_14 := n2_;have HO_177 := n3_;have HB := n4_;have BK154 := n5_;have GW154 := n6_;have GE154 := n7_;clear n0_ n1_ n2_ n3_ n4_ n5_ n6_ n7_;clear hb hbox hg;have hcz164_0 : w163.cell? ⟨gb154, 0, none⟩ = some (.int .i64 0) := (blk_cell BK154.out 0).trans rfl;have hcz164_1 : w163.cell? ⟨gb154, 1, none⟩ = some (.int .i64 0) := (blk_cell BK154.out 1).trans rfl;have hcz164_2 : w163.cell? ⟨gb154, 2, none⟩ = some (.int .i64 0) := (blk_cell BK154.out 2).trans rfl;have hfz164_0 := blk_frozen BK154.out 0;have hfz164_1 := blk_frozen BK154.out 1;have hfz164_2 := blk_frozen BK154.out 2;obtain ⟨Ao165, co165, eo165⟩ := Kd.R_slice HO_6.out;subst eo165;have p155 : 0 ≤ (x179_5 : Int) := of_decide_eq_true (by first|(with_reducible assumption)|assumption);have q155 : x179_5 < (x6_3.length : Int) := of_decide_eq_true (by first|(with_reducible assumption)|assumption);obtain ⟨ad155, e155, hx155_0⟩ := Kd.at_bool (Kd.R_reads' HO_6.out).2.2 x179_5 p155 q155;(try rw [← Nbq146.out] at hx155_0);cases e155;have hn155_0 : ad155.block ≠ gb154 := Kd.own_blk (Kd.R_ne HO_6.out BK154.out (by decide));have hn155_1 : ad155.block ≠ gb154 := Kd.own_blk (Kd.R_ne HO_6.out BK154.out (by decide));have hn155_2 : ad155.block ≠ gb154 := Kd.own_blk (Kd.R_ne HO_6.out BK154.out (by decide));replace hx155_0 := (cell_far (p := ⟨gb154, 0, none⟩) (by first|(rw [add_block];exact hn155_0)|(show (Addr.add _ _).block ≠ _;rw [add_block];exact hn155_0)|exact hn155_0) (.int .i64 ((rd_T88 x4_1 x179_5).f0))).trans hx155_0;replace hx155_0 := (cell_far (p := ⟨gb154, 1, none⟩) (by first|(rw [add_block];exact hn155_1)|(show (Addr.add _ _).block ≠ _;rw [add_block];exact hn155_1)|exact hn155_1) (.int .i64 ((rd_T88 x4_1 x179_5).f1))).trans hx155_0;replace hx155_0 := (cell_far (p := ⟨gb154, 2, none⟩) (by first|(rw [add_block];exact hn155_2)|(show (Addr.add _ _).block ≠ _;rw [add_block];exact hn155_2)|exact hn155_2) (.int .i64 ((rd_T88 x4_1 x179_5).f2))).trans hx155_0;clear hn155_0;clear hn155_1;clear hn155_2;replace p155 := eq_true p155;replace q155 := eq_true q155))
                          go_roundg k5
                          case measure => have := HK1.out;have := HK2.out;have := HK3.out;have := HK4.out;have := HK5.out;omega
                          case rel => exact ⟨(x14_5), (wrap64 (x179_5 + 1)), (by first|rfl|(simp;done)|(simp [*];done)), H', ⟨by have := HK1.out;have := HK2.out;have := HK3.out;have := HK4.out;have := HK5.out;omega⟩, ⟨by (try simp only [hl4_1]);(with_reducible repeat (first|apply Kd.R_alloc|apply Kd.R_drewN|apply Kd.R_drew));exact Kd.R_mono (Kd.R_far (p := ⟨gb154, 2, none⟩) (Kd.R_far (p := ⟨gb154, 1, none⟩) (Kd.R_far (p := ⟨gb154, 0, none⟩) (Kd.R_types HO_6.out BK154.out (by decide)) (fun _ hk => hk.2) (.int .i64 ((rd_T88 x4_1 x179_5).f0))) (fun _ hk => hk.2) (.int .i64 ((rd_T88 x4_1 x179_5).f1))) (fun _ hk => hk.2) (.int .i64 ((rd_T88 x4_1 x179_5).f2))) (fun _ hk => trivial)⟩, ⟨by (try simp only [hl4_1]);(with_reducible repeat (first|apply Kd.R_alloc|apply Kd.R_drewN|apply Kd.R_drew));exact Kd.R_mono (Kd.R_far (p := ⟨gb154, 2, none⟩) (Kd.R_far (p := ⟨gb154, 1, none⟩) (Kd.R_far (p := ⟨gb154, 0, none⟩) (Kd.R_types HO_11.out BK154.out (by decide)) (fun _ hk => hk.2) (.int .i64 ((rd_T88 x4_1 x179_5).f0))) (fun _ hk => hk.2) (.int .i64 ((rd_T88 x4_1 x179_5).f1))) (fun _ hk => hk.2) (.int .i64 ((rd_T88 x4_1 x179_5).f2))) (fun _ hk => trivial)⟩, ⟨by (try simp only [hl4_1]);(with_reducible repeat (first|apply Kd.R_alloc|apply Kd.R_drewN|apply Kd.R_drew));exact Kd.R_mono (Kd.R_far (p := ⟨gb154, 2, none⟩) (Kd.R_far (p := ⟨gb154, 1, none⟩) (Kd.R_far (p := ⟨gb154, 0, none⟩) (Kd.R_mono HO_14.out (fun k_ hk => (⟨hk, hk.2⟩ : _ ∧ k_ ≠ gb154))) (fun _ hk => hk.2) (.int .i64 ((rd_T88 x4_1 x179_5).f0))) (fun _ hk => hk.2) (.int .i64 ((rd_T88 x4_1 x179_5).f1))) (fun _ hk => hk.2) (.int .i64 ((rd_T88 x4_1 x179_5).f2))) (fun _ hk => hk.1.1)⟩, ⟨by (try simp only [hl4_1]);(with_reducible repeat (first|apply Kd.R_alloc|apply Kd.R_drewN|apply Kd.R_drew));exact Kd.R_mono (Kd.R_far (p := ⟨gb154, 2, none⟩) (Kd.R_far (p := ⟨gb154, 1, none⟩) (Kd.R_far (p := ⟨gb154, 0, none⟩) (Kd.R_mono HO_177.out (fun k_ hk => (⟨hk, hk.2⟩ : _ ∧ k_ ≠ gb154))) (fun _ hk => hk.2) (.int .i64 ((rd_T88 x4_1 x179_5).f0))) (fun _ hk => hk.2) (.int .i64 ((rd_T88 x4_1 x179_5).f1))) (fun _ hk => hk.2) (.int .i64 ((rd_T88 x4_1 x179_5).f2))) (fun _ hk => hk.1.1)⟩, ⟨by repeat (first|(with_reducible first|exact HB.out|apply below_alloc|apply pw_below_drewN|apply below_drew1|refine below_set ?_ GE154.out)|exact HB.out)⟩⟩
                        ·rw [if_neg c145] at H
                         exact absurd H (by simp)
                       ·rw [if_neg c144] at H
                        exact absurd H (by simp)
                      ·rw [if_neg c143] at H
                       exact absurd H (by simp)
                     ·rw [if_neg c142] at H
                      have c142b0 : decide (x179_5 < (x4_1.length : Int)) = false := decide_eq_false c142
                      have c142b9 := c142b0
                      try rw [hl4_1] at c142b9
                      clear c142
                      simp only [Option.some.injEq, Prod.mk.injEq] at H
                      obtain ⟨rfl, rfl⟩ := H
                      go_wp2
                      go_ret2
                      exact ⟨_, by first|rfl|(simp [errW_none, errW_some] <;> rfl)|(simp [*, errW_none, errW_some] <;> rfl), by (with_reducible repeat (first|apply Kd.R_alloc|apply Kd.R_drewN|apply Kd.R_drew));exact Kd.R_mono HO_14.out (fun _ hk => trivial), by repeat (first|(with_reducible first|exact HB.out|apply below_alloc|apply pw_below_drewN|apply below_drew1)|exact HB.out)⟩
               ·rw [if_neg c126] at H
                exact absurd H (by simp)
              ·rw [if_neg c125] at H
               exact absurd H (by simp)
       ·rw [if_neg c18] at H
        exact absurd H (by simp)
      ·rw [if_neg c17] at H
       exact absurd H (by simp)
  ·rw [if_neg c4] at H
   exact absurd H (by simp)
 ·replace c3 := Bool.eq_false_iff.mpr c3
  subst c3
  have H1 : (some (([] : List (S88)), 1)) = some (r1, r2) := by rw [if_neg (show ¬ (false = true) by decide)] at H;exact H
  clear H
  have H := H1
  clear H1
  simp only [Option.some.injEq, Prod.mk.injEq] at H
  obtain ⟨rfl, rfl⟩ := H
  go_enter Try.func38, Try.ntmps38
  go_wp2_with (first|((with_reducible refine gate_callee (f := 24) rfl ?_);refine goesL_ (some 18) rfl rfl Try.func24 (by kernel_rfl) rfl #[.slice A0 l0.length c0] rfl (by (try simp only [List.map_toArray, List.map_cons, List.map_nil]);first|done|rfl|(simp only [List.length_drop, List.length_take];rfl)) ?_;(with_reducible refine (impl_ProgramOK.calls k _ _ l0 false _ ?side1 ?side2 A2.out).mono ?_);(case side1 => repeat (first|exact HR0.out|(with_reducible refine Kd.C_alloc ?_ _)|(with_reducible refine Kd.C_drewN ?_ _)|(with_reducible refine Kd.C_drew ?_)));(case side2 => exact HC0.out);rintro e w166 ⟨rfl, hb⟩;refine ⟨_, rfl, ?_⟩;have n0_ := Aside0.mk (below_step (by repeat (first|(with_reducible first|exact HB.out|apply below_alloc|apply pw_below_drewN|apply below_drew1)|exact HB.out)) hb);clear HB;have HB := n0_;clear n0_;(try clear hb);(try clear hb2);(try clear hk);(try clear hi)))
  go_ret2
  exact ⟨_, by first|rfl|(simp [errW_none, errW_some] <;> rfl)|(simp [*, errW_none, errW_some] <;> rfl), by first|exact Kd.R_nil _ _ _ _ _|exact Kd.N_nil _ _ _ _ _|exact Kd.V_nil _ _ _ _ _|exact Kd.Q_nil _ _ _ _ _|exact Kd.S_nil _ _ _ _ _, by repeat (first|(with_reducible first|exact HB.out|apply below_alloc|apply pw_below_drewN|apply below_drew1)|exact HB.out)⟩

end Go.Proofs.Ytgdecbliegelmaa.Q
