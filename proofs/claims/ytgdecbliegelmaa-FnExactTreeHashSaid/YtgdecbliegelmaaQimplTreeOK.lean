-- Written by wip/myprint.py (this session's) over the kit's print: not the kit's own print.
import Derived.Test.YtgdecbliegelmaaQ0
import Derived.Test.YtgdecbliegelmaaQimplmeasure
namespace Go.Proofs.Ytgdecbliegelmaa.Q
open Go.RowKit Go.Proofs.YtgdecbliegelmaaW.PrintWords Go.Proofs.YtgdecbliegelmaaW.PrintLast Go.Proofs.YtgdecbliegelmaaW.PrintMore
attribute [local go_sem] max2_int min2_int max_two min_two max_three min_three max_four min_four   -- for this text's walks alone
set_option linter.unusedVariables false
set_option linter.unusedSimpArgs false

/-! ### impl_TreeOK: function 76 -/
theorem meas_below {gp gq : Nat} {n dp : Int} {w W w' : World} (hb : Below w.heap.size w W) (hg : w.heap.size ≤ gp) (hq : w.heap.size ≤ gq) (hm : Meas gp gq n dp W w') : Below w.heap.size w w' :=
  ⟨hm.2.2.1.os.trans hb.os, hm.2.2.1.tape.trans hb.tape, hm.2.2.1.output.trans hb.output, Nat.le_trans hb.size hm.2.2.1.size, fun k hk => (hm.2.2.2.2 k (Nat.lt_of_lt_of_le hk hb.size) (fun h => by rcases h with h | h <;> omega)).trans (hb.block k hk)⟩
theorem new1_ (w : World) (o o1 o2 : Obj) : (((w.alloc o).alloc o1).alloc o2).heap[w.heap.size + 1]? = some o1 := by
  refine blk_alloc ?_ o2
  have h := blk_new (w.alloc o) o1
  simpa using h
theorem new2_ (w : World) (o o1 o2 : Obj) : (((w.alloc o).alloc o1).alloc o2).heap[w.heap.size + 2]? = some o2 := by
  have h := blk_new ((w.alloc o).alloc o1) o2
  simpa using h
def impl_TreeOK.f (k : Nat) (a0_0 : ByteArray) (a0_1 : ByteArray) (a0_2 : Bool) (l0_3 : List (S53)) : Option (Bool) := (impl_measure.f k a0_0 a0_1 a0_2 l0_3 1 0 0).bind fun b => some b.1
theorem impl_TreeOK.mono : ∀ a0 a1 a2 a3 k, LeO (impl_TreeOK.f k a0 a1 a2 a3) (impl_TreeOK.f (k + 1) a0 a1 a2 a3) := by
  intro a0 a1 a2 a3 k
  unfold impl_TreeOK.f
  exact LeO.bind (impl_measure.mono _ _ _ _ _ _ _ _) (fun _ => LeO.refl _)
set_option maxHeartbeats 1000000 in
set_option maxRecDepth 100000 in
theorem impl_TreeOK.calls (k : Nat) (a0_0 : ByteArray) (a0_1 : ByteArray) (a0_2 : Bool) (A0_3 : Option Addr) (c0_3 : Nat) (l0_3 : List (S53)) (r : Bool) (w : World) (hr0_3 : Kd.C k53 w A0_3 l0_3.length l0_3) (hc0_3 : l0_3.length ≤ c0_3) (h : impl_TreeOK.f k a0_0 a0_1 a0_2 l0_3 = some r) :
    Calls Try.prog 76 #[.agg #[.string a0_0, .string a0_1, .bool a0_2, .slice A0_3 l0_3.length c0_3]] w fun e w' => e = .returned (.bool r) ∧ Below w.heap.size w w' := by
  unfold impl_TreeOK.f at h
  obtain ⟨⟨r, n1, d1⟩, ht, h⟩ := Option.bind_eq_some_iff.mp h
  obtain rfl := Option.some.inj h
  have hu53 := Try.underlying53
  have HF : Aside0 (Kd.F k53 w (fun k => k < w.heap.size) A0_3 l0_3.length l0_3) := ⟨fun W' hW => k53_heap.C (fun k hlt => hW k hlt hlt) hr0_3⟩
  have HC := Aside0.mk hc0_3
  have HT := Aside0.mk ht
  clear hr0_3 hc0_3 ht h
  go_enter Try.func76, Try.ntmps76
  go_wp2_with (first | (go_at_call 109; (refine (impl_measure.calls k _ _ _ _ _ _ _ (w.heap.size + 1) (w.heap.size + 2) 0 0 r n1 d1 _ ?side1 HC.out ?side2 ?side3 (by omega) HT.out).mono ?_); (case side1 => exact Kd.F_mono (Kd.F_below HF.out (by repeat (first | exact Below.refl _ _ | apply below_alloc))) (fun k hk h2 => by rcases h2 with h2 | h2 <;> omega)); (case side2 => exact new1_ _ _ _ _); (case side3 => exact new2_ _ _ _ _); rintro e w2 ⟨rfl, hm⟩; have hm2 := Aside0.mk (meas_below (by repeat (first | exact Below.refl _ _ | apply below_alloc)) (Nat.le_add_right _ _) (Nat.le_add_right _ _) hm); clear hm))
  go_ret
  exact ⟨rfl, hm2.out⟩


end Go.Proofs.Ytgdecbliegelmaa.Q
