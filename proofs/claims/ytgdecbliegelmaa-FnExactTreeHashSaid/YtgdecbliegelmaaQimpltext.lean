-- Written by wip/myprint.py (this session's) over the kit's print: not the kit's own print.
import Derived.Test.YtgdecbliegelmaaQ0
import Derived.Test.YtgdecbliegelmaaQimplshow
import Derived.Test.YtgdecbliegelmaaShelf
namespace Go.Proofs.Ytgdecbliegelmaa.Q
open Go.RowKit Go.Proofs.YtgdecbliegelmaaW.PrintWords Go.Proofs.YtgdecbliegelmaaW.PrintLast Go.Proofs.YtgdecbliegelmaaW.PrintMore
attribute [local go_sem] max2_int min2_int max_two min_two max_three min_three max_four min_four   -- for this text's walks alone
set_option linter.unusedVariables false
set_option linter.unusedSimpArgs false

/-! ### impl_text: function 77 -/
-- IMPORT Derived.Test.YtgdecbliegelmaaShelf
def impl_text.f (k : Nat) (a0_0 : ByteArray) (a0_1 : ByteArray) (a0_2 : Bool) (l0_3 : List (S53)) : Option (ByteArray) := (impl_show.f k a0_0 a0_1 a0_2 l0_3 []).bind fun b => if b.all (fun x => decide (0 ≤ x) && decide (x ≤ 255)) = true then some (strOfNums b) else none
theorem impl_text.mono : ∀ a0 a1 a2 a3 k, LeO (impl_text.f k a0 a1 a2 a3) (impl_text.f (k + 1) a0 a1 a2 a3) := by
  intro a0 a1 a2 a3 k
  unfold impl_text.f
  exact LeO.bind (impl_show.mono _ _ _ _ _ _) (fun _ => LeO.refl _)
theorem nums_bytes (xs : List Int) (h : xs.all (fun x => decide (0 ≤ x) && decide (x ≤ 255)) = true) : nums .u8 xs = Lib.byteCells (xs.map fun n => UInt8.ofNat n.toNat) := by
  unfold nums Lib.byteCells
  rw [List.map_map]
  refine List.map_congr_left fun x hx => ?_
  have := List.all_eq_true.1 h x hx
  simp only [Bool.and_eq_true, decide_eq_true_eq] at this
  simp only [Function.comp]
  congr 1
  rw [UInt8.toNat_ofNat_of_lt' (by simp [UInt8.size]; omega)]
  omega
set_option maxHeartbeats 1000000 in
set_option maxRecDepth 100000 in
theorem impl_text.calls (k : Nat) (a0_0 : ByteArray) (a0_1 : ByteArray) (a0_2 : Bool) (A0_3 : Option Addr) (c0_3 : Nat) (l0_3 : List (S53)) (r : ByteArray) (w : World) (hr0_3 : Kd.C k53 w A0_3 l0_3.length l0_3) (hc0_3 : l0_3.length ≤ c0_3) (h : impl_text.f k a0_0 a0_1 a0_2 l0_3 = some r) :
    Calls Try.prog 77 #[.agg #[.string a0_0, .string a0_1, .bool a0_2, .slice A0_3 l0_3.length c0_3]] w fun e w' => e = .returned (.string r) ∧ Below w.heap.size w w' := by
  unfold impl_text.f at h
  obtain ⟨acc, ht, h⟩ := Option.bind_eq_some_iff.mp h
  by_cases hb : acc.all (fun x => decide (0 ≤ x) && decide (x ≤ 255)) = true
  · rw [if_pos hb] at h
    obtain rfl := Option.some.inj h
    have hu53 := Try.underlying53
    have HF : Aside0 (Kd.F k53 w (fun k => k < w.heap.size) A0_3 l0_3.length l0_3) := ⟨fun W' hW => k53_heap.C (fun k hlt => hW k hlt hlt) hr0_3⟩
    have HC := Aside0.mk hc0_3
    have HT := Aside0.mk ht
    have HN := Aside0.mk (nums_bytes acc hb)
    clear hr0_3 hc0_3 ht h hb
    have HZ : ∀ W : World, Aside0 (Lib.IsBuilderF 143 5 W.heap.size W.heap.size (nums .u8 []) (W.alloc (.cells #[.pointer none, .slice none 0 0] 143))) := fun W => ⟨Lib.IsBuilderF.of (Lib.fresh_isBuilder 143 5 W)⟩
    go_enter Try.func77, Try.ntmps77
    go_wp2_with (go_at_call 110; refine (impl_show.calls k (w.heap.size + 1) (w.heap.size + 1) [] _ _ _ _ _ _ acc _ ?side1 ?side2 ?side3 HC.out HT.out).mono ?_)
    case side1 => have := (HZ (w.alloc (.cells #[.string a0_0, .string a0_1, .bool a0_2, .slice A0_3 l0_3.length c0_3] 53))).out; simpa using this
    case side2 => simp
    case side3 => exact Kd.F_mono (Kd.F_below HF.out (by repeat (first | exact Below.refl _ _ | apply below_alloc))) (fun k hk => by omega)
    rintro e w2 ⟨rfl, hs⟩
    have HS := Aside0.mk hs
    clear hs HZ
    go_wp2_with (go_at_call 111; refine (Try.Builder_String_any_k (w.heap.size + 1) (w.heap.size + 1) (acc.map fun n => UInt8.ofNat n.toNat) _ (by rw [← HN.out]; exact HS.out.1) ?side1).mono ?_)
    case side1 => have := HS.out.size; simp at this; omega
    rintro e w3 ⟨rfl, _, hb3, _⟩
    have HB3 := Aside0.mk (((((Below.refl w.heap.size w).alloc (Nat.le_refl _) _).alloc (by simp) _).trans (HS.out.2.1.mono (Nat.le_succ _))).trans (hb3.mono (Nat.le_succ _)))
    clear hb3
    go_wp2
    go_ret
    exact ⟨rfl, HB3.out⟩
  · rw [if_neg hb] at h
    exact absurd h (by simp)


end Go.Proofs.Ytgdecbliegelmaa.Q
