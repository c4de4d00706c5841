/- How the laws' parameters are read. -/
import Derived.Test.YtgdecbliegelmaaQ0
import Derived.Test.YtgdecbliegelmaaXOpen
import Derived.KernelRfl
namespace Go.Proofs.Ytgdecbliegelmaa.Q
open Go.RowKit Go.Proofs.YtgdecbliegelmaaW.PrintWords Go.Proofs.YtgdecbliegelmaaX
set_option linter.unusedVariables false

def B23 (x : S23) : Prop := (fun a : Int => -9223372036854775808 ≤ a ∧ a ≤ 9223372036854775807) x.f0 ∧ (fun a : Int => -9223372036854775808 ≤ a ∧ a ≤ 9223372036854775807) x.f1 ∧ (fun a : ByteArray => a.size ≤ 140737488351232) x.f2
theorem op23 (n : Nat) : OpensN Try.prog n 23 k23 B23 := by
  cases n with
  | zero => exact opens_zero _ _
  | succ n =>
    refine opens_map (opens_struct Try.underlying23 (by kernel_rfl) (opensF_cons rfl (by kernel_rfl) (opens_i64 Try.underlying3) (opensF_cons rfl (by kernel_rfl) (opens_i64 Try.underlying3) (opensF_one rfl (by kernel_rfl) (opens_string Try.underlying9))))) (fun w a cs h hb => ⟨(⟨a.1, a.2.1, a.2.2⟩ : S23), h, hb⟩)
def B91 (x : S91) : Prop := (fun a : Int => -9223372036854775808 ≤ a ∧ a ≤ 9223372036854775807) x.f0 ∧ (fun a : Int => -9223372036854775808 ≤ a ∧ a ≤ 9223372036854775807) x.f1 ∧ (fun a : Int => -9223372036854775808 ≤ a ∧ a ≤ 9223372036854775807) x.f2
theorem op91 (n : Nat) : OpensN Try.prog n 91 k91 B91 := by
  cases n with
  | zero => exact opens_zero _ _
  | succ n =>
    refine opens_map (opens_struct Try.underlying91 (by kernel_rfl) (opensF_cons rfl (by kernel_rfl) (opens_i64 Try.underlying3) (opensF_cons rfl (by kernel_rfl) (opens_i64 Try.underlying3) (opensF_one rfl (by kernel_rfl) (opens_i64 Try.underlying3))))) (fun w a cs h hb => ⟨(⟨a.1, a.2.1, a.2.2⟩ : S91), h, hb⟩)
inductive B48 : S48 → Prop where
  | mk (x : S48) : (fun a : ByteArray => a.size ≤ 140737488351232) x.f0 → (fun a : ByteArray => a.size ≤ 140737488351232) x.f1 → (fun _ : Bool => True) x.f2 → x.f3.length * 64 ≤ 140737488351232 → (∀ a ∈ x.f3, B48 a) → B48 x
theorem op48 : ∀ n, OpensN Try.prog n 48 k48 B48 := by
  intro n
  induction n using Nat.strongRecOn with
  | _ n ih =>
  cases n with
  | zero => exact opens_zero _ _
  | succ n =>
    refine opens_map (opens_struct (d := (Kd.pair Kd.string (Kd.pair Kd.string (Kd.pair Kd.bool (Kd.slice 48 k48))))) Try.underlying48 (by kernel_rfl) (opensF_cons rfl (by kernel_rfl) (opens_string Try.underlying9) (opensF_cons rfl (by kernel_rfl) (opens_string Try.underlying9) (opensF_cons rfl (by kernel_rfl) (opens_bool Try.underlying4) (opensF_one rfl (by kernel_rfl) (opens_slice_lt (bs := 64) Try.underlying46 (by kernel_rfl) (by kernel_rfl) (fun m_ hm_ => ih m_ (by omega)))))))) ?_
    rintro w a cs ⟨_, _, rfl, rfl, ⟨_, _, rfl, rfl, ⟨_, _, rfl, rfl, ⟨A3, c3, rfl, l3, g3⟩⟩⟩⟩ hb
    exact ⟨⟨a.1, a.2.1, a.2.2.1, a.2.2.2⟩, k48_mk w _ l3 g3, B48.mk _ hb.1 hb.2.1 hb.2.2.1 hb.2.2.2.1 hb.2.2.2.2⟩
end Go.Proofs.Ytgdecbliegelmaa.Q
