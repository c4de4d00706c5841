/- How the laws' parameters are read. -/
import Derived.Test.YtgdecbliegelmaaQ0
import Derived.Test.YtgdecbliegelmaaXOpen
import Derived.KernelRfl
namespace Go.Proofs.Ytgdecbliegelmaa.Q
open Go.RowKit Go.Proofs.YtgdecbliegelmaaW.PrintWords Go.Proofs.YtgdecbliegelmaaX
set_option linter.unusedVariables false

def B91 (x : S91) : Prop := (fun a : Int => -9223372036854775808 ≤ a ∧ a ≤ 9223372036854775807) x.f0 ∧ (fun a : Int => -9223372036854775808 ≤ a ∧ a ≤ 9223372036854775807) x.f1 ∧ (fun a : Int => -9223372036854775808 ≤ a ∧ a ≤ 9223372036854775807) x.f2
theorem op91 (n : Nat) : OpensN Try.prog n 91 k91 B91 := by
  cases n with
  | zero => exact opens_zero _ _
  | succ n =>
    refine opens_map (opens_struct Try.underlying91 (by kernel_rfl) (opensF_cons rfl (by kernel_rfl) (opens_i64 Try.underlying3) (opensF_cons rfl (by kernel_rfl) (opens_i64 Try.underlying3) (opensF_one rfl (by kernel_rfl) (opens_i64 Try.underlying3))))) (fun w a cs h hb => ⟨(⟨a.1, a.2.1, a.2.2⟩ : S91), h, hb⟩)
end Go.Proofs.Ytgdecbliegelmaa.Q
