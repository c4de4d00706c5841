/- Codes that are too great; paths that lead somewhere. -/
import Derived.Test.YtgdecbliegelmaaTrT
set_option linter.unusedVariables false
set_option linter.unusedSimpArgs false
namespace Go.Proofs.Ytgdecbliegelmaa.Z
open Go Go.RowKit Go.Proofs.Sy Go.Proofs
set_option maxRecDepth 100000
theorem cBig (code : List UInt8) : ∃ b, FnP Try.prog 26 [.lst (bl code)] [B b] ∧ (b = false → code.length ≤ 1048576) := by
  refine ⟨decide ((code.length : Int) > 1048576), ?_, fun h => by have := of_decide_eq_false h; omega⟩
  refine fn_intro Try.func26 rfl rfl rfl ?_
  exact ⟨[], ⟨trivial, rfl⟩, congrArg (fun x : Nat => [AV.p (B (decide ((x : Int) > 1048576)))]) (bl_len code), rfl⟩
end Go.Proofs.Ytgdecbliegelmaa.Z
