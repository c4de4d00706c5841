/- The one pure statement of the law FnExactProgramOK. -/
import Derived.Test.YtgdecbliegelmaaXKinds
import Derived.Test.YtgdecbliegelmaaQlawsFnExactProgramOK
namespace Go.Proofs.Ytgdecbliegelmaa.Q
open Go.RowKit Go.Proofs.YtgdecbliegelmaaW.PrintWords Go.Proofs.YtgdecbliegelmaaX
def FnExactProgramOK.Pure : Prop := ∀ (x0 : List (S91)), (fun l : List (S91) => l.length * 24 ≤ 140737488351232 ∧ ∀ a ∈ l, B91 a) x0 → ∃ k, laws_FnExactProgramOK.f k x0 = some true
end Go.Proofs.Ytgdecbliegelmaa.Q
