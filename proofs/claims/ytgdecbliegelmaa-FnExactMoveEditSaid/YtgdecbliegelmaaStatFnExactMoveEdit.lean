/- The one pure statement of the law FnExactMoveEdit. -/
import Derived.Test.YtgdecbliegelmaaXKinds
import Derived.Test.YtgdecbliegelmaaQlawsFnExactMoveEdit
namespace Go.Proofs.Ytgdecbliegelmaa.Q
open Go.RowKit Go.Proofs.YtgdecbliegelmaaW.PrintWords Go.Proofs.YtgdecbliegelmaaX
def FnExactMoveEdit.Pure : Prop := ∀ (x0 : S23) (x1 : S23), B23 x0 → B23 x1 → ∃ k, laws_FnExactMoveEdit.f k (x0.f0) (x0.f1) (x0.f2) (x1.f0) (x1.f1) (x1.f2) = some true
end Go.Proofs.Ytgdecbliegelmaa.Q
