/- The one pure statement of the law FnExactTreeHash. -/
import Derived.Test.YtgdecbliegelmaaXKinds
import Derived.Test.YtgdecbliegelmaaQlawsFnExactTreeHash
namespace Go.Proofs.Ytgdecbliegelmaa.Q
open Go.RowKit Go.Proofs.YtgdecbliegelmaaW.PrintWords Go.Proofs.YtgdecbliegelmaaX
def FnExactTreeHash.Pure : Prop := ∀ (x0 : S48), B48 x0 → ∃ k, laws_FnExactTreeHash.f k (x0.f0) (x0.f1) (x0.f2) (x0.f3) = some true
end Go.Proofs.Ytgdecbliegelmaa.Q
