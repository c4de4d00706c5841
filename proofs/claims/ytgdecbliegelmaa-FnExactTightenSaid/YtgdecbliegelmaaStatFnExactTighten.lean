/- The one pure statement of the law FnExactTighten. -/
import Derived.Test.YtgdecbliegelmaaXKinds
import Derived.Test.YtgdecbliegelmaaQlawsFnExactTighten
namespace Go.Proofs.Ytgdecbliegelmaa.Q
open Go.RowKit Go.Proofs.YtgdecbliegelmaaW.PrintWords Go.Proofs.YtgdecbliegelmaaX
def FnExactTighten.Pure : Prop := ∀ (x0 : List (S91)), (fun l : List (S91) => l.length * 24 ≤ 140737488351232 ∧ ∀ a ∈ l, B91 a) x0 → ∃ k, laws_FnExactTighten.f k x0 = some true
end Go.Proofs.Ytgdecbliegelmaa.Q
