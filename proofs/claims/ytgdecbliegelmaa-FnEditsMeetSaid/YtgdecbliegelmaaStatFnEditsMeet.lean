/- The one pure statement of the law FnEditsMeet. -/
import Derived.Test.YtgdecbliegelmaaXKinds
import Derived.Test.YtgdecbliegelmaaQlawsFnEditsMeet
namespace Go.Proofs.Ytgdecbliegelmaa.Q
open Go.RowKit Go.Proofs.YtgdecbliegelmaaW.PrintWords Go.Proofs.YtgdecbliegelmaaX
def FnEditsMeet.Pure : Prop := ∀ (x0 : List Int), (fun l : List Int => l.length * 1 ≤ 140737488351232 ∧ ∀ a ∈ l, (fun a : Int => 0 ≤ a ∧ a ≤ 255) a) x0 → ∃ k, laws_FnEditsMeet.f k x0 = some true
end Go.Proofs.Ytgdecbliegelmaa.Q
