/- The one pure statement of the law FnExactRunProgram. -/
import Derived.Test.YtgdecbliegelmaaXKinds
import Derived.Test.YtgdecbliegelmaaQlawsFnExactRunProgram
namespace Go.Proofs.Ytgdecbliegelmaa.Q
open Go.RowKit Go.Proofs.YtgdecbliegelmaaW.PrintWords Go.Proofs.YtgdecbliegelmaaX
def FnExactRunProgram.Pure : Prop := ∀ (x0 : List (S91)) (x1 : List Int) (x2 : Int), (fun l : List (S91) => l.length * 24 ≤ 140737488351232 ∧ ∀ a ∈ l, B91 a) x0 → (fun l : List Int => l.length * 8 ≤ 140737488351232 ∧ ∀ a ∈ l, (fun a : Int => -9223372036854775808 ≤ a ∧ a ≤ 9223372036854775807) a) x1 → (fun a : Int => -9223372036854775808 ≤ a ∧ a ≤ 9223372036854775807) x2 → ∃ k, laws_FnExactRunProgram.f k x0 x1 x2 = some true
end Go.Proofs.Ytgdecbliegelmaa.Q
