/- The one pure statement of the law FnExactBackEdit. -/
import Derived.Test.YtgdecbliegelmaaXKinds
import Derived.Test.YtgdecbliegelmaaQlawsFnExactBackEdit
namespace Go.Proofs.Ytgdecbliegelmaa.Q
open Go.RowKit Go.Proofs.YtgdecbliegelmaaW.PrintWords Go.Proofs.YtgdecbliegelmaaX
def FnExactBackEdit.Pure : Prop := ∀ (x0 : ByteArray) (x1 : S23), (fun a : ByteArray => a.size ≤ 140737488351232) x0 → B23 x1 → ∃ k, laws_FnExactBackEdit.f k x0 (x1.f0) (x1.f1) (x1.f2) = some true
end Go.Proofs.Ytgdecbliegelmaa.Q
