/- How the laws' parameters are read. -/
import Derived.Test.YtgdecbliegelmaaQ0
import Derived.Test.YtgdecbliegelmaaXOpen
import Derived.KernelRfl
namespace Go.Proofs.Ytgdecbliegelmaa.Q
open Go.RowKit Go.Proofs.YtgdecbliegelmaaW.PrintWords Go.Proofs.YtgdecbliegelmaaX
set_option linter.unusedVariables false

end Go.Proofs.Ytgdecbliegelmaa.Q
