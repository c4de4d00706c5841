/- FnExactProgramShow: the law, as its row asks. -/
import Derived.Test.YtnnalcglfgapbaaDoorPsF
import Derived.Test.YtnnalcglfgapbaaDoorPsO
set_option linter.unusedVariables false
set_option linter.unusedSectionVars false
namespace Go.Proofs.YtnnalcglfgapbaaDoor.Z
open Go Go.RowKit Go.Proofs.Sy Go.Proofs
theorem cShowRow (p : List gIns) (h : p.length * 24 ≤ 140737488351232 ∧ ∀ a ∈ p, W_gIns a) : FnP Tryd.prog 3 [.lst (p.map gIns.enc)] [B true] := cShowLaw p (by omega)
end Go.Proofs.YtnnalcglfgapbaaDoor.Z
