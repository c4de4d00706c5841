/- What was proved by hand, told as printed contracts: both TreeOK. -/
import Derived.Test.YtnnalcglfgapbaaSyU
import Derived.Test.YtnnalcglfgapbaaTrI
set_option linter.unusedVariables false
set_option linter.unusedSimpArgs false
namespace Go.Proofs.Ytnnalcglfgapbaa.Z
open Go Go.RowKit Go.Proofs.Sy Go.Proofs
set_option maxRecDepth 100000
def m_impl_TreeOK (n : Nat) (t : Tree) : Option Bool := gp (wt t ≤ 1099511627776) <| some (okT t)
theorem c_impl_TreeOK (n : Nat) (t : Tree) (r : Bool) (h : m_impl_TreeOK n t = some r) : FnP Try.prog 103 [t.enc] [B r] := by
  obtain ⟨g, h⟩ := gpT h; cases h; exact iTreeOK t g
def m_spec_TreeOK (n : Nat) (t : Tree) : Option Bool := gp (wt t ≤ 1099511627776) <| some (okT t)
theorem c_spec_TreeOK (n : Nat) (t : Tree) (r : Bool) (h : m_spec_TreeOK n t = some r) : FnP Try.prog 96 [t.enc] [B r] := by
  obtain ⟨g, h⟩ := gpT h; cases h; exact sTreeOK t g
end Go.Proofs.Ytnnalcglfgapbaa.Z
