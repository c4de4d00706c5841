/- Trees: their number (spec). -/
import Derived.Test.YtgdecbliegelmaaTrF
import Derived.Test.YtgdecbliegelmaaTrE
set_option linter.unusedVariables false
set_option linter.unusedSimpArgs false
namespace Go.Proofs.Ytgdecbliegelmaa.Z
open Go Go.RowKit Go.Proofs.Sy Go.Proofs
set_option maxRecDepth 100000
def hashT (t : Tree) : Int := hash 5381 (shw t).data.toList
theorem sTreeHash (t : Tree) (hw : wt t ≤ 1099511627776) : FnP Try.prog 35 [t.enc] [I (if okT t = true then hashT t else 0), I (if okT t = true then 0 else 1)] := by
  refine fn_intro Try.func35 rfl rfl rfl ?_
  refine callA (sTreeOK t hw) ?_
  refine And.intro (fun c => ?_) (fun c => ?_)
  · rw [if_neg (by grind), if_neg (by grind)]
    exact ⟨[], ⟨trivial, rfl⟩, rfl, rfl⟩
  · rw [if_pos (by grind), if_pos (by grind)]
    refine callA (sShow t hw) ?_
    have hs := shw_size t
    refine callA (sHashOn 5381 (shw t) (by omega) (by omega)) ?_
    exact ⟨[], ⟨trivial, rfl⟩, rfl, rfl⟩
end Go.Proofs.Ytgdecbliegelmaa.Z
