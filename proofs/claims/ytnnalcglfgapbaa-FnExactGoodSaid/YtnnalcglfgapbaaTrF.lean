/- Trees: the number of a tree (spec). -/
import Derived.Test.YtnnalcglfgapbaaTrD
set_option linter.unusedVariables false
set_option linter.unusedSimpArgs false
namespace Go.Proofs.Ytnnalcglfgapbaa.Z
open Go Go.RowKit Go.Proofs.Sy Go.Proofs
set_option maxRecDepth 100000
def okT (t : Tree) : Bool := decide (0 ≤ room t 1000 60) && right t
theorem sTreeOK (t : Tree) (hw : wt t ≤ 1099511627776) : FnP Try.prog 96 [t.enc] [B (okT t)] := by
  refine fn_intro Try.func96 rfl rfl rfl ?_
  refine callA (sRoom t 1000 60 (by omega) (by omega)) ?_
  repeat' first | (refine And.intro (fun c => ?_) (fun c => ?_) <;> first | exact absurd c (by decide) | (cases c; done) | (simp only [decide_eq_true_eq, decide_eq_false_iff_not] at c) | skip) | refine callA (sRight t hw) ?_ | fail
  all_goals exact ⟨[], ⟨trivial, rfl⟩, congrArg (fun x => [AV.p (B x)]) (by grind [okT]), rfl⟩
end Go.Proofs.Ytnnalcglfgapbaa.Z
