/- Trees: the number of a tree (spec). -/
import Derived.Test.YtgdecbliegelmaaTrE
set_option linter.unusedVariables false
set_option linter.unusedSimpArgs false
namespace Go.Proofs.Ytgdecbliegelmaa.Z
open Go Go.RowKit Go.Proofs.Sy Go.Proofs
set_option maxRecDepth 100000
def okT (t : Tree) : Bool := decide (0 ≤ room t 1000 60) && right t
theorem sTreeOK (t : Tree) (hw : wt t ≤ 1099511627776) : FnP Try.prog 73 [t.enc] [B (okT t)] := by
  refine fn_intro Try.func73 rfl rfl rfl ?_
  refine callA (sRoom t 1000 60 (by omega) (by omega)) ?_
  repeat' first | (refine And.intro (fun c => ?_) (fun c => ?_) <;> first | exact absurd c (by decide) | (cases c; done) | (simp only [decide_eq_true_eq, decide_eq_false_iff_not] at c) | skip) | refine callA (sRight t hw) ?_ | fail
  all_goals exact ⟨[], ⟨trivial, rfl⟩, congrArg (fun x => [AV.p (B x)]) (by grind [okT]), rfl⟩
def hashT (t : Tree) : Int := hash 5381 (shw t).data.toList
theorem sTreeHash (t : Tree) (hw : wt t ≤ 1099511627776) : FnP Try.prog 35 [t.enc] [I (if okT t = true then hashT t else 0), I (if okT t = true then 0 else 1)] := by
  refine fn_intro Try.func35 rfl rfl rfl ?_
  refine callA (sTreeOK t hw) ?_
  refine And.intro (fun c => ?_) (fun c => ?_)
  · rw [if_neg (by grind), if_neg (by grind)]
    exact ⟨[], ⟨trivial, rfl⟩, rfl, rfl⟩
  · rw [if_pos (by grind), if_pos (by grind)]
    refine callA (sShow t hw) ?_
    have hs := shw_size t
    refine callA (sHashOn 5381 (shw t) (by omega) (by omega)) ?_
    exact ⟨[], ⟨trivial, rfl⟩, rfl, rfl⟩
end Go.Proofs.Ytgdecbliegelmaa.Z
