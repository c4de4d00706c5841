/- FnExactGood: the law, as its row asks. -/
import Derived.Test.YtnnalcglfgapbaaGdE
import Derived.Test.YtnnalcglfgapbaaGdO
set_option linter.unusedVariables false
set_option linter.unusedSectionVars false
namespace Go.Proofs.Ytnnalcglfgapbaa.Z
open Go Go.RowKit Go.Proofs.Sy Go.Proofs
theorem BB.of {b : gBnf} (h : W_gBnf b) : BB b := by
  obtain ⟨⟨t1, t2⟩, ⟨s1, s2⟩, _, p1, p2⟩ := h
  refine ⟨⟨?_, fun x hx => (t2 x hx).1⟩, ⟨?_, s2⟩, ?_, fun x hx => ⟨?_, (p2 x hx).2.2.1⟩⟩
  · unfold big47; omega
  · unfold big47; omega
  · unfold big47; omega
  · have := (p2 x hx).2.1.1
    unfold big47; omega
theorem cGoodRow (b : gBnf) (h : W_gBnf b) (non : Int) (hn : -9223372036854775808 ≤ non ∧ non ≤ 9223372036854775807) (d : List Int) (hd : d.length * 8 ≤ 140737488351232 ∧ ∀ a ∈ d, -9223372036854775808 ≤ a ∧ a ≤ 9223372036854775807) : FnP Try.prog 3 [b.enc, I non, .lst (d.map I)] [B true] := cGoodLaw b (BB.of h) non d
end Go.Proofs.Ytnnalcglfgapbaa.Z
