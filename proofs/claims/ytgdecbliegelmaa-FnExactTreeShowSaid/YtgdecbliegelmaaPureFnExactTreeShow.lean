/- The law FnExactTreeShow, plainly. -/
import Derived.Test.YtgdecbliegelmaaPTreeC
import Derived.Test.YtgdecbliegelmaaStatFnExactTreeShow
namespace Go.Proofs.Ytgdecbliegelmaa.Q
open Go.RowKit Go.Proofs.YtgdecbliegelmaaW.PrintWords Go.Proofs.YtgdecbliegelmaaX
set_option linter.unusedVariables false
theorem OKT_inv (t : S53) (h : OKT t = true) : Rt t = true ∧ Nn t ≤ 1000 := by
  simp only [OKT, Bool.and_eq_true, decide_eq_true_eq] at h
  exact ⟨h.2, h.1.1⟩
theorem both_show (t : S53) (ht : FitI t) : ∃ r, Ev (fun k => spec_TreeShow.f k t.f0 t.f1 t.f2 t.f3) r ∧ Ev (fun k => impl_TreeShow.f k t.f0 t.f1 t.f2 t.f3) r := by
  have hs := ok_s t ht
  have hi := ok_i t ht
  unfold spec_TreeShow.f impl_TreeShow.f
  cases h : OKT t with
  | false =>
    rw [h] at hs hi
    exact ⟨_, Ev.bind hs (Ev.neg (by simp) (Ev.now _)), Ev.bind hi (Ev.neg (by simp) (Ev.now _))⟩
  | true =>
    rw [h] at hs hi
    obtain ⟨h1, h2⟩ := OKT_inv t h
    by_cases hc : ((strOfNums (shw t)).size : Int) > 20000
    · exact ⟨_, Ev.bind hs (Ev.pos rfl (Ev.bind (show_s t h1 h2) (Ev.pos hc (Ev.now _)))), Ev.bind hi (Ev.pos rfl (Ev.bind (text_i t h1 h2) (Ev.pos hc (Ev.now _))))⟩
    · exact ⟨_, Ev.bind hs (Ev.pos rfl (Ev.bind (show_s t h1 h2) (Ev.neg hc (Ev.now _)))), Ev.bind hi (Ev.pos rfl (Ev.bind (text_i t h1 h2) (Ev.neg hc (Ev.now _))))⟩
theorem FnExactTreeShow.pure : FnExactTreeShow.Pure := by
  intro t ht
  refine Ev.rounds (g := fun k => laws_FnExactTreeShow.f k t.f0 t.f1 t.f2 t.f3) ?_
  obtain ⟨r, hr, hr1, hr2⟩ := sz_tree t ht 1048576 (by omega) (by omega)
  unfold laws_FnExactTreeShow.f
  refine Ev.bind hr ?_
  by_cases hn : r < 0
  · exact Ev.pos hn (Ev.now _)
  refine Ev.neg hn ?_
  have hf := fit_conv t ht
  obtain ⟨q, h1, h2⟩ := both_show (conv t) hf
  refine Ev.bind (to_tree t ht) ?_
  refine Ev.bind h1 ?_
  refine Ev.bind (to_tree t ht) ?_
  refine Ev.bind h2 ?_
  refine Ev.pos rfl ?_
  refine Ev.step (fun k => by rw [laws_FnExactTreeShow.j0]) ?_
  refine Ev.neg (by simp) ?_
  refine Ev.bind (to_tree t ht) ?_
  refine Ev.bind (eq_tree (conv t) hf) ?_
  exact Ev.pos rfl (Ev.now _)
end Go.Proofs.Ytgdecbliegelmaa.Q
