/- Terms: ScopesOf. -/
import Derived.Test.YtegpjjnedbbpjaaTnE
set_option linter.unusedVariables false
set_option linter.unusedSimpArgs false
namespace Go.Proofs.Ytegpjjnedbbpjaa.Z
open Go Go.RowKit Go.Proofs.Sy Go.Proofs
set_option maxRecDepth 100000
def sc1 : Sc := ⟨1, [], [], [], [], []⟩
def sc0 : Sc := ⟨0, [], [], [], [], []⟩
def scM (t : Tree) : Sc := walkM t [] 0 sc1
def scR (t : Tree) : Sc × Int := if (okT t && termF t) = false then (sc0, 1) else if sgOK (scM t) = false then (sc0, 3) else (scM t, 0)
theorem iScopesOf (t : Tree) (hw : wt t ≤ 10000000) : FnP Try.prog 44 [t.enc] [sgE (scR t).1, .lst ((scR t).1.dp.map eP), .lst ((scR t).1.rp.map eP), I (scR t).2] := by
  have hbg := walkM_big t [] 0 sc1 (by decide)
  have hb1 : sc1.big = 1 := rfl
  have hn1 : sc1.n = 1 := rfl
  refine fn_intro Try.func44 rfl rfl rfl ?_
  refine callA (iTermOK t (by omega)) ?_
  cases hok : (okT t && termF t) with
  | false =>
    repeat' first | (refine And.intro (fun c => ?_) (fun c => ?_) <;> first | exact absurd c (by decide) | (cases c; done) | (simp only [decide_eq_true_eq, decide_eq_false_iff_not] at c) | skip) | fail
    exact .inl (.inl (.inl ⟨[], ⟨trivial, rfl⟩, by unfold scR; rw [if_pos hok]; rfl, rfl⟩))
  | true =>
    have hno : ¬ (okT t && termF t) = false := by rw [hok]; simp
    repeat' first | (refine And.intro (fun c => ?_) (fun c => ?_) <;> first | exact absurd c (by decide) | (cases c; done) | (simp only [decide_eq_true_eq, decide_eq_false_iff_not] at c) | skip) | fail
    refine callW [2] [(165, 3), (71, 2), (71, 2), (49, 1), (49, 1)] (iWalk t [] 0 sc1 (by decide) (by omega) (by simp; omega)) (fun K' hk => .inl hk) rfl ?_ ?_ ?_ ?_
    · exact ⟨rfl, rfl, rfl, rfl, trivial⟩
    · exact ⟨⟨rfl, rfl, ⟨rfl, rfl⟩, ⟨rfl, rfl⟩, ⟨rfl, rfl⟩, ⟨rfl, rfl⟩, ⟨rfl, rfl⟩, trivial⟩, rfl, rfl, rfl, rfl, rfl, trivial⟩
    · rfl
    rintro rs τ' hl' ⟨rfl, rfl⟩
    have hm : walkM t [] 0 sc1 = scM t := rfl
    rw [hm]
    rw [hm] at hbg
    have hnn : (scM t).n ≤ (scM t).big := by unfold Sc.big; omega
    refine callP (iSgOK (scM t) (by omega)) (fun K' hk => Exists.intro _ (And.intro (row_allM eE (scM t).es) (Exists.intro _ (And.intro (row_allM eS (scM t).ds) (Exists.intro _ (And.intro (row_allM eS (scM t).rs) hk)))))) ?_
    cases hs : sgOK (scM t) with
    | false =>
      repeat' first | (refine And.intro (fun c => ?_) (fun c => ?_) <;> first | exact absurd c (by decide) | (cases c; done) | (simp only [decide_eq_true_eq, decide_eq_false_iff_not] at c) | skip) | fail
      exact .inl (.inl (.inl ⟨[], ⟨trivial, rfl⟩, by unfold scR; rw [if_neg hno, if_pos hs]; rfl, rfl⟩))
    | true =>
      have hns : ¬ sgOK (scM t) = false := by rw [hs]; simp
      repeat' first | (refine And.intro (fun c => ?_) (fun c => ?_) <;> first | exact absurd c (by decide) | (cases c; done) | (simp only [decide_eq_true_eq, decide_eq_false_iff_not] at c) | skip) | fail
      refine ⟨[0, 1, 2, 3, 4, 5, 6, 7, 8, 9, 10, 11, 12, 13, 14, 15], [1], by decide +kernel, ?_⟩
      refine .inl (Exists.intro _ (And.intro (row_allM eE (scM t).es) (Exists.intro _ (And.intro (row_allM eS (scM t).ds) (Exists.intro _ (And.intro (row_allM eS (scM t).rs) ?_))))))
      refine .inl (Exists.intro _ (And.intro (row_allM eP (scM t).dp) ?_))
      refine .inl (Exists.intro _ (And.intro (row_allM eP (scM t).rp) ?_))
      exact ⟨[], ⟨trivial, rfl⟩, by unfold scR; rw [if_neg hno, if_neg hns]; rfl, rfl⟩
theorem sScopesOf (t : Tree) (hw : wt t ≤ 10000000) : FnP Try.prog 43 [t.enc] [sgE (scR t).1, .lst ((scR t).1.dp.map eP), .lst ((scR t).1.rp.map eP), I (scR t).2] := by
  have hbg := walkM_big t [] 0 sc1 (by decide)
  have hb1 : sc1.big = 1 := rfl
  have hn1 : sc1.n = 1 := rfl
  refine fn_intro Try.func43 rfl rfl rfl ?_
  refine callA (sTermOK t (by omega)) ?_
  cases hok : (okT t && termF t) with
  | false =>
    repeat' first | (refine And.intro (fun c => ?_) (fun c => ?_) <;> first | exact absurd c (by decide) | (cases c; done) | (simp only [decide_eq_true_eq, decide_eq_false_iff_not] at c) | skip) | fail
    refine And.intro trivial (And.intro trivial ?_)
    refine .inl (.inl (Exists.intro ([] : List PV) (And.intro ⟨Nat.le_refl 0, rfl⟩ (.inl (Exists.intro ([] : List PV) (And.intro ⟨Nat.le_refl 0, rfl⟩ ?_))))))
    exact ⟨[], ⟨trivial, rfl⟩, by unfold scR; rw [if_pos hok]; rfl, rfl⟩
  | true =>
    have hno : ¬ (okT t && termF t) = false := by rw [hok]; simp
    have hft : termF t = true := by simp at hok; exact hok.2
    repeat' first | (refine And.intro (fun c => ?_) (fun c => ?_) <;> first | exact absurd c (by decide) | (cases c; done) | (simp only [decide_eq_true_eq, decide_eq_false_iff_not] at c) | skip) | fail
    refine And.intro trivial ?_
    refine callW [2] [(165, 3), (71, 2), (71, 2), (49, 1), (49, 1)] (sWalk t [] 0 sc1 hft (by decide) (by omega) (by simp; omega)) (fun K' hk => .inl (Exists.intro ([] : List PV) (And.intro ⟨Nat.le_refl 0, rfl⟩ hk))) rfl ?_ ?_ ?_ ?_
    · exact ⟨rfl, rfl, rfl, rfl, trivial⟩
    · exact ⟨⟨rfl, rfl, ⟨rfl, rfl⟩, ⟨rfl, rfl⟩, ⟨rfl, rfl⟩, ⟨rfl, rfl⟩, ⟨rfl, rfl⟩, trivial⟩, rfl, rfl, rfl, rfl, rfl, trivial⟩
    · rfl
    rintro rs τ' hl' ⟨rfl, rfl⟩
    have hm : walkM t [] 0 sc1 = scM t := rfl
    rw [hm]
    rw [hm] at hbg
    have hnn : (scM t).n ≤ (scM t).big := by unfold Sc.big; omega
    refine callP (sSgOK (scM t) (by omega)) (fun K' hk => Exists.intro _ (And.intro (row_allM eE (scM t).es) (Exists.intro _ (And.intro (row_allM eS (scM t).ds) (Exists.intro _ (And.intro (row_allM eS (scM t).rs) hk)))))) ?_
    cases hs : sgOK (scM t) with
    | false =>
      repeat' first | (refine And.intro (fun c => ?_) (fun c => ?_) <;> first | exact absurd c (by decide) | (cases c; done) | (simp only [decide_eq_true_eq, decide_eq_false_iff_not] at c) | skip) | fail
      refine And.intro trivial (And.intro trivial ?_)
      refine .inl (.inl (Exists.intro ([] : List PV) (And.intro ⟨Nat.le_refl 0, rfl⟩ (.inl (Exists.intro ([] : List PV) (And.intro ⟨Nat.le_refl 0, rfl⟩ ?_))))))
      exact ⟨[], ⟨trivial, rfl⟩, by unfold scR; rw [if_neg hno, if_pos hs]; rfl, rfl⟩
    | true =>
      have hns : ¬ sgOK (scM t) = false := by rw [hs]; simp
      repeat' first | (refine And.intro (fun c => ?_) (fun c => ?_) <;> first | exact absurd c (by decide) | (cases c; done) | (simp only [decide_eq_true_eq, decide_eq_false_iff_not] at c) | skip) | fail
      refine ⟨[0, 1, 2, 3, 4, 5, 6, 7, 8, 9, 10, 11, 12, 13, 14, 15], [1], by decide +kernel, ?_⟩
      refine .inl (Exists.intro _ (And.intro (row_allM eE (scM t).es) (Exists.intro _ (And.intro (row_allM eS (scM t).ds) (Exists.intro _ (And.intro (row_allM eS (scM t).rs) ?_))))))
      refine .inl (Exists.intro _ (And.intro (row_allM eP (scM t).dp) ?_))
      refine .inl (Exists.intro _ (And.intro (row_allM eP (scM t).rp) ?_))
      exact ⟨[], ⟨trivial, rfl⟩, by unfold scR; rw [if_neg hno, if_neg hns]; rfl, rfl⟩
end Go.Proofs.Ytegpjjnedbbpjaa.Z
