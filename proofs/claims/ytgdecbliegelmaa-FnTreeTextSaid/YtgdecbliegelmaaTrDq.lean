/- Texts in quotes (spec). -/
import Derived.Test.YtgdecbliegelmaaTrD
set_option linter.unusedVariables false
set_option linter.unusedSimpArgs false
namespace Go.Proofs.Ytgdecbliegelmaa.Z
open Go Go.RowKit Go.Proofs.Sy Go.Proofs
set_option maxRecDepth 100000
theorem sQuote (s : ByteArray) (hs : s.size ≤ 1099511627776) : FnP Try.prog 108 [S s] [S (quote s)] := by
  refine fn_intro Try.func108 rfl rfl rfl ?_
  refine And.intro (by trivial) ?_
  refine ⟨Int × List UInt8, fun x => ([(0, .p (S s)), (3, .row 0 1 0 x.2.length), (4, .p (I x.1))], [.row 5 1 (bl x.2)]),
    fun x n => 0 ≤ x.1 ∧ x.1 ≤ s.size ∧ x.2.length ≤ 1 + 4 * x.1 ∧ n = (s.size - x.1).toNat ∧ x.2 ++ (s.data.toList.drop x.1.toNat).flatMap qb = 34 :: s.data.toList.flatMap qb,
    ⟨(0, [34]), _, ⟨by simp, by simp, by simp, rfl, by simp⟩, [], ⟨rfl, rfl, rfl, trivial⟩, ⟨rfl, trivial⟩, rfl⟩, ?_⟩
  rintro ⟨i, l⟩ n ⟨h0, h1, h2, rfl, hr⟩
  simp only at h0 h1 h2 hr
  refine And.intro (fun c => ?_) (fun c => ?_) <;> simp only [decide_eq_true_eq, decide_eq_false_iff_not] at c
  · refine And.intro ⟨h0, c⟩ ?_
    obtain ⟨b, hb, hd⟩ := bt_drop h0 c
    rw [hd, List.flatMap_cons] at hr
    have hq := qb_len b
    rw [hb]
    repeat' first
      | (refine And.intro (fun c => ?_) (fun c => ?_) <;> first | exact absurd c (by decide) | (cases c; done) | (simp only [decide_eq_true_eq, decide_eq_false_iff_not] at c) | skip)
      | refine And.intro (show (_ : Int) ≠ 0 by decide) ?_
      | refine And.intro (show fits _ _ by repeat' constructor) ?_
      | refine Exists.intro _ (And.intro ⟨show 0 + _ ≤ List.length _ from Nat.le_of_eq rfl, rfl⟩ ?_)
      | fail
    all_goals refine Exists.intro (bl l) ?_
    all_goals refine And.intro ⟨(row_all l).1, (row_all l).2, by repeat' constructor, appfit l.length _ (by first | omega | (simp only [List.length_cons, List.length_nil]; omega) | (show l.length + 2 ≤ _; omega) | (show l.length + 1 ≤ _; omega) | (show l.length + 4 ≤ _; omega))⟩ ?_
    all_goals refine ⟨(i + 1, l ++ qb b), _, ⟨by simp; omega, by simp; omega, by simp; omega, rfl, by simpa using hr⟩, by simp; omega, [], ⟨rfl, ?_, congrArg (fun x => AV.p (I x)) (w64 (by omega)).symm, trivial⟩, ⟨?_, trivial⟩, rfl⟩
    all_goals first
      | (have hqb : qb b = [92, b] := by grind [qb])
      | (have hqb : qb b = [b] := by grind [qb])
      | (have hqb : qb b = [92, UInt8.ofNat (48 + b.toNat / 100), UInt8.ofNat (48 + b.toNat / 10 % 10), UInt8.ofNat (48 + b.toNat % 10)] := by grind [qb])
      | fail
    all_goals first
      | exact congrArg (AV.row 0 1 0) (by rw [List.length_append, hqb]; rfl)
      | exact congrArg (Bk.row _ 1) (by rw [bl_app, hqb]; rfl)
      | (refine congrArg (Bk.row _ 1) (by rw [bl_app, hqb]; exact congrArg (bl l ++ ·) (dig b)))
      | fail
  · rw [drop_all (by omega)] at hr
    simp only [List.flatMap_nil, List.append_nil] at hr
    refine And.intro (by repeat' constructor) ?_
    refine Exists.intro _ (And.intro ⟨show 0 + _ ≤ List.length _ from Nat.le_of_eq rfl, rfl⟩ ?_)
    refine Exists.intro (bl l) ?_
    refine And.intro ⟨(row_all l).1, (row_all l).2, by repeat' constructor, appfit l.length _ (by first | omega | (simp only [List.length_cons, List.length_nil]; omega) | (show l.length + 2 ≤ _; omega) | (show l.length + 1 ≤ _; omega) | (show l.length + 4 ≤ _; omega))⟩ ?_
    refine Exists.intro (bl (l ++ [34])) ?_
    refine And.intro (by rw [bl_app]; exact row_all' _ _ (by simp [bl_len])) ?_
    refine Exists.intro (quote s) (And.intro (by rw [hr]; rfl) ?_)
    exact ⟨[], ⟨trivial, rfl⟩, rfl, rfl⟩
end Go.Proofs.Ytgdecbliegelmaa.Z
