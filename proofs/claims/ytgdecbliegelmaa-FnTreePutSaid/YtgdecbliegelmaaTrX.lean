/- TreePut, TreeAt. -/
import Derived.Test.YtgdecbliegelmaaTrW
set_option linter.unusedVariables false
set_option linter.unusedSimpArgs false
namespace Go.Proofs.Ytgdecbliegelmaa.Z
open Go Go.RowKit Go.Proofs.Sy Go.Proofs
set_option maxRecDepth 100000
def noT : Tree := ⟨⟨#[]⟩, ⟨#[]⟩, false, []⟩
theorem sCopy (t : Tree) (hw : wt t ≤ 1099511627776) : FnP Try.prog 97 [t.enc] [t.enc] := by
  have ih : ∀ k, k ∈ t.ks → FnP Try.prog 97 [k.enc] [k.enc] := fun k hk => sCopy k (by have := wt_kid hk; omega)
  have hl := wt_len t
  refine fn_intro Try.func97 rfl rfl rfl ?_
  refine And.intro trivial ?_
  refine ⟨Int, fun i => ([(1, .ptr 0 0), (2, .ptr 1 0), (3, .row 2 4 0 i.toNat), (4, .p (I i))], [.box 53 [.p (S t.nm), .p (S t.tx), .p (B t.lf), .p (.lst (encM t.ks))], .box 53 [.p (S ⟨#[]⟩), .p (S ⟨#[]⟩), .p (B false), .tl []], .row 53 4 (encM (t.ks.take i.toNat))]),
    fun i n => 0 ≤ i ∧ i ≤ t.ks.length ∧ n = (t.ks.length - i).toNat,
    ⟨0, _, ⟨by simp, by simp, rfl⟩, [], ⟨rfl, rfl, rfl, rfl, trivial⟩, ⟨⟨rfl, rfl, rfl, rfl, rfl, trivial⟩, ⟨rfl, rfl, rfl, rfl, rfl, trivial⟩, rfl, trivial⟩, rfl⟩, ?_⟩
  rintro i n ⟨h0, h1, rfl⟩
  have hlen : (t.ks.take i.toNat).length = i.toNat := by rw [List.length_take]; omega
  refine And.intro (fun c => ?_) (fun c => ?_) <;> simp only [decide_eq_true_eq, decide_eq_false_iff_not, encM_len] at c
  · obtain ⟨k, hk, hm, hdr⟩ := drop_cons h0 c
    have hacc : t.ks.take i.toNat ++ [k] = t.ks.take (i + 1).toNat := by
      rw [show (i + 1).toNat = i.toNat + 1 by omega, List.take_add_one, hk]; rfl
    refine And.intro h0 (Exists.intro k.enc (And.intro (encM_get hk) (And.intro rfl ?_)))
    refine callA (ih k hm) ?_
    refine And.intro (show fits _ _ from ⟨⟨rfl, rfl⟩, trivial⟩) ?_
    refine Exists.intro _ (And.intro ⟨show 0 + _ ≤ List.length _ from Nat.le_of_eq rfl, rfl⟩ ?_)
    refine Exists.intro (encM (t.ks.take i.toNat)) ?_
    have hra := row_allT (t.ks.take i.toNat)
    rw [hlen] at hra
    refine And.intro ⟨hra.1, hra.2, ⟨⟨rfl, rfl⟩, trivial⟩, appfitU i.toNat 1 (by omega)⟩ ?_
    refine ⟨i + 1, _, ⟨by omega, by omega, rfl⟩, by omega, [], ⟨rfl, rfl, ?_, congrArg (fun x => AV.p (I x)) (w64 (by omega)).symm, trivial⟩, ⟨⟨rfl, rfl, rfl, rfl, rfl, trivial⟩, ⟨rfl, rfl, rfl, rfl, rfl, trivial⟩, ?_, trivial⟩, rfl⟩
    · exact congrArg (AV.row 2 4 0) (by show (i + 1).toNat = i.toNat + 1; omega)
    · exact congrArg (Bk.row _ 4) (by rw [← hacc, encM_app, encM_one]; rfl)
  · have hi : i.toNat = t.ks.length := by omega
    refine .inl (Exists.intro (encM t.ks) (And.intro ?_ ?_))
    · rw [hi, List.take_length]; exact row_allT t.ks
    · exact ⟨[], ⟨trivial, rfl⟩, rfl, rfl⟩
termination_by SizeOf.sizeOf t
decreasing_by exact kid_lt hk
theorem sLeads (t : Tree) (p : List Int) (hp : p.length ≤ 1099511627776) (hw : wt t ≤ 1099511627776) : FnP Try.prog 95 [t.enc, .lst (il p)] [B (atP t p).isSome] := by
  refine fn_intro Try.func95 rfl rfl rfl ?_
  refine ⟨Int × Tree, fun x => ([(1, .p (.lst (il p))), (2, .ptr 0 0), (5, .p (I x.1))], [.box 53 [.p (S x.2.nm), .p (S x.2.tx), .p (B x.2.lf), .p (.lst (encM x.2.ks))]]),
    fun x n => 0 ≤ x.1 ∧ x.1 ≤ p.length ∧ n = (p.length - x.1).toNat ∧ wt x.2 ≤ 1099511627776 ∧ atP x.2 (p.drop x.1.toNat) = atP t p,
    ⟨(0, t), _, ⟨by simp, by simp, rfl, hw, by simp⟩, [], ⟨rfl, rfl, rfl, trivial⟩, ⟨⟨rfl, rfl, rfl, rfl, rfl, trivial⟩, trivial⟩, rfl⟩, ?_⟩
  rintro ⟨i, s⟩ n ⟨h0, h1, rfl, h2, hr⟩
  simp only at h0 h1 h2 hr
  have hwl := wt_len s
  have hlen : (encM s.ks).length = s.ks.length := encM_len _
  refine And.intro (fun c => ?_) (fun c => ?_) <;> simp only [decide_eq_true_eq, decide_eq_false_iff_not, il_len] at c
  · obtain ⟨x, hx, hd⟩ := il_get h0 c
    rw [hd, atP] at hr
    refine ⟨[0, 1, 2, 3, 4, 5, 6, 7, 8, 9], [], by decide +kernel, ?_⟩
    refine And.intro h0 (Exists.intro (I x) (And.intro hx (And.intro rfl ?_)))
    refine callA (sBetween x 0 _) ?_
    have hw1 : wr .i64 (((encM s.ks).length : Int) - 1) = (s.ks.length : Int) - 1 := (w64 (by omega)).trans (by omega)
    refine And.intro (fun c2 => ?_) (fun c2 => ?_)
    · have c3 : (decide (0 ≤ x) && decide (x ≤ wr .i64 (((encM s.ks).length : Int) - 1))) = false := (Bool.not_eq_true' _).mp c2
      rw [hw1] at c3
      have hn : atP t p = none := by
        rw [← hr]
        by_cases hx0 : 0 ≤ x
        · rw [if_pos hx0, List.getElem?_eq_none (by simp [hx0] at c3; omega)]
        · rw [if_neg hx0]
      exact ⟨[], ⟨trivial, rfl⟩, congrArg (fun x => [AV.p (B x)]) (by rw [hn]; rfl), rfl⟩
    · have c3 : (decide (0 ≤ x) && decide (x ≤ wr .i64 (((encM s.ks).length : Int) - 1))) = true := (Bool.not_eq_false' _).mp c2
      rw [hw1] at c3
      simp only [Bool.and_eq_true, decide_eq_true_eq] at c3
      obtain ⟨k, hk, hm, _⟩ := drop_cons (l := s.ks) (i := x) c3.1 (by omega)
      have hwk := wt_kid hm
      rw [if_pos c3.1, hk] at hr
      refine ⟨[0, 1, 2, 3, 4, 5, 6, 7, 1008], [], by decide +kernel, ?_⟩
      refine And.intro h0 (Exists.intro (I x) (And.intro hx (And.intro rfl ?_)))
      refine And.intro c3.1 (Exists.intro k.enc (And.intro (encM_get hk) (And.intro rfl ?_)))
      exact ⟨(i + 1, k), _, ⟨by simp; omega, by simp; omega, rfl, by simp; omega, hr⟩, by simp; omega, [], ⟨rfl, rfl, congrArg (fun x => AV.p (I x)) (w64 (by omega)).symm, trivial⟩, ⟨⟨rfl, rfl, rfl, rfl, rfl, trivial⟩, trivial⟩, rfl⟩
  · rw [drop_end (l := p) (i := i) (by omega), atP] at hr
    exact ⟨[], ⟨trivial, rfl⟩, congrArg (fun x => [AV.p (B x)]) (by rw [← hr]; rfl), rfl⟩
def putR (t : Tree) (p : List Int) (u : Tree) : Tree × Int :=
  if okT t = false ∨ okT u = false then (noT, 1) else if (atP t p).isSome = false then (noT, 4) else if okT (putP t p u) = false then (noT, 3) else (putP t p u, 0)
theorem sTreePut (t u : Tree) (p : List Int) (hp : p.length ≤ 1099511627776) (hw : wt t ≤ 549755813888) (hu : wt u ≤ 549755813888) : FnP Try.prog 54 [t.enc, .lst (il p), u.enc] [(putR t p u).1.enc, I (putR t p u).2] := by
  have hwp := wt_put p t u
  refine fn_intro Try.func54 rfl rfl rfl ?_
  refine callA (sTreeOK t (by omega)) ?_
  cases ht : okT t with
  | false => 
    repeat' first | (refine And.intro (fun c => ?_) (fun c => ?_) <;> first | exact absurd c (by decide) | (cases c; done) | (simp only [decide_eq_true_eq, decide_eq_false_iff_not] at c) | skip) | fail
    exact .inl ⟨[], ⟨trivial, rfl⟩, by unfold putR; rw [if_pos (.inl ht)]; rfl, rfl⟩
  | true =>
    repeat' first | (refine And.intro (fun c => ?_) (fun c => ?_) <;> first | exact absurd c (by decide) | (cases c; done) | (simp only [decide_eq_true_eq, decide_eq_false_iff_not] at c) | skip) | fail
    refine callA (sTreeOK u (by omega)) ?_
    cases hu2 : okT u with
    | false =>
      repeat' first | (refine And.intro (fun c => ?_) (fun c => ?_) <;> first | exact absurd c (by decide) | (cases c; done) | (simp only [decide_eq_true_eq, decide_eq_false_iff_not] at c) | skip) | fail
      exact .inl ⟨[], ⟨trivial, rfl⟩, by unfold putR; rw [if_pos (.inr hu2)]; rfl, rfl⟩
    | true =>
      repeat' first | (refine And.intro (fun c => ?_) (fun c => ?_) <;> first | exact absurd c (by decide) | (cases c; done) | (simp only [decide_eq_true_eq, decide_eq_false_iff_not] at c) | skip) | fail
      have hno : ¬ (okT t = false ∨ okT u = false) := by rw [ht, hu2]; simp
      refine callA (sLeads t p hp (by omega)) ?_
      cases ha : (atP t p).isSome with
      | false =>
        repeat' first | (refine And.intro (fun c => ?_) (fun c => ?_) <;> first | exact absurd c (by decide) | (cases c; done) | (simp only [decide_eq_true_eq, decide_eq_false_iff_not] at c) | skip) | fail
        exact .inl ⟨[], ⟨trivial, rfl⟩, by unfold putR; rw [if_neg hno, if_pos ha]; rfl, rfl⟩
      | true =>
        repeat' first | (refine And.intro (fun c => ?_) (fun c => ?_) <;> first | exact absurd c (by decide) | (cases c; done) | (simp only [decide_eq_true_eq, decide_eq_false_iff_not] at c) | skip) | fail
        have hna : ¬ (atP t p).isSome = false := by rw [ha]; simp
        refine callA (sPut p hp t u ha (by omega)) ?_
        refine callA (sTreeOK (putP t p u) (by omega)) ?_
        cases ho : okT (putP t p u) with
        | false =>
          repeat' first | (refine And.intro (fun c => ?_) (fun c => ?_) <;> first | exact absurd c (by decide) | (cases c; done) | (simp only [decide_eq_true_eq, decide_eq_false_iff_not] at c) | skip) | fail
          exact .inl ⟨[], ⟨trivial, rfl⟩, by unfold putR; rw [if_neg hno, if_neg hna, if_pos ho]; rfl, rfl⟩
        | true =>
          repeat' first | (refine And.intro (fun c => ?_) (fun c => ?_) <;> first | exact absurd c (by decide) | (cases c; done) | (simp only [decide_eq_true_eq, decide_eq_false_iff_not] at c) | skip) | fail
          have hnp : ¬ okT (putP t p u) = false := by rw [ho]; simp
          refine callA (sCopy (putP t p u) (by omega)) ?_
          exact ⟨[], ⟨trivial, rfl⟩, by unfold putR; rw [if_neg hno, if_neg hna, if_neg hnp]; rfl, rfl⟩
theorem iTreePut (t u : Tree) (p : List Int) (hp : p.length ≤ 1099511627776) (hw : wt t ≤ 549755813888) (hu : wt u ≤ 549755813888) : FnP Try.prog 55 [t.enc, .lst (il p), u.enc] [(putR t p u).1.enc, I (putR t p u).2] := by
  have hwp := wt_put p t u
  refine fn_intro Try.func55 rfl rfl rfl ?_
  refine callA (iTreeOK t (by omega)) ?_
  cases ht : okT t with
  | false => 
    repeat' first | (refine And.intro (fun c => ?_) (fun c => ?_) <;> first | exact absurd c (by decide) | (cases c; done) | (simp only [decide_eq_true_eq, decide_eq_false_iff_not] at c) | skip) | fail
    exact .inl ⟨[], ⟨trivial, rfl⟩, by unfold putR; rw [if_pos (.inl ht)]; rfl, rfl⟩
  | true =>
    repeat' first | (refine And.intro (fun c => ?_) (fun c => ?_) <;> first | exact absurd c (by decide) | (cases c; done) | (simp only [decide_eq_true_eq, decide_eq_false_iff_not] at c) | skip) | fail
    refine callA (iTreeOK u (by omega)) ?_
    cases hu2 : okT u with
    | false =>
      repeat' first | (refine And.intro (fun c => ?_) (fun c => ?_) <;> first | exact absurd c (by decide) | (cases c; done) | (simp only [decide_eq_true_eq, decide_eq_false_iff_not] at c) | skip) | fail
      exact .inl ⟨[], ⟨trivial, rfl⟩, by unfold putR; rw [if_pos (.inr hu2)]; rfl, rfl⟩
    | true =>
      repeat' first | (refine And.intro (fun c => ?_) (fun c => ?_) <;> first | exact absurd c (by decide) | (cases c; done) | (simp only [decide_eq_true_eq, decide_eq_false_iff_not] at c) | skip) | fail
      have hno : ¬ (okT t = false ∨ okT u = false) := by rw [ht, hu2]; simp
      have hat := iAt t p hp (by omega)
      cases hav : atP t p with
      | none =>
        have ha : (atP t p).isSome = false := by rw [hav]; rfl
        rw [hav] at hat
        refine callA hat ?_
        repeat' first | (refine And.intro (fun c => ?_) (fun c => ?_) <;> first | exact absurd c (by decide) | (cases c; done) | (simp only [decide_eq_true_eq, decide_eq_false_iff_not] at c) | skip) | fail
        exact .inl ⟨[], ⟨trivial, rfl⟩, by unfold putR; rw [if_neg hno, if_pos ha]; rfl, rfl⟩
      | some k0 =>
        have ha : (atP t p).isSome = true := by rw [hav]; rfl
        rw [hav] at hat
        refine callA hat ?_
        repeat' first | (refine And.intro (fun c => ?_) (fun c => ?_) <;> first | exact absurd c (by decide) | (cases c; done) | (simp only [decide_eq_true_eq, decide_eq_false_iff_not] at c) | skip) | fail
        have hna : ¬ (atP t p).isSome = false := by rw [ha]; simp
        refine callA (iPut p hp t u ha (by omega) (by omega)) ?_
        refine callA (iTreeOK (putP t p u) (by omega)) ?_
        cases ho : okT (putP t p u) with
        | false =>
          repeat' first | (refine And.intro (fun c => ?_) (fun c => ?_) <;> first | exact absurd c (by decide) | (cases c; done) | (simp only [decide_eq_true_eq, decide_eq_false_iff_not] at c) | skip) | fail
          exact .inl ⟨[], ⟨trivial, rfl⟩, by unfold putR; rw [if_neg hno, if_neg hna, if_pos ho]; rfl, rfl⟩
        | true =>
          repeat' first | (refine And.intro (fun c => ?_) (fun c => ?_) <;> first | exact absurd c (by decide) | (cases c; done) | (simp only [decide_eq_true_eq, decide_eq_false_iff_not] at c) | skip) | fail
          have hnp : ¬ okT (putP t p u) = false := by rw [ho]; simp
          exact ⟨[], ⟨trivial, rfl⟩, by unfold putR; rw [if_neg hno, if_neg hna, if_neg hnp]; rfl, rfl⟩
def getR (t : Tree) (p : List Int) : Tree × Int :=
  if okT t = false then (noT, 1) else match atP t p with
    | some k => (k, 0)
    | none => (noT, 4)
theorem wt_at : ∀ (p : List Int) (t k : Tree), atP t p = some k → wt k ≤ wt t
  | [], t, k, h => by simp only [atP] at h; cases h; exact Nat.le_refl _
  | i :: p, t, k, h => by
    obtain ⟨_, q, _, hm, he, _⟩ := atP_cons (p := p) (by rw [h]; rfl)
    have h1 := wt_at p q k (by rw [← he]; exact h)
    have h2 := wt_kid hm
    omega
theorem iTreeAt (t : Tree) (p : List Int) (hp : p.length ≤ 1099511627776) (hw : wt t ≤ 1099511627776) : FnP Try.prog 57 [t.enc, .lst (il p)] [(getR t p).1.enc, I (getR t p).2] := by
  refine fn_intro Try.func57 rfl rfl rfl ?_
  refine callA (iTreeOK t hw) ?_
  cases ht : okT t with
  | false => 
    repeat' first | (refine And.intro (fun c => ?_) (fun c => ?_) <;> first | exact absurd c (by decide) | (cases c; done) | (simp only [decide_eq_true_eq, decide_eq_false_iff_not] at c) | skip) | fail
    exact .inl ⟨[], ⟨trivial, rfl⟩, by unfold getR; rw [if_pos ht]; rfl, rfl⟩
  | true =>
    repeat' first | (refine And.intro (fun c => ?_) (fun c => ?_) <;> first | exact absurd c (by decide) | (cases c; done) | (simp only [decide_eq_true_eq, decide_eq_false_iff_not] at c) | skip) | fail
    have hno : ¬ okT t = false := by rw [ht]; simp
    have hat := iAt t p hp hw
    cases ha : atP t p with
    | none =>
      rw [ha] at hat
      refine callA hat ?_
      repeat' first | (refine And.intro (fun c => ?_) (fun c => ?_) <;> first | exact absurd c (by decide) | (cases c; done) | (simp only [decide_eq_true_eq, decide_eq_false_iff_not] at c) | skip) | fail
      exact .inl ⟨[], ⟨trivial, rfl⟩, by unfold getR; rw [if_neg hno, ha]; rfl, rfl⟩
    | some k =>
      have hk := wt_at p t k ha
      rw [ha] at hat
      refine callA hat ?_
      repeat' first | (refine And.intro (fun c => ?_) (fun c => ?_) <;> first | exact absurd c (by decide) | (cases c; done) | (simp only [decide_eq_true_eq, decide_eq_false_iff_not] at c) | skip) | fail
      refine callA (iCopy k (by omega)) ?_
      exact ⟨[], ⟨trivial, rfl⟩, by unfold getR; rw [if_neg hno, ha]; rfl, rfl⟩
end Go.Proofs.Ytgdecbliegelmaa.Z
