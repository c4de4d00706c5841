/- Scopes: which are right. -/
import Derived.Test.YtegpjjnedbbpjaaTnD
set_option linter.unusedVariables false
set_option linter.unusedSimpArgs false
namespace Go.Proofs.Ytegpjjnedbbpjaa.Z
open Go Go.RowKit Go.Proofs.Sy Go.Proofs
set_option maxRecDepth 100000
def okE (n : Int) (e : Int × Int × Int) : Bool := decide (0 ≤ e.1) && decide (e.1 < n) && decide (0 ≤ e.2.1) && decide (e.2.1 < n) && (e.2.2 == 1 || e.2.2 == 2)
def okSp (n : Int) (s : Int × ByteArray) : Bool := decide (0 ≤ s.1) && decide (s.1 < n) && nameOK s.2
def sgOK (s : Sc) : Bool := decide (1 ≤ s.n) && decide (s.n ≤ 60) && decide (s.es.length ≤ 120) && decide (s.ds.length ≤ 120) && decide (s.rs.length ≤ 120) && s.es.all (okE s.n) && s.ds.all (okSp s.n) && s.rs.all (okSp s.n)
def sgE (s : Sc) : PV := .agg [I s.n, .lst (s.es.map eE), .lst (s.ds.map eS), .lst (s.rs.map eS)]
theorem drop_map {α : Type} (e : α → PV) {l : List α} {i : Int} (h0 : 0 ≤ i) (h1 : i < l.length) : ∃ x, (l.map e)[i.toNat]? = some (e x) ∧ x ∈ l ∧ l.drop i.toNat = x :: l.drop (i + 1).toNat := by
  obtain ⟨x, hx, hm, hd⟩ := drop_cons h0 h1
  exact ⟨x, by rw [List.getElem?_map, hx]; rfl, hm, hd⟩
theorem sSpots (l : List (Int × ByteArray)) (n : Int) (hn : -1000000000000 ≤ n ∧ n ≤ 1000000000000) : FnP Try.prog 178 [.lst (l.map eS), I n] [B (decide (l.length ≤ 120) && l.all (okSp n))] := by
  have hl : (l.map eS).length = l.length := List.length_map ..
  have hw1 : wr .i64 (n - 1) = n - 1 := w64 (by omega)
  refine fn_intro Try.func178 rfl rfl rfl ?_
  repeat' first | (refine And.intro (fun c => ?_) (fun c => ?_) <;> first | exact absurd c (by decide) | (cases c; done) | (simp only [decide_eq_true_eq, decide_eq_false_iff_not] at c) | skip) | fail
  · exact ⟨[], ⟨trivial, rfl⟩, congrArg (fun x => [AV.p (B x)]) (by rw [hl] at c; rw [decide_eq_false (by omega)]; rfl), rfl⟩
  rw [hl] at c
  rw [decide_eq_true (by omega), Bool.true_and]
  refine ⟨Int, fun i => ([(0, .p (.lst (l.map eS))), (1, .p (I n)), (5, .p (I i))], []), fun i m => 0 ≤ i ∧ i ≤ l.length ∧ m = (l.length - i).toNat ∧ (l.drop i.toNat).all (okSp n) = l.all (okSp n),
    ⟨0, _, ⟨by omega, by omega, rfl, rfl⟩, [], ⟨rfl, rfl, rfl, trivial⟩, trivial, rfl⟩, ?_⟩
  rintro i m ⟨h0, h1, rfl, hr⟩
  refine And.intro (fun ci => ?_) (fun ci => ?_) <;> simp only [decide_eq_true_eq, decide_eq_false_iff_not, hl] at ci
  · obtain ⟨x, hx, hm, hd⟩ := drop_map eS h0 ci
    rw [hd, List.all_cons] at hr
    have hok : okSp n x = (decide (0 ≤ x.1) && decide (x.1 ≤ wr .i64 (n - 1)) && nameOK x.2) := by rw [hw1, okSp]; congr 2; grind
    rw [hok] at hr
    refine And.intro h0 (Exists.intro (eS x) (And.intro hx (And.intro rfl ?_)))
    refine callA (sBetween x.1 0 _) ?_
    repeat' first
      | (refine And.intro (fun c => ?_) (fun c => ?_) <;> first | exact absurd c (by decide) | (cases c; done) | (simp only [decide_eq_true_eq, decide_eq_false_iff_not] at c) | skip)
      | refine And.intro h0 (Exists.intro (eS x) (And.intro hx (And.intro rfl ?_)))
      | refine callA (sName _) ?_
      | fail
    all_goals first
      | exact ⟨i + 1, _, ⟨by omega, by omega, rfl, by grind⟩, by omega, [], ⟨rfl, rfl, congrArg (fun x => AV.p (I x)) (w64 (by omega)).symm, trivial⟩, trivial, rfl⟩
      | exact ⟨[], ⟨trivial, rfl⟩, congrArg (fun x => [AV.p (B x)]) (by grind), rfl⟩
      | fail
  · rw [drop_end (l := l) (i := i) (by omega)] at hr
    exact ⟨[], ⟨trivial, rfl⟩, congrArg (fun x => [AV.p (B x)]) (by rw [← hr]; rfl), rfl⟩
def sgB (s : Sc) : Sto := [.box 65 [.p (I s.n), .p (.lst (s.es.map eE)), .p (.lst (s.ds.map eS)), .p (.lst (s.rs.map eS))]]
theorem iIn (s : Sc) (k : Int) : Sy.Fn Try.prog 115 [.p (I k), .ptr 0 0] (sgB s) (fun rs τ' => rs = [.p (B (decide (0 ≤ k) && decide (k < s.n)))] ∧ τ' = sgB s) := by
  refine fn_intro Try.func115 rfl rfl rfl ?_
  repeat' first | (refine And.intro (fun c => ?_) (fun c => ?_) <;> first | exact absurd c (by decide) | (cases c; done) | (simp only [decide_eq_true_eq, decide_eq_false_iff_not] at c) | skip) | fail
  all_goals exact ⟨sgB s, ⟨⟨⟨rfl, rfl, rfl, rfl, rfl, trivial⟩, trivial⟩, rfl⟩, congrArg (fun x => [AV.p (B x)]) (by grind), rfl⟩
theorem sSgOK (s : Sc) (hn : -1000000000000 ≤ s.n ∧ s.n ≤ 1000000000000) : FnP Try.prog 99 [sgE s] [B (sgOK s)] := by
  have hle : (s.es.map eE).length = s.es.length := List.length_map ..
  have hw1 : wr .i64 (s.n - 1) = s.n - 1 := w64 (by omega)
  refine fn_intro Try.func99 rfl rfl rfl ?_
  refine callA (sBetween s.n 1 60) ?_
  repeat' first
    | (refine And.intro (fun c => ?_) (fun c => ?_) <;> first | exact absurd c (by decide) | (cases c; done) | (simp only [decide_eq_true_eq, decide_eq_false_iff_not] at c) | skip)
    | refine callA (sSpots s.ds s.n hn) ?_
    | refine callA (sSpots s.rs s.n hn) ?_
    | fail
  all_goals first
    | exact ⟨[], ⟨trivial, rfl⟩, congrArg (fun x => [AV.p (B x)]) (by rw [sgOK]; grind), rfl⟩
    | skip
  have hg : sgOK s = s.es.all (okE s.n) := by rw [sgOK]; grind
  rw [hg]
  refine ⟨Int, fun i => ([(1, .ptr 0 0), (3, .p (I i))], sgB s), fun i m => 0 ≤ i ∧ i ≤ s.es.length ∧ m = (s.es.length - i).toNat ∧ (s.es.drop i.toNat).all (okE s.n) = s.es.all (okE s.n),
    ⟨0, _, ⟨by omega, by omega, rfl, rfl⟩, [], ⟨rfl, rfl, trivial⟩, ⟨⟨rfl, rfl, rfl, rfl, rfl, trivial⟩, trivial⟩, rfl⟩, ?_⟩
  rintro i m ⟨h0, h1, rfl, hr⟩
  refine And.intro (fun ci => ?_) (fun ci => ?_) <;> simp only [decide_eq_true_eq, decide_eq_false_iff_not, hle] at ci
  · obtain ⟨x, hx, hm, hd⟩ := drop_map eE h0 ci
    rw [hd, List.all_cons] at hr
    have hok : okE s.n x = (decide (0 ≤ x.1) && decide (x.1 ≤ wr .i64 (s.n - 1)) && (decide (0 ≤ x.2.1) && decide (x.2.1 ≤ wr .i64 (s.n - 1))) && (decide (1 ≤ x.2.2) && decide (x.2.2 ≤ 2))) := by rw [hw1, okE]; grind
    rw [hok] at hr
    refine And.intro h0 (Exists.intro (eE x) (And.intro hx (And.intro rfl ?_)))
    refine callA (sBetween x.1 0 _) ?_
    repeat' first
      | (refine And.intro (fun c => ?_) (fun c => ?_) <;> first | exact absurd c (by decide) | (cases c; done) | (simp only [decide_eq_true_eq, decide_eq_false_iff_not] at c) | skip)
      | refine callA (sBetween x.2.1 0 _) ?_
      | refine callA (sBetween x.2.2 1 2) ?_
      | fail
    all_goals first
      | exact ⟨i + 1, _, ⟨by omega, by omega, rfl, by grind⟩, by omega, [], ⟨rfl, congrArg (fun x => AV.p (I x)) (w64 (by omega)).symm, trivial⟩, ⟨⟨rfl, rfl, rfl, rfl, rfl, trivial⟩, trivial⟩, rfl⟩
      | exact ⟨[], ⟨trivial, rfl⟩, congrArg (fun x => [AV.p (B x)]) (by grind), rfl⟩
      | fail
  · rw [drop_end (l := s.es) (i := i) (by omega)] at hr
    exact ⟨[], ⟨trivial, rfl⟩, congrArg (fun x => [AV.p (B x)]) (by rw [← hr]; rfl), rfl⟩
theorem iNameA (s : ByteArray) : FnP Try.prog 80 [S s] [B (nameOK s)] := by
  by_cases h : s.size ≤ 1099511627776
  · exact iName s h
  · refine fn_intro Try.func80 rfl rfl rfl ?_
    repeat' first
      | (exfalso; omega)
      | (refine And.intro (fun c => ?_) (fun c => ?_) <;> first | exact absurd c (by decide) | (cases c; done) | (simp only [decide_eq_true_eq, decide_eq_false_iff_not] at c) | skip)
      | fail
    all_goals exact ⟨[], ⟨trivial, rfl⟩, congrArg (fun x => [AV.p (B x)]) (by rw [nameOK]; grind), rfl⟩
def sgB2 (s : Sc) : Sto := [.box 65 [.p (I s.n), .p (.lst (s.es.map eE)), .p (.lst (s.ds.map eS)), .p (.lst (s.rs.map eS))], .row 63 1 [.lst (s.ds.map eS), .lst (s.rs.map eS)]]
theorem iSgOK (s : Sc) (hn : -1000000000000 ≤ s.n ∧ s.n ≤ 1000000000000) : FnP Try.prog 45 [sgE s] [B (sgOK s)] := by
  have hle : (s.es.map eE).length = s.es.length := List.length_map ..
  have hld : (s.ds.map eS).length = s.ds.length := List.length_map ..
  have hlr : (s.rs.map eS).length = s.rs.length := List.length_map ..
  refine fn_intro Try.func45 rfl rfl rfl ?_
  repeat' first | (refine And.intro (fun c => ?_) (fun c => ?_) <;> first | exact absurd c (by decide) | (cases c; done) | (simp only [decide_eq_true_eq, decide_eq_false_iff_not] at c) | skip) | fail
  all_goals first
    | exact ⟨[], ⟨trivial, rfl⟩, congrArg (fun x => [AV.p (B x)]) (by rw [sgOK]; grind), rfl⟩
    | skip
  have hg : sgOK s = (s.es.all (okE s.n) && (s.ds.all (okSp s.n) && s.rs.all (okSp s.n))) := by rw [sgOK]; grind
  have hb1 : s.es.length ≤ 120 := by grind
  have hb2 : s.ds.length ≤ 120 := by grind
  have hb3 : s.rs.length ≤ 120 := by grind
  rw [hg]
  refine ⟨Int, fun i => ([(1, .ptr 0 0), (3, .fn 115 [.ptr 0 0]), (38, .p (.lst (s.es.map eE))), (39, .p (I s.es.length)), (40, .p (I i))], sgB s),
    fun i m => 0 ≤ i ∧ i ≤ s.es.length ∧ m = (s.es.length - i).toNat ∧ (s.es.drop i.toNat).all (okE s.n) = s.es.all (okE s.n),
    ⟨0, _, ⟨by omega, by omega, rfl, rfl⟩, [], ⟨rfl, rfl, rfl, congrArg (fun x : Nat => AV.p (I x)) hle.symm, rfl, trivial⟩, ⟨⟨rfl, rfl, rfl, rfl, rfl, trivial⟩, trivial⟩, rfl⟩, ?_⟩
  rintro i m ⟨h0, h1, rfl, hr⟩
  refine And.intro (fun ci => ?_) (fun ci => ?_) <;> simp only [decide_eq_true_eq, decide_eq_false_iff_not] at ci
  · obtain ⟨x, hx, hm, hd⟩ := drop_map eE h0 ci
    rw [hd, List.all_cons, okE] at hr
    refine And.intro h0 (Exists.intro (eE x) (And.intro hx (And.intro rfl ?_)))
    repeat' first
      | (refine And.intro (fun c => ?_) (fun c => ?_) <;> first | exact absurd c (by decide) | (cases c; done) | (simp only [decide_eq_true_eq, decide_eq_false_iff_not] at c) | skip)
      | (refine callG [0] (iIn s x.1) rfl (fun K hk => hk) ?_; rintro rs τ' hl' ⟨rfl, rfl⟩)
      | (refine callG [0] (iIn s x.2.1) rfl (fun K hk => hk) ?_; rintro rs τ' hl' ⟨rfl, rfl⟩)
      | fail
    all_goals first
      | exact ⟨i + 1, _, ⟨by omega, by omega, rfl, by grind⟩, by omega, [], ⟨rfl, rfl, rfl, rfl, congrArg (fun x => AV.p (I x)) (w64 (by omega)).symm, trivial⟩, ⟨⟨rfl, rfl, rfl, rfl, rfl, trivial⟩, trivial⟩, rfl⟩
      | exact ⟨[], ⟨trivial, rfl⟩, congrArg (fun x => [AV.p (B x)]) (by grind), rfl⟩
      | fail
  · rw [drop_end (l := s.es) (i := i) (by omega)] at hr
    rw [← hr, List.all_nil, Bool.true_and]
    clear hr
    refine And.intro (show fits _ _ from ⟨⟨rfl, rfl⟩, ⟨rfl, rfl⟩, trivial⟩) ?_
    refine ⟨Int, fun i => ([(1, .ptr 0 0), (3, .fn 115 [.ptr 0 0]), (71, .row 1 1 0 2), (72, .p (I 2)), (73, .p (I i))], sgB2 s),
      fun i m => 0 ≤ i ∧ i ≤ 2 ∧ m = (2 - i).toNat ∧ (([s.ds, s.rs].drop i.toNat).all fun l => l.all (okSp s.n)) = (s.ds.all (okSp s.n) && s.rs.all (okSp s.n)),
      ⟨0, _, ⟨by omega, by omega, rfl, by simp⟩, [], ⟨rfl, rfl, rfl, rfl, rfl, trivial⟩, ⟨⟨rfl, rfl, rfl, rfl, rfl, trivial⟩, rfl, trivial⟩, rfl⟩, ?_⟩
    rintro i m ⟨h0, h1, rfl, hr⟩
    refine And.intro (fun ci => ?_) (fun ci => ?_) <;> simp only [decide_eq_true_eq, decide_eq_false_iff_not] at ci
    · obtain rfl | rfl : i = 0 ∨ i = 1 := by omega
      · refine And.intro (show 0 ≤ (0 : Int) ∧ (0 : Int) < ((2 : Nat) : Int) by omega) (Exists.intro (.lst (s.ds.map eS)) (And.intro rfl ?_))
        refine ⟨Int, fun j => ([(1, .ptr 0 0), (3, .fn 115 [.ptr 0 0]), (71, .row 1 1 0 2), (72, .p (I 2)), (73, .p (I 0)), (77, .p (.lst (s.ds.map eS))), (78, .p (I s.ds.length)), (79, .p (I j))], sgB2 s),
          fun j m => 0 ≤ j ∧ j ≤ s.ds.length ∧ m = (s.ds.length - j).toNat ∧ ((s.ds.drop j.toNat).all (okSp s.n) && s.rs.all (okSp s.n)) = (s.ds.all (okSp s.n) && s.rs.all (okSp s.n)),
          ⟨0, _, ⟨by omega, by omega, rfl, by first | (simp; done) | (simp; exact hr) | (simp at hr ⊢; exact hr)⟩, [], ⟨rfl, rfl, rfl, rfl, rfl, rfl, congrArg (fun x : Nat => AV.p (I x)) hld.symm, rfl, trivial⟩, ⟨⟨rfl, rfl, rfl, rfl, rfl, trivial⟩, rfl, trivial⟩, rfl⟩, ?_⟩
        rintro j m ⟨j0, j1, rfl, hq⟩
        refine And.intro (fun cj => ?_) (fun cj => ?_) <;> simp only [decide_eq_true_eq, decide_eq_false_iff_not] at cj
        · obtain ⟨x, hx, hm, hd⟩ := drop_map eS j0 cj
          rw [hd, List.all_cons, okSp] at hq
          refine And.intro j0 (Exists.intro (eS x) (And.intro hx (And.intro rfl ?_)))
          refine callG [0] (iIn s x.1) rfl (fun K hk => hk) ?_
          rintro rs τ' hl' ⟨rfl, rfl⟩
          repeat' first
            | (refine And.intro (fun c => ?_) (fun c => ?_) <;> first | exact absurd c (by decide) | (cases c; done) | (simp only [decide_eq_true_eq, decide_eq_false_iff_not] at c) | skip)
            | refine callA (iNameA x.2) ?_
            | fail
          all_goals first
            | exact ⟨j + 1, _, ⟨by omega, by omega, rfl, by grind⟩, by omega, [], ⟨rfl, rfl, rfl, rfl, rfl, rfl, rfl, congrArg (fun x => AV.p (I x)) (w64 (by omega)).symm, trivial⟩, ⟨⟨rfl, rfl, rfl, rfl, rfl, trivial⟩, rfl, trivial⟩, rfl⟩
            | exact ⟨[], ⟨trivial, rfl⟩, congrArg (fun x => [AV.p (B x)]) (by grind), rfl⟩
            | fail
        · rw [drop_end (l := s.ds) (i := j) (by omega), List.all_nil, Bool.true_and] at hq
          exact ⟨0 + 1, _, ⟨by omega, by omega, rfl, by first | (simp; done) | (simp; exact hq) | (simp at hq ⊢; exact hq)⟩, by omega, [], ⟨rfl, rfl, rfl, rfl, congrArg (fun x => AV.p (I x)) (w64 (by omega)).symm, trivial⟩, ⟨⟨rfl, rfl, rfl, rfl, rfl, trivial⟩, rfl, trivial⟩, rfl⟩
      · refine And.intro (show 0 ≤ (1 : Int) ∧ (1 : Int) < ((2 : Nat) : Int) by omega) (Exists.intro (.lst (s.rs.map eS)) (And.intro rfl ?_))
        refine ⟨Int, fun j => ([(1, .ptr 0 0), (3, .fn 115 [.ptr 0 0]), (71, .row 1 1 0 2), (72, .p (I 2)), (73, .p (I 1)), (77, .p (.lst (s.rs.map eS))), (78, .p (I s.rs.length)), (79, .p (I j))], sgB2 s),
          fun j m => 0 ≤ j ∧ j ≤ s.rs.length ∧ m = (s.rs.length - j).toNat ∧ ((s.rs.drop j.toNat).all (okSp s.n) && true) = (s.ds.all (okSp s.n) && s.rs.all (okSp s.n)),
          ⟨0, _, ⟨by omega, by omega, rfl, by first | (simp; done) | (simp; exact hr) | (simp at hr ⊢; exact hr)⟩, [], ⟨rfl, rfl, rfl, rfl, rfl, rfl, congrArg (fun x : Nat => AV.p (I x)) hlr.symm, rfl, trivial⟩, ⟨⟨rfl, rfl, rfl, rfl, rfl, trivial⟩, rfl, trivial⟩, rfl⟩, ?_⟩
        rintro j m ⟨j0, j1, rfl, hq⟩
        refine And.intro (fun cj => ?_) (fun cj => ?_) <;> simp only [decide_eq_true_eq, decide_eq_false_iff_not] at cj
        · obtain ⟨x, hx, hm, hd⟩ := drop_map eS j0 cj
          rw [hd, List.all_cons, okSp] at hq
          refine And.intro j0 (Exists.intro (eS x) (And.intro hx (And.intro rfl ?_)))
          refine callG [0] (iIn s x.1) rfl (fun K hk => hk) ?_
          rintro rs τ' hl' ⟨rfl, rfl⟩
          repeat' first
            | (refine And.intro (fun c => ?_) (fun c => ?_) <;> first | exact absurd c (by decide) | (cases c; done) | (simp only [decide_eq_true_eq, decide_eq_false_iff_not] at c) | skip)
            | refine callA (iNameA x.2) ?_
            | fail
          all_goals first
            | exact ⟨j + 1, _, ⟨by omega, by omega, rfl, by grind⟩, by omega, [], ⟨rfl, rfl, rfl, rfl, rfl, rfl, rfl, congrArg (fun x => AV.p (I x)) (w64 (by omega)).symm, trivial⟩, ⟨⟨rfl, rfl, rfl, rfl, rfl, trivial⟩, rfl, trivial⟩, rfl⟩
            | exact ⟨[], ⟨trivial, rfl⟩, congrArg (fun x => [AV.p (B x)]) (by grind), rfl⟩
            | fail
        · rw [drop_end (l := s.rs) (i := j) (by omega), List.all_nil, Bool.true_and] at hq
          exact ⟨1 + 1, _, ⟨by omega, by omega, rfl, by first | (simp; done) | (simp; exact hq) | (simp at hq ⊢; exact hq)⟩, by omega, [], ⟨rfl, rfl, rfl, rfl, congrArg (fun x => AV.p (I x)) (w64 (by omega)).symm, trivial⟩, ⟨⟨rfl, rfl, rfl, rfl, rfl, trivial⟩, rfl, trivial⟩, rfl⟩
    · obtain rfl : i = 2 := by omega
      exact ⟨[], ⟨trivial, rfl⟩, congrArg (fun x => [AV.p (B x)]) (by rw [← hr]; rfl), rfl⟩
end Go.Proofs.Ytegpjjnedbbpjaa.Z
