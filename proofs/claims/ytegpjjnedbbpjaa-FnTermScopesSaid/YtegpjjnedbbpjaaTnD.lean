/- Terms: their scopes, by the reference. -/
import Derived.Test.YtegpjjnedbbpjaaTnC
set_option linter.unusedVariables false
set_option linter.unusedSimpArgs false
namespace Go.Proofs.Ytegpjjnedbbpjaa.Z
open Go Go.RowKit Go.Proofs.Sy Go.Proofs
set_option maxRecDepth 100000
theorem termL_mem : ∀ {l : List Tree} {k : Tree}, termL l = true → k ∈ l → termF k = true
  | a :: l, k, h, hm => by
    simp only [termL, Bool.and_eq_true] at h
    rcases List.mem_cons.mp hm with rfl | hm
    · exact h.1
    · exact termL_mem h.2 hm
set_option maxHeartbeats 4000000 in
theorem sWalk (t : Tree) (p : List Int) (sc : Int) (s : Sc) (hf : termF t = true) (h0 : 0 ≤ s.n) (hb : s.big + 2 * wt t ≤ 100000000000) (hp : p.length + wt t ≤ 100000000000) :
    Sy.Fn Try.prog 112 [.ptr 0 0, .p t.enc, .p (.lst (il p)), .p (I sc)] (scB 158 s) (fun rs τ' => rs = [] ∧ τ' = scB 158 (walkM t p sc s)) := by
  have ih : ∀ k, k ∈ t.ks → ∀ (p : List Int) (sc : Int) (s : Sc), termF k = true → 0 ≤ s.n → s.big + 2 * wt k ≤ 100000000000 → p.length + wt k ≤ 100000000000 →
    Sy.Fn Try.prog 112 [.ptr 0 0, .p k.enc, .p (.lst (il p)), .p (I sc)] (scB 158 s) (fun rs τ' => rs = [] ∧ τ' = scB 158 (walkM k p sc s)) := fun k hk p sc s f a b c => sWalk k p sc s f a b c
  have hl := wt_len t
  have hww := wt_eq t
  have he : (encM t.ks).length = t.ks.length := encM_len _
  have hes : s.es.length ≤ s.big := by unfold Sc.big; omega
  have hds : s.ds.length ≤ s.big := by unfold Sc.big; omega
  have hrs : s.rs.length ≤ s.big := by unfold Sc.big; omega
  have hdp : s.dp.length ≤ s.big := by unfold Sc.big; omega
  have hrp : s.rp.length ≤ s.big := by unfold Sc.big; omega
  have hnb : s.n ≤ s.big := by unfold Sc.big; omega
  rw [walkM_eq]
  rw [termF_eq] at hf
  refine fn_intro Try.func112 rfl rfl rfl ?_
  refine And.intro (fun c0 => ?_) (fun c0 => ?_)
  · rw [if_pos c0]
    repeat' first | (refine And.intro (fun c => ?_) (fun c => ?_) <;> first | exact absurd c (by decide) | (cases c; done) | (simp only [decide_eq_true_eq, decide_eq_false_iff_not] at c) | skip) | fail
    · rw [if_pos (by assumption)]
      refine ⟨[0, 1, 2, 3, 4, 5, 6, 7, 8, 9, 10, 11, 12, 13, 14, 1015], [3], by decide +kernel, ?_⟩
      refine And.intro (show fits _ _ from ⟨⟨rfl, rfl⟩, trivial⟩) ?_
      refine Exists.intro _ (And.intro ⟨show 0 + _ ≤ List.length _ from Nat.le_of_eq rfl, rfl⟩ ?_)
      refine Exists.intro (s.rs.map eS) ?_
      refine And.intro ⟨(row_allM eS s.rs).1, (row_allM eS s.rs).2, ⟨⟨rfl, rfl⟩, trivial⟩, appfit24 s.rs.length 1 (by omega)⟩ ?_
      refine And.intro (show fits _ _ from ⟨⟨rfl, rfl⟩, trivial⟩) ?_
      refine Exists.intro _ (And.intro ⟨show 0 + _ ≤ List.length _ from Nat.le_of_eq rfl, rfl⟩ ?_)
      refine Exists.intro (s.rp.map eP) ?_
      refine And.intro ⟨(row_allM eP s.rp).1, (row_allM eP s.rp).2, ⟨⟨rfl, rfl⟩, trivial⟩, appfit24 s.rp.length 1 (by omega)⟩ ?_
      exact ⟨scB 158 { s with rs := s.rs ++ [(sc, t.tx)], rp := s.rp ++ [p] }, ⟨⟨(by repeat' first | trivial | rfl | exact congrArg (Bk.row _ _) (map_snoc _ _ _) | exact congrArg (AV.row _ _ _) (len_snoc _ _) | refine And.intro ?_ ?_), (by repeat' first | trivial | rfl | exact congrArg (Bk.row _ _) (map_snoc _ _ _) | exact congrArg (AV.row _ _ _) (len_snoc _ _) | refine And.intro ?_ ?_), (by repeat' first | trivial | rfl | exact congrArg (Bk.row _ _) (map_snoc _ _ _) | exact congrArg (AV.row _ _ _) (len_snoc _ _) | refine And.intro ?_ ?_), (by repeat' first | trivial | rfl | exact congrArg (Bk.row _ _) (map_snoc _ _ _) | exact congrArg (AV.row _ _ _) (len_snoc _ _) | refine And.intro ?_ ?_), (by repeat' first | trivial | rfl | exact congrArg (Bk.row _ _) (map_snoc _ _ _) | exact congrArg (AV.row _ _ _) (len_snoc _ _) | refine And.intro ?_ ?_), (by repeat' first | trivial | rfl | exact congrArg (Bk.row _ _) (map_snoc _ _ _) | exact congrArg (AV.row _ _ _) (len_snoc _ _) | refine And.intro ?_ ?_), trivial⟩, rfl⟩, rfl, rfl⟩
    · rw [if_neg (by assumption)]
      exact ⟨scB 158 s, ⟨⟨(by repeat' first | trivial | rfl | exact congrArg (Bk.row _ _) (map_snoc _ _ _) | exact congrArg (AV.row _ _ _) (len_snoc _ _) | refine And.intro ?_ ?_), (by repeat' first | trivial | rfl | exact congrArg (Bk.row _ _) (map_snoc _ _ _) | exact congrArg (AV.row _ _ _) (len_snoc _ _) | refine And.intro ?_ ?_), (by repeat' first | trivial | rfl | exact congrArg (Bk.row _ _) (map_snoc _ _ _) | exact congrArg (AV.row _ _ _) (len_snoc _ _) | refine And.intro ?_ ?_), (by repeat' first | trivial | rfl | exact congrArg (Bk.row _ _) (map_snoc _ _ _) | exact congrArg (AV.row _ _ _) (len_snoc _ _) | refine And.intro ?_ ?_), (by repeat' first | trivial | rfl | exact congrArg (Bk.row _ _) (map_snoc _ _ _) | exact congrArg (AV.row _ _ _) (len_snoc _ _) | refine And.intro ?_ ?_), (by repeat' first | trivial | rfl | exact congrArg (Bk.row _ _) (map_snoc _ _ _) | exact congrArg (AV.row _ _ _) (len_snoc _ _) | refine And.intro ?_ ?_), trivial⟩, rfl⟩, rfl, rfl⟩
  · rw [if_neg (by rw [c0]; simp)]
    rw [if_neg (by rw [c0]; simp)] at hf
    simp only [Bool.and_eq_true, decide_eq_true_eq] at hf
    obtain ⟨⟨ha0, ha⟩, hf⟩ := hf
    by_cases hbt : t.nm = (⟨#[76, 97, 109]⟩ : ByteArray) ∨ t.nm = (⟨#[76, 101, 116]⟩ : ByteArray)
    · rw [if_pos hbt]
      rw [if_pos hbt] at hf
      rcases hbt with hn | hn
      · have har : (t.ks.length : Int) = 2 := by rw [ha, hn]; rfl
        obtain ⟨a, b, hks⟩ : ∃ a b, t.ks = [a, b] := by
          match h : t.ks, har with
          | [a, b], _ => exact ⟨a, b, rfl⟩
          | [], e => simp at e
          | [_], e => simp at e
          | _ :: _ :: _ :: _, e => simp at e; omega
        have hma : a ∈ t.ks := by rw [hks]; simp
        have hmb : b ∈ t.ks := by rw [hks]; simp
        have hwks : wtL t.ks = wt a + wt b := by rw [hks]; simp only [wtL]; omega
        have hpa := wt_pos a
        have hgl : wr .i64 (((encM t.ks).length : Int) - 1) = 1 := by rw [he]; exact (w64 (by omega)).trans (by omega)
        have hga : (encM t.ks)[(0 : Int).toNat]? = some a.enc := encM_get (by rw [hks]; rfl)
        have hgb : (encM t.ks)[(wr .i64 (((encM t.ks).length : Int) - 1)).toNat]? = some b.enc := by rw [hgl]; exact encM_get (by rw [hks]; rfl)
        have hdn : FnP Try.prog 186 [.lst (il p), I (wr .i64 (((encM t.ks).length : Int) - 1))] [.lst (il (p ++ [1]))] := by rw [hgl]; exact sDown p 1 (by omega)
        have hfs : termF b = true := by rw [hks] at hf; simp only [termB, termL, Bool.and_eq_true] at hf; exact hf.2.1
        have hb2 : Sc.big (⟨s.n + 1, s.es ++ [(s.n, sc, 1)], s.ds ++ [(s.n, a.tx)], s.rs, s.dp ++ [p ++ [0]], s.rp⟩ : Sc) = s.big + 4 := by simp [Sc.big]; omega
        have hfin : walkB (t.ks.length - 1) t.ks 0 p sc s.n ⟨s.n + 1, s.es ++ [(s.n, sc, 1)], s.ds, s.rs, s.dp, s.rp⟩ = walkM b (p ++ [1]) s.n (⟨s.n + 1, s.es ++ [(s.n, sc, 1)], s.ds ++ [(s.n, a.tx)], s.rs, s.dp ++ [p ++ [0]], s.rp⟩ : Sc) := by
          rw [hks]; simp [walkB]
        rw [hfin]
        repeat' first | (exfalso; simp [hn] at c; done) | (refine And.intro (fun c => ?_) (fun c => ?_) <;> first | exact absurd c (by decide) | (cases c; done) | (simp only [decide_eq_true_eq, decide_eq_false_iff_not] at c) | skip) | fail
        refine And.intro (show fits _ _ from ⟨⟨rfl, rfl⟩, trivial⟩) ?_
        refine Exists.intro _ (And.intro ⟨show 0 + _ ≤ List.length _ from Nat.le_of_eq rfl, rfl⟩ ?_)
        refine Exists.intro (s.es.map eE) ?_
        refine And.intro ⟨(row_allM eE s.es).1, (row_allM eE s.es).2, ⟨⟨rfl, rfl⟩, trivial⟩, appfit24 s.es.length 1 (by omega)⟩ ?_
        refine ⟨[0, 1, 2, 3, 4, 5, 6, 7, 8, 9, 10, 11, 12, 13, 14, 15, 16, 17, 1018], [2], by decide +kernel, ?_⟩
        refine And.intro (show 0 ≤ (0 : Int) by omega) (Exists.intro a.enc (And.intro hga (And.intro rfl ?_)))
        refine And.intro (show fits _ _ from ⟨⟨rfl, rfl⟩, trivial⟩) ?_
        refine Exists.intro _ (And.intro ⟨show 0 + _ ≤ List.length _ from Nat.le_of_eq rfl, rfl⟩ ?_)
        refine Exists.intro (s.ds.map eS) ?_
        refine And.intro ⟨(row_allM eS s.ds).1, (row_allM eS s.ds).2, ⟨⟨rfl, rfl⟩, trivial⟩, appfit24 s.ds.length 1 (by omega)⟩ ?_
        refine ⟨[0, 1, 2, 3, 4, 5, 6, 7, 8, 9, 10, 1011], [4], by decide +kernel, ?_⟩
        refine callA (sDown p 0 (by omega)) ?_
        refine And.intro (show fits _ _ from ⟨⟨rfl, rfl⟩, trivial⟩) ?_
        refine Exists.intro _ (And.intro ⟨show 0 + _ ≤ List.length _ from Nat.le_of_eq rfl, rfl⟩ ?_)
        refine Exists.intro (s.dp.map eP) ?_
        refine And.intro ⟨(row_allM eP s.dp).1, (row_allM eP s.dp).2, ⟨⟨rfl, rfl⟩, trivial⟩, appfit24 s.dp.length 1 (by omega)⟩ ?_
        repeat' first | (exfalso; simp [hn] at c; done) | (refine And.intro (fun c => ?_) (fun c => ?_) <;> first | exact absurd c (by decide) | (cases c; done) | (simp only [decide_eq_true_eq, decide_eq_false_iff_not] at c) | skip) | fail
        refine ⟨[0, 1, 2, 3, 4, 5, 6, 7, 8, 9, 10, 11, 12, 13, 15, 14, 16], [0, 1, 2, 3, 4, 5], by decide +kernel, ?_⟩
        refine And.intro (show 0 ≤ wr .i64 (((encM t.ks).length : Int) - 1) by rw [hgl]; omega) (Exists.intro b.enc (And.intro hgb (And.intro rfl ?_)))
        refine callA hdn ?_
        refine callW [0, 1, 2, 3, 4, 5] [] (ih b hmb (p ++ [1]) s.n (⟨s.n + 1, s.es ++ [(s.n, sc, 1)], s.ds ++ [(s.n, a.tx)], s.rs, s.dp ++ [p ++ [0]], s.rp⟩ : Sc) hfs (show 0 ≤ s.n + 1 by omega) (by rw [hb2]; omega) (by simp; omega)) (fun K' hk => hk) rfl ?_ ?_ ?_ ?_
        · exact ⟨rfl, rfl, rfl, rfl, trivial⟩
        · exact ⟨⟨rfl, congrArg (fun x => AV.p (I x)) (show s.n + 1 = wr .i64 (s.n + 1) from (w64 (by omega)).symm), (by repeat' first | trivial | rfl | exact congrArg (Bk.row _ _) (map_snoc _ _ _) | exact congrArg (AV.row _ _ _) (len_snoc _ _) | refine And.intro ?_ ?_), (by repeat' first | trivial | rfl | exact congrArg (Bk.row _ _) (map_snoc _ _ _) | exact congrArg (AV.row _ _ _) (len_snoc _ _) | refine And.intro ?_ ?_), rfl, (by repeat' first | trivial | rfl | exact congrArg (Bk.row _ _) (map_snoc _ _ _) | exact congrArg (AV.row _ _ _) (len_snoc _ _) | refine And.intro ?_ ?_), rfl, trivial⟩, (by repeat' first | trivial | rfl | exact congrArg (Bk.row _ _) (map_snoc _ _ _) | exact congrArg (AV.row _ _ _) (len_snoc _ _) | refine And.intro ?_ ?_), (by repeat' first | trivial | rfl | exact congrArg (Bk.row _ _) (map_snoc _ _ _) | exact congrArg (AV.row _ _ _) (len_snoc _ _) | refine And.intro ?_ ?_), (by repeat' first | trivial | rfl | exact congrArg (Bk.row _ _) (map_snoc _ _ _) | exact congrArg (AV.row _ _ _) (len_snoc _ _) | refine And.intro ?_ ?_), (by repeat' first | trivial | rfl | exact congrArg (Bk.row _ _) (map_snoc _ _ _) | exact congrArg (AV.row _ _ _) (len_snoc _ _) | refine And.intro ?_ ?_), (by repeat' first | trivial | rfl | exact congrArg (Bk.row _ _) (map_snoc _ _ _) | exact congrArg (AV.row _ _ _) (len_snoc _ _) | refine And.intro ?_ ?_), trivial⟩
        · rfl
        rintro rs τ' hl' ⟨rfl, rfl⟩
        exact ⟨scB 158 _, ⟨⟨(by repeat' first | trivial | rfl | exact congrArg (Bk.row _ _) (map_snoc _ _ _) | exact congrArg (AV.row _ _ _) (len_snoc _ _) | refine And.intro ?_ ?_), (by repeat' first | trivial | rfl | exact congrArg (Bk.row _ _) (map_snoc _ _ _) | exact congrArg (AV.row _ _ _) (len_snoc _ _) | refine And.intro ?_ ?_), (by repeat' first | trivial | rfl | exact congrArg (Bk.row _ _) (map_snoc _ _ _) | exact congrArg (AV.row _ _ _) (len_snoc _ _) | refine And.intro ?_ ?_), (by repeat' first | trivial | rfl | exact congrArg (Bk.row _ _) (map_snoc _ _ _) | exact congrArg (AV.row _ _ _) (len_snoc _ _) | refine And.intro ?_ ?_), (by repeat' first | trivial | rfl | exact congrArg (Bk.row _ _) (map_snoc _ _ _) | exact congrArg (AV.row _ _ _) (len_snoc _ _) | refine And.intro ?_ ?_), (by repeat' first | trivial | rfl | exact congrArg (Bk.row _ _) (map_snoc _ _ _) | exact congrArg (AV.row _ _ _) (len_snoc _ _) | refine And.intro ?_ ?_), trivial⟩, rfl⟩, rfl, rfl⟩
      · have har : (t.ks.length : Int) = 3 := by rw [ha, hn]; rfl
        obtain ⟨a, v, b, hks⟩ : ∃ a v b, t.ks = [a, v, b] := by
          match h : t.ks, har with
          | [a, v, b], _ => exact ⟨a, v, b, rfl⟩
          | [], e => simp at e
          | [_], e => simp at e
          | [_, _], e => simp at e
          | _ :: _ :: _ :: _ :: _, e => simp at e; omega
        have hma : a ∈ t.ks := by rw [hks]; simp
        have hmv : v ∈ t.ks := by rw [hks]; simp
        have hmb : b ∈ t.ks := by rw [hks]; simp
        have hwks : wtL t.ks = wt a + wt v + wt b := by rw [hks]; simp only [wtL]; omega
        have hpa := wt_pos a
        have hgl : wr .i64 (((encM t.ks).length : Int) - 1) = 2 := by rw [he]; exact (w64 (by omega)).trans (by omega)
        have hga : (encM t.ks)[(0 : Int).toNat]? = some a.enc := encM_get (by rw [hks]; rfl)
        have hgv : (encM t.ks)[(1 : Int).toNat]? = some v.enc := encM_get (by rw [hks]; rfl)
        have hgb : (encM t.ks)[(wr .i64 (((encM t.ks).length : Int) - 1)).toNat]? = some b.enc := by rw [hgl]; exact encM_get (by rw [hks]; rfl)
        have hdn : FnP Try.prog 186 [.lst (il p), I (wr .i64 (((encM t.ks).length : Int) - 1))] [.lst (il (p ++ [2]))] := by rw [hgl]; exact sDown p 2 (by omega)
        have hfs : termF v = true ∧ termF b = true := by rw [hks] at hf; simp only [termB, termL, Bool.and_eq_true] at hf; exact ⟨hf.2.1, hf.2.2.1⟩
        have hb2 : Sc.big (⟨s.n + 1, s.es ++ [(s.n, sc, 1)], s.ds ++ [(s.n, a.tx)], s.rs, s.dp ++ [p ++ [0]], s.rp⟩ : Sc) = s.big + 4 := by simp [Sc.big]; omega
        have hfin : walkB (t.ks.length - 1) t.ks 0 p sc s.n ⟨s.n + 1, s.es ++ [(s.n, sc, 1)], s.ds, s.rs, s.dp, s.rp⟩ = walkM b (p ++ [2]) s.n (walkM v (p ++ [1]) sc (⟨s.n + 1, s.es ++ [(s.n, sc, 1)], s.ds ++ [(s.n, a.tx)], s.rs, s.dp ++ [p ++ [0]], s.rp⟩ : Sc)) := by
          rw [hks]; simp [walkB]
        rw [hfin]
        repeat' first | (exfalso; simp [hn] at c; done) | (refine And.intro (fun c => ?_) (fun c => ?_) <;> first | exact absurd c (by decide) | (cases c; done) | (simp only [decide_eq_true_eq, decide_eq_false_iff_not] at c) | skip) | fail
        refine And.intro (show fits _ _ from ⟨⟨rfl, rfl⟩, trivial⟩) ?_
        refine Exists.intro _ (And.intro ⟨show 0 + _ ≤ List.length _ from Nat.le_of_eq rfl, rfl⟩ ?_)
        refine Exists.intro (s.es.map eE) ?_
        refine And.intro ⟨(row_allM eE s.es).1, (row_allM eE s.es).2, ⟨⟨rfl, rfl⟩, trivial⟩, appfit24 s.es.length 1 (by omega)⟩ ?_
        refine ⟨[0, 1, 2, 3, 4, 5, 6, 7, 8, 9, 10, 11, 12, 13, 14, 15, 16, 17, 1018], [2], by decide +kernel, ?_⟩
        refine And.intro (show 0 ≤ (0 : Int) by omega) (Exists.intro a.enc (And.intro hga (And.intro rfl ?_)))
        refine And.intro (show fits _ _ from ⟨⟨rfl, rfl⟩, trivial⟩) ?_
        refine Exists.intro _ (And.intro ⟨show 0 + _ ≤ List.length _ from Nat.le_of_eq rfl, rfl⟩ ?_)
        refine Exists.intro (s.ds.map eS) ?_
        refine And.intro ⟨(row_allM eS s.ds).1, (row_allM eS s.ds).2, ⟨⟨rfl, rfl⟩, trivial⟩, appfit24 s.ds.length 1 (by omega)⟩ ?_
        refine ⟨[0, 1, 2, 3, 4, 5, 6, 7, 8, 9, 10, 1011], [4], by decide +kernel, ?_⟩
        refine callA (sDown p 0 (by omega)) ?_
        refine And.intro (show fits _ _ from ⟨⟨rfl, rfl⟩, trivial⟩) ?_
        refine Exists.intro _ (And.intro ⟨show 0 + _ ≤ List.length _ from Nat.le_of_eq rfl, rfl⟩ ?_)
        refine Exists.intro (s.dp.map eP) ?_
        refine And.intro ⟨(row_allM eP s.dp).1, (row_allM eP s.dp).2, ⟨⟨rfl, rfl⟩, trivial⟩, appfit24 s.dp.length 1 (by omega)⟩ ?_
        repeat' first | (exfalso; simp [hn] at c; done) | (refine And.intro (fun c => ?_) (fun c => ?_) <;> first | exact absurd c (by decide) | (cases c; done) | (simp only [decide_eq_true_eq, decide_eq_false_iff_not] at c) | skip) | fail
        refine ⟨[0, 1, 2, 3, 4, 5, 7, 6, 8], [0, 1, 2, 3, 4, 5], by decide +kernel, ?_⟩
        refine And.intro (show 0 ≤ (1 : Int) by omega) (Exists.intro v.enc (And.intro hgv (And.intro rfl ?_)))
        refine callA (sDown p 1 (by omega)) ?_
        have hbg := walkM_big v (p ++ [1]) sc (⟨s.n + 1, s.es ++ [(s.n, sc, 1)], s.ds ++ [(s.n, a.tx)], s.rs, s.dp ++ [p ++ [0]], s.rp⟩ : Sc) (show 0 ≤ s.n + 1 by omega)
        rw [hb2] at hbg
        refine callW [0, 1, 2, 3, 4, 5] [] (ih v hmv (p ++ [1]) sc (⟨s.n + 1, s.es ++ [(s.n, sc, 1)], s.ds ++ [(s.n, a.tx)], s.rs, s.dp ++ [p ++ [0]], s.rp⟩ : Sc) hfs.1 (show 0 ≤ s.n + 1 by omega) (by rw [hb2]; omega) (by simp; omega)) (fun K' hk => hk) rfl ?_ ?_ ?_ ?_
        · exact ⟨rfl, rfl, rfl, rfl, trivial⟩
        · exact ⟨⟨rfl, congrArg (fun x => AV.p (I x)) (show s.n + 1 = wr .i64 (s.n + 1) from (w64 (by omega)).symm), (by repeat' first | trivial | rfl | exact congrArg (Bk.row _ _) (map_snoc _ _ _) | exact congrArg (AV.row _ _ _) (len_snoc _ _) | refine And.intro ?_ ?_), (by repeat' first | trivial | rfl | exact congrArg (Bk.row _ _) (map_snoc _ _ _) | exact congrArg (AV.row _ _ _) (len_snoc _ _) | refine And.intro ?_ ?_), rfl, (by repeat' first | trivial | rfl | exact congrArg (Bk.row _ _) (map_snoc _ _ _) | exact congrArg (AV.row _ _ _) (len_snoc _ _) | refine And.intro ?_ ?_), rfl, trivial⟩, (by repeat' first | trivial | rfl | exact congrArg (Bk.row _ _) (map_snoc _ _ _) | exact congrArg (AV.row _ _ _) (len_snoc _ _) | refine And.intro ?_ ?_), (by repeat' first | trivial | rfl | exact congrArg (Bk.row _ _) (map_snoc _ _ _) | exact congrArg (AV.row _ _ _) (len_snoc _ _) | refine And.intro ?_ ?_), (by repeat' first | trivial | rfl | exact congrArg (Bk.row _ _) (map_snoc _ _ _) | exact congrArg (AV.row _ _ _) (len_snoc _ _) | refine And.intro ?_ ?_), (by repeat' first | trivial | rfl | exact congrArg (Bk.row _ _) (map_snoc _ _ _) | exact congrArg (AV.row _ _ _) (len_snoc _ _) | refine And.intro ?_ ?_), (by repeat' first | trivial | rfl | exact congrArg (Bk.row _ _) (map_snoc _ _ _) | exact congrArg (AV.row _ _ _) (len_snoc _ _) | refine And.intro ?_ ?_), trivial⟩
        · rfl
        rintro rs τ' hl' ⟨rfl, rfl⟩
        refine ⟨[0, 1, 2, 3, 4, 5, 6, 7, 8, 9, 10, 11, 12, 13, 15, 14, 16], [0, 1, 2, 3, 4, 5], by decide +kernel, ?_⟩
        refine And.intro (show 0 ≤ wr .i64 (((encM t.ks).length : Int) - 1) by rw [hgl]; omega) (Exists.intro b.enc (And.intro hgb (And.intro rfl ?_)))
        refine callA hdn ?_
        refine callG [0, 1, 2, 3, 4, 5] (ih b hmb (p ++ [2]) s.n (walkM v (p ++ [1]) sc (⟨s.n + 1, s.es ++ [(s.n, sc, 1)], s.ds ++ [(s.n, a.tx)], s.rs, s.dp ++ [p ++ [0]], s.rp⟩ : Sc)) hfs.2 (Int.le_trans (show 0 ≤ s.n + 1 by omega) hbg.2) (by omega) (by simp; omega)) rfl (fun K' hk => hk) ?_
        rintro rs τ' hl' ⟨rfl, rfl⟩
        exact ⟨scB 158 _, ⟨⟨(by repeat' first | trivial | rfl | exact congrArg (Bk.row _ _) (map_snoc _ _ _) | exact congrArg (AV.row _ _ _) (len_snoc _ _) | refine And.intro ?_ ?_), (by repeat' first | trivial | rfl | exact congrArg (Bk.row _ _) (map_snoc _ _ _) | exact congrArg (AV.row _ _ _) (len_snoc _ _) | refine And.intro ?_ ?_), (by repeat' first | trivial | rfl | exact congrArg (Bk.row _ _) (map_snoc _ _ _) | exact congrArg (AV.row _ _ _) (len_snoc _ _) | refine And.intro ?_ ?_), (by repeat' first | trivial | rfl | exact congrArg (Bk.row _ _) (map_snoc _ _ _) | exact congrArg (AV.row _ _ _) (len_snoc _ _) | refine And.intro ?_ ?_), (by repeat' first | trivial | rfl | exact congrArg (Bk.row _ _) (map_snoc _ _ _) | exact congrArg (AV.row _ _ _) (len_snoc _ _) | refine And.intro ?_ ?_), (by repeat' first | trivial | rfl | exact congrArg (Bk.row _ _) (map_snoc _ _ _) | exact congrArg (AV.row _ _ _) (len_snoc _ _) | refine And.intro ?_ ?_), trivial⟩, rfl⟩, rfl, rfl⟩
    · rw [if_neg hbt]
      rw [if_neg hbt] at hf
      repeat' first | (refine And.intro (fun c => ?_) (fun c => ?_) <;> first | exact absurd c (by decide) | (cases c; done) | (simp only [decide_eq_true_eq, decide_eq_false_iff_not] at c) | skip) | fail
      all_goals first | (exfalso; grind) | skip
      refine ⟨Int × Sc, fun x => ([(0, .ptr 0 0), (2, .p (.lst (il p))), (3, .p (I sc)), (5, .ptr 6 0), (8, .p (I x.1))], scT 158 x.2 t),
        fun x n => 0 ≤ x.1 ∧ x.1 ≤ t.ks.length ∧ n = (t.ks.length - x.1).toNat ∧ 0 ≤ x.2.n ∧ x.2.big + 2 * wtL (t.ks.drop x.1.toNat) ≤ 100000000000 ∧ walkL (t.ks.drop x.1.toNat) x.1 p sc x.2 = walkL t.ks 0 p sc s,
        ⟨(0, s), _, ⟨by simp, by simp, rfl, h0, by show Sc.big s + 2 * wtL t.ks ≤ _; omega, rfl⟩, [], ⟨rfl, rfl, rfl, rfl, rfl, trivial⟩, ⟨(by repeat' first | trivial | rfl | exact congrArg (Bk.row _ _) (map_snoc _ _ _) | exact congrArg (AV.row _ _ _) (len_snoc _ _) | refine And.intro ?_ ?_), (by repeat' first | trivial | rfl | exact congrArg (Bk.row _ _) (map_snoc _ _ _) | exact congrArg (AV.row _ _ _) (len_snoc _ _) | refine And.intro ?_ ?_), (by repeat' first | trivial | rfl | exact congrArg (Bk.row _ _) (map_snoc _ _ _) | exact congrArg (AV.row _ _ _) (len_snoc _ _) | refine And.intro ?_ ?_), (by repeat' first | trivial | rfl | exact congrArg (Bk.row _ _) (map_snoc _ _ _) | exact congrArg (AV.row _ _ _) (len_snoc _ _) | refine And.intro ?_ ?_), (by repeat' first | trivial | rfl | exact congrArg (Bk.row _ _) (map_snoc _ _ _) | exact congrArg (AV.row _ _ _) (len_snoc _ _) | refine And.intro ?_ ?_), (by repeat' first | trivial | rfl | exact congrArg (Bk.row _ _) (map_snoc _ _ _) | exact congrArg (AV.row _ _ _) (len_snoc _ _) | refine And.intro ?_ ?_), ⟨rfl, rfl, rfl, rfl, rfl, trivial⟩, trivial⟩, rfl⟩, ?_⟩
      rintro ⟨i, s'⟩ n ⟨h1, h2, rfl, h3, h4, hr⟩
      simp only at h1 h2 h3 h4 hr
      refine And.intro (fun ci => ?_) (fun ci => ?_) <;> simp only [decide_eq_true_eq, decide_eq_false_iff_not, he] at ci
      · obtain ⟨k, hk, hm, hdr⟩ := drop_cons h1 ci
        have hwk := wt_kid hm
        rw [hdr, walkL] at hr
        rw [hdr, wtL] at h4
        refine ⟨[0, 1, 2, 3, 4, 5, 6, 7, 9, 8, 10], [0, 1, 2, 3, 4, 5], by decide +kernel, ?_⟩
        refine And.intro h1 (Exists.intro k.enc (And.intro (encM_get hk) (And.intro rfl ?_)))
        refine callA (sDown p i (by omega)) ?_
        have hbg := walkM_big k (p ++ [i]) sc s' h3
        refine callG [0, 1, 2, 3, 4, 5] (ih k hm (p ++ [i]) sc s' (termL_mem hf hm) h3 (by omega) (by simp; omega)) rfl (fun K' hk => hk) ?_
        rintro rs τ' hl' ⟨rfl, rfl⟩
        refine ⟨(i + 1, walkM k (p ++ [i]) sc s'), _, ⟨by simp; omega, by simp; omega, rfl, ?_, ?_, hr⟩, by simp; omega, [], ⟨rfl, rfl, rfl, rfl, congrArg (fun x => AV.p (I x)) (w64 (by omega)).symm, trivial⟩, ⟨(by repeat' first | trivial | rfl | exact congrArg (Bk.row _ _) (map_snoc _ _ _) | exact congrArg (AV.row _ _ _) (len_snoc _ _) | refine And.intro ?_ ?_), (by repeat' first | trivial | rfl | exact congrArg (Bk.row _ _) (map_snoc _ _ _) | exact congrArg (AV.row _ _ _) (len_snoc _ _) | refine And.intro ?_ ?_), (by repeat' first | trivial | rfl | exact congrArg (Bk.row _ _) (map_snoc _ _ _) | exact congrArg (AV.row _ _ _) (len_snoc _ _) | refine And.intro ?_ ?_), (by repeat' first | trivial | rfl | exact congrArg (Bk.row _ _) (map_snoc _ _ _) | exact congrArg (AV.row _ _ _) (len_snoc _ _) | refine And.intro ?_ ?_), (by repeat' first | trivial | rfl | exact congrArg (Bk.row _ _) (map_snoc _ _ _) | exact congrArg (AV.row _ _ _) (len_snoc _ _) | refine And.intro ?_ ?_), (by repeat' first | trivial | rfl | exact congrArg (Bk.row _ _) (map_snoc _ _ _) | exact congrArg (AV.row _ _ _) (len_snoc _ _) | refine And.intro ?_ ?_), ⟨rfl, rfl, rfl, rfl, rfl, trivial⟩, trivial⟩, rfl⟩
        · show 0 ≤ (walkM k (p ++ [i]) sc s').n; omega
        · show (walkM k (p ++ [i]) sc s').big + 2 * wtL (t.ks.drop (i + 1).toNat) ≤ _; omega
      · rw [drop_end (l := t.ks) (i := i) (by omega), walkL] at hr
        rw [← hr]
        exact ⟨scB 158 s', ⟨⟨(by repeat' first | trivial | rfl | exact congrArg (Bk.row _ _) (map_snoc _ _ _) | exact congrArg (AV.row _ _ _) (len_snoc _ _) | refine And.intro ?_ ?_), (by repeat' first | trivial | rfl | exact congrArg (Bk.row _ _) (map_snoc _ _ _) | exact congrArg (AV.row _ _ _) (len_snoc _ _) | refine And.intro ?_ ?_), (by repeat' first | trivial | rfl | exact congrArg (Bk.row _ _) (map_snoc _ _ _) | exact congrArg (AV.row _ _ _) (len_snoc _ _) | refine And.intro ?_ ?_), (by repeat' first | trivial | rfl | exact congrArg (Bk.row _ _) (map_snoc _ _ _) | exact congrArg (AV.row _ _ _) (len_snoc _ _) | refine And.intro ?_ ?_), (by repeat' first | trivial | rfl | exact congrArg (Bk.row _ _) (map_snoc _ _ _) | exact congrArg (AV.row _ _ _) (len_snoc _ _) | refine And.intro ?_ ?_), (by repeat' first | trivial | rfl | exact congrArg (Bk.row _ _) (map_snoc _ _ _) | exact congrArg (AV.row _ _ _) (len_snoc _ _) | refine And.intro ?_ ?_), trivial⟩, rfl⟩, rfl, rfl⟩
termination_by SizeOf.sizeOf t
decreasing_by exact kid_lt hk
end Go.Proofs.Ytegpjjnedbbpjaa.Z
