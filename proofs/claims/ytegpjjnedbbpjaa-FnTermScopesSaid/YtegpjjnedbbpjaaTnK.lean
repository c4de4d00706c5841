/- The law FnTermScopes. -/
import Derived.Test.YtegpjjnedbbpjaaTnJ
set_option linter.unusedVariables false
set_option linter.unusedSimpArgs false
namespace Go.Proofs.Ytegpjjnedbbpjaa.Z
open Go Go.RowKit Go.Proofs.Sy Go.Proofs
set_option maxRecDepth 100000
theorem cIdsIn (t : Tree) (hw : wt t ≤ 1099511627776) : FnP Try.prog 46 [t.enc] [I (idsT t)] := by
  have ih : ∀ k, k ∈ t.ks → FnP Try.prog 46 [k.enc] [I (idsT k)] := fun k hk => cIdsIn k (by have := wt_kid hk; omega)
  have hl := wt_len t
  have hww := wt_eq t
  have he : (encM t.ks).length = t.ks.length := encM_len _
  have hle := idsL_le t.ks
  rw [idsT_eq]
  refine fn_intro Try.func46 rfl rfl rfl ?_
  generalize hR : (if t.lf = true ∧ t.nm = (⟨#[73, 100]⟩ : ByteArray) then (1 : Int) else 0) + idsL t.ks = R
  repeat' first | (refine And.intro (fun c => ?_) (fun c => ?_) <;> first | exact absurd c (by decide) | (cases c; done) | (simp only [decide_eq_true_eq, decide_eq_false_iff_not] at c) | skip) | fail
  all_goals
    refine ⟨Int × Int, fun x => ([(1, .ptr 0 0), (3, .p (I x.1)), (4, .p (I x.2))], [.box 31 [.p (S t.nm), .p (S t.tx), .p (B t.lf), .p (.lst (encM t.ks))]]),
      fun x n => 0 ≤ x.2 ∧ x.2 ≤ t.ks.length ∧ n = (t.ks.length - x.2).toNat ∧ 0 ≤ x.1 ∧ x.1 + idsL (t.ks.drop x.2.toNat) = R, ?_, ?_⟩
    · first
        | exact ⟨(1, 0), _, ⟨by simp, by simp, rfl, by simp, by show 1 + idsL t.ks = R; grind⟩, [], ⟨rfl, rfl, rfl, trivial⟩, ⟨⟨rfl, rfl, rfl, rfl, rfl, trivial⟩, trivial⟩, rfl⟩
        | exact ⟨(0, 0), _, ⟨by simp, by simp, rfl, by simp, by show 0 + idsL t.ks = R; grind⟩, [], ⟨rfl, rfl, rfl, trivial⟩, ⟨⟨rfl, rfl, rfl, rfl, rfl, trivial⟩, trivial⟩, rfl⟩
    · rintro ⟨s, i⟩ n ⟨h0, h1, rfl, h2, hr⟩
      simp only at h0 h1 h2 hr
      have hRl : R ≤ 1 + idsL t.ks := by rw [← hR]; split <;> omega
      refine And.intro (fun ci => ?_) (fun ci => ?_) <;> simp only [decide_eq_true_eq, decide_eq_false_iff_not, he] at ci
      · obtain ⟨k, hk, hm, hdr⟩ := drop_cons h0 ci
        rw [hdr, idsL] at hr
        have hk1 := idsT_le k
        have hk2 := idsL_le (t.ks.drop (i + 1).toNat)
        refine And.intro h0 (Exists.intro k.enc (And.intro (encM_get hk) (And.intro rfl ?_)))
        refine callA (ih k hm) ?_
        exact ⟨(s + idsT k, i + 1), _, ⟨by simp; omega, by simp; omega, rfl, by simp; omega, by show s + idsT k + idsL (t.ks.drop (i + 1).toNat) = R; omega⟩, by simp; omega, [], ⟨rfl, congrArg (fun x => AV.p (I x)) (show s + idsT k = wr .i64 (s + idsT k) from (w64 (by omega)).symm), congrArg (fun x => AV.p (I x)) (show i + 1 = wr .i64 (i + 1) from (w64 (by omega)).symm), trivial⟩, ⟨⟨rfl, rfl, rfl, rfl, rfl, trivial⟩, trivial⟩, rfl⟩
      · rw [drop_end (l := t.ks) (i := i) (by omega), idsL] at hr
        exact ⟨[], ⟨trivial, rfl⟩, congrArg (fun x => [AV.p (I x)]) (by omega), rfl⟩
termination_by SizeOf.sizeOf t
decreasing_by exact kid_lt hk
theorem getR_ofN {t k : Tree} {p : List Int} (h1 : okT t = true) (h2 : atP t p = some k) : getR t p = (k, 0) := by
  unfold getR
  rw [if_neg (by rw [h1]; simp), h2]
theorem cTermScopesLaw (code : List UInt8) : FnP Try.prog 8 [.lst (bl code)] [B true] := by
  obtain ⟨b, hb, hb'⟩ := cBig code
  refine fn_intro Try.func8 rfl rfl rfl ?_
  refine callA hb ?_
  cases b with
  | true =>
    repeat' first | (refine And.intro (fun c => ?_) (fun c => ?_) <;> first | exact absurd c (by decide) | (cases c; done) | (simp only [decide_eq_true_eq, decide_eq_false_iff_not] at c) | skip) | fail
    exact ⟨[], ⟨trivial, rfl⟩, rfl, rfl⟩
  | false =>
  repeat' first | (refine And.intro (fun c => ?_) (fun c => ?_) <;> first | exact absurd c (by decide) | (cases c; done) | (simp only [decide_eq_true_eq, decide_eq_false_iff_not] at c) | skip) | fail
  have hcl := hb' rfl
  obtain ⟨t, hd, hw⟩ := cScopes code (by omega)
  have hi := iScopesOf t (by omega)
  have hs := sScopesOf t (by omega)
  have hid := cIdsIn t (by omega)
  have hfacts : (scR t).2 = 0 → okT t = true ∧ termF t = true ∧ sgOK (scM t) = true ∧ (scR t).1 = scM t := fun h => by
    unfold scR at h ⊢
    by_cases h1 : (okT t && termF t) = false
    · rw [if_pos h1] at h; cases h
    · rw [if_neg h1] at h ⊢
      by_cases h2 : sgOK (scM t) = false
      · rw [if_pos h2] at h; cases h
      · rw [if_neg h2]
        simp only [Bool.not_eq_false, Bool.and_eq_true] at h1 h2
        exact ⟨h1.1, h1.2, h2, rfl⟩
  generalize hR : scR t = R at hi hs hfacts
  obtain ⟨s, e⟩ := R
  simp only at hi hs hfacts
  refine callA hd ?_
  refine callA hd ?_
  refine callA hs ?_
  refine callA hi ?_
  repeat' first | (exfalso; simp at c; done) | (refine And.intro (fun c => ?_) (fun c => ?_) <;> first | exact absurd c (by decide) | (cases c; done) | (simp only [decide_eq_true_eq, decide_eq_false_iff_not] at c) | skip) | fail
  · exact ⟨[], ⟨trivial, rfl⟩, rfl, rfl⟩
  have he0 : e = 0 := by simpa using c
  obtain ⟨hok, htf, hsg, rfl⟩ := hfacts he0
  have hbg := walkM_big t [] 0 sc1 (by decide)
  have hb1 : sc1.big = 1 := rfl
  have hn1 : sc1.n = 1 := rfl
  have hgood := walkM_good t t [] 0 sc1 rfl (okT_right hok) htf ⟨trivial, trivial⟩
  have hm : walkM t [] 0 sc1 = scM t := rfl
  rw [hm] at hbg hgood
  have hnn : (scM t).n ≤ (scM t).big := by unfold Sc.big; omega
  have hdp : (scM t).dp.length ≤ (scM t).big := by unfold Sc.big; omega
  have hrp : (scM t).rp.length ≤ (scM t).big := by unfold Sc.big; omega
  obtain ⟨⟨hgd, hgr⟩, hids⟩ := hgood
  clear hR hm
  generalize scM t = s0 at *
  have hld : (s0.dp.map eP).length = s0.dp.length := List.length_map ..
  have hlr : (s0.rp.map eP).length = s0.rp.length := List.length_map ..
  have hlds : (s0.ds.map eS).length = s0.dp.length := by rw [List.length_map, hgd.len]
  have hlrs : (s0.rs.map eS).length = s0.rp.length := by rw [List.length_map, hgr.len]
  have hids0 : idsT t = s0.dp.length + s0.rp.length := by
    have h1 : s0.ids = s0.dp.length + s0.rp.length := rfl
    have h2 : sc1.ids = 0 := rfl
    omega
  have hsum : wr .i64 (((s0.dp.map eP).length : Int) + (s0.rp.map eP).length) = s0.dp.length + s0.rp.length := by
    rw [hld, hlr]; exact w64 (by omega)
  rw [hids0] at hid
  have hsgc := iSgOK s0 (by omega)
  rw [hsg] at hsgc
  refine callA hsgc ?_
  clear c
  repeat' first | (refine And.intro (fun c => ?_) (fun c => ?_) <;> first | exact absurd c (by decide) | (cases c; done) | (exfalso; rw [hsum] at c; simp at c; done) | (exfalso; simp [hld, hlr, hlds, hlrs] at c; done) | clear c) | refine callA hid ?_ | fail
  refine ⟨Int, fun i => ([(3, .ptr 0 0), (8, .ptr 2 0), (9, .p (.lst (s0.dp.map eP))), (10, .p (.lst (s0.rp.map eP))), (12, .p (I i))], [.box 31 [.p (S t.nm), .p (S t.tx), .p (B t.lf), .p (.lst (encM t.ks))], .dead, .box 65 [.p (I s0.n), .p (.lst (s0.es.map eE)), .p (.lst (s0.ds.map eS)), .p (.lst (s0.rs.map eS))]]),
    fun i n => 0 ≤ i ∧ i ≤ s0.dp.length + s0.rp.length ∧ n = ((s0.dp.length : Int) + s0.rp.length - i).toNat,
    ⟨0, _, ⟨Int.le_refl 0, Int.add_nonneg (Int.natCast_nonneg _) (Int.natCast_nonneg _), rfl⟩, [], ⟨rfl, rfl, rfl, rfl, rfl, trivial⟩, ⟨⟨rfl, rfl, rfl, rfl, rfl, trivial⟩, trivial, ⟨rfl, rfl, rfl, rfl, rfl, trivial⟩, trivial⟩, rfl⟩, ?_⟩
  rintro i n ⟨h0, h1, rfl⟩
  refine And.intro (fun ci => ?_) (fun ci => ?_) <;> simp only [decide_eq_true_eq, decide_eq_false_iff_not, hsum] at ci <;> clear hsum
  · refine And.intro trivial ?_
    have hnx : 0 ≤ i + 1 ∧ i + 1 ≤ s0.dp.length + s0.rp.length ∧ (s0.dp.length + s0.rp.length - (i + 1) : Int).toNat < (s0.dp.length + s0.rp.length - i : Int).toNat := by omega
    refine And.intro (fun cj => ?_) (fun cj => ?_) <;> simp only [decide_eq_true_eq, decide_eq_false_iff_not, hld] at cj
    · obtain ⟨p, hp, hpm, _⟩ := drop_cons (l := s0.dp) h0 cj
      obtain ⟨d, hdd, k, hk, hkn, hkt⟩ := hgd.get hp
      have hpl := at_len p t k hk
      have hwk := wt_at p t k hk
      have hAt := iTreeAt t p (by omega) (by omega)
      rw [getR_ofN hok hk] at hAt
      refine And.intro h0 (Exists.intro (eP p) (And.intro (by rw [List.getElem?_map, hp]; rfl) (And.intro rfl ?_)))
      refine And.intro h0 (Exists.intro (eS d) (And.intro (by rw [List.getElem?_map, hdd]; rfl) (And.intro rfl ?_)))
      refine callA hAt ?_
      have hi1 : i + 1 = wr .i64 (i + 1) := (w64 (by omega)).symm
      repeat' first | (exfalso; simp [hkn, hkt] at c; done) | (refine And.intro (fun c => ?_) (fun c => ?_) <;> first | exact absurd c (by decide) | (cases c; done) | (simp only [decide_eq_true_eq, decide_eq_false_iff_not] at c) | skip) | fail
      exact ⟨i + 1, _, ⟨hnx.1, hnx.2.1, rfl⟩, hnx.2.2, [], ⟨rfl, rfl, rfl, rfl, congrArg (fun x => AV.p (I x)) hi1, trivial⟩, ⟨⟨rfl, rfl, rfl, rfl, rfl, trivial⟩, trivial, ⟨rfl, rfl, rfl, rfl, rfl, trivial⟩, trivial⟩, rfl⟩
    · have hge : 0 ≤ i - (s0.dp.length : Int) := by omega
      have hlt : i - (s0.dp.length : Int) < s0.rp.length := by omega
      have hb0 : -9223372036854775808 ≤ i - (s0.dp.length : Int) ∧ i - (s0.dp.length : Int) ≤ 9223372036854775807 := by omega
      obtain ⟨p, hp, hpm, _⟩ := drop_cons (l := s0.rp) (i := i - s0.dp.length) hge hlt
      obtain ⟨d, hdd, k, hk, hkn, hkt⟩ := hgr.get hp
      have hpl := at_len p t k hk
      have hwk := wt_at p t k hk
      have hAt := iTreeAt t p (by omega) (by omega)
      rw [getR_ofN hok hk] at hAt
      have hi1 : i + 1 = wr .i64 (i + 1) := (w64 (by omega)).symm
      have hsub : wr .i64 (i - ((s0.dp.map eP).length : Int)) = i - s0.dp.length := by rw [hld]; exact w64 hb0
      refine And.intro (by rw [hsub]; exact hge) (Exists.intro (eP p) (And.intro (by rw [hsub, List.getElem?_map, hp]; rfl) (And.intro rfl ?_)))
      refine And.intro (by rw [hsub]; exact hge) (Exists.intro (eS d) (And.intro (by rw [hsub, List.getElem?_map, hdd]; rfl) (And.intro rfl ?_)))
      refine callA hAt ?_
      repeat' first | (exfalso; simp [hkn, hkt] at c; done) | (refine And.intro (fun c => ?_) (fun c => ?_) <;> first | exact absurd c (by decide) | (cases c; done) | (simp only [decide_eq_true_eq, decide_eq_false_iff_not] at c) | skip) | fail
      exact ⟨i + 1, _, ⟨hnx.1, hnx.2.1, rfl⟩, hnx.2.2, [], ⟨rfl, rfl, rfl, rfl, congrArg (fun x => AV.p (I x)) hi1, trivial⟩, ⟨⟨rfl, rfl, rfl, rfl, rfl, trivial⟩, trivial, ⟨rfl, rfl, rfl, rfl, rfl, trivial⟩, trivial⟩, rfl⟩
  · exact ⟨[], ⟨trivial, rfl⟩, rfl, rfl⟩
end Go.Proofs.Ytegpjjnedbbpjaa.Z
