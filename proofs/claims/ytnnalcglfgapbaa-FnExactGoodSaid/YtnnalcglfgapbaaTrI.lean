/- Trees: the program's measure of a tree, its TreeOK. -/
import Derived.Test.YtnnalcglfgapbaaTrH
set_option linter.unusedVariables false
set_option linter.unusedSimpArgs false
namespace Go.Proofs.Ytnnalcglfgapbaa.Z
open Go Go.RowKit Go.Proofs.Sy Go.Proofs
set_option maxRecDepth 100000
def meaB (n dp : Int) : Sto := [.box 3 [.p (I n)], .box 3 [.p (I dp)]]
def meaP (t : Tree) (d n : Int) (rs : List AV) (τ : Sto) : Prop := ∃ (b : Bool) (n' dp : Int), rs = [.p (B b)] ∧ τ = meaB n' dp ∧ (b = true ↔ right t = true ∧ n + cnt t ≤ 1000 ∧ d + hgt t ≤ 61) ∧ (b = true → n' = n + cnt t)
theorem mea_leaf (t : Tree) (d n : Int) (hn : n + 1 ≤ 1000) (hd : d ≤ 60) (hnm : nameOK t.nm = true) (hlf : t.lf = true) : (right t = true ∧ n + cnt t ≤ 1000 ∧ d + hgt t ≤ 61) ↔ (t.ks.length = 0 ∧ t.tx.size ≤ 200) := by
  have h1 := cntL_pos t.ks
  rw [right_eq, cnt_eq, hgt_eq, hnm, hlf]
  by_cases h : t.ks = []
  · rw [h]; simp [rightL, cntL, hgtL]; omega
  · have := List.length_pos_iff.mpr h
    simp [h]
theorem mea_leaf_n (t : Tree) (h : t.ks.length = 0) : cnt t = 1 := by
  rw [cnt_eq, List.length_eq_zero_iff.mp h]; rfl
theorem mea_node (t : Tree) (d n : Int) (hnm : nameOK t.nm = true) (hlf : t.lf = false) (htx : t.tx = ⟨#[]⟩) : (right t = true ∧ n + cnt t ≤ 1000 ∧ d + hgt t ≤ 61) ↔ (rightL t.ks = true ∧ n + 1 + cntL t.ks ≤ 1000 ∧ d + 1 + hgtL t.ks ≤ 61) := by
  rw [right_eq, cnt_eq, hgt_eq, hnm, hlf]
  simp [htx]
  omega
theorem mea_no (t : Tree) (d n : Int) (h : 1000 < n + 1 ∨ 60 < d ∨ nameOK t.nm = false ∨ t.lf = false ∧ t.tx ≠ ⟨#[]⟩) : ¬ (right t = true ∧ n + cnt t ≤ 1000 ∧ d + hgt t ≤ 61) := by
  have h1 := cnt_pos t
  have h2 := hgt_pos t
  rw [right_eq]
  rintro ⟨h3, h4, h5⟩
  rcases h with h | h | h | ⟨h, h'⟩
  · omega
  · omega
  · simp [h] at h3
  · simp [h, h'] at h3
theorem iMeasure (t : Tree) (hw : wt t ≤ 1099511627776) (d n dp : Int) (hd : 1 ≤ d ∧ d ≤ 61) (hn : 0 ≤ n ∧ n ≤ 1000) : Sy.Fn Try.prog 124 [.p t.enc, .p (I d), .ptr 0 0, .ptr 1 0] (meaB n dp) (meaP t d n) := by
  have ih : ∀ k, k ∈ t.ks → ∀ d n dp : Int, (1 ≤ d ∧ d ≤ 61) → (0 ≤ n ∧ n ≤ 1000) → Sy.Fn Try.prog 124 [.p k.enc, .p (I d), .ptr 0 0, .ptr 1 0] (meaB n dp) (meaP k d n) := fun k hk d n dp hd hn => iMeasure k (by have := wt_kid hk; omega) d n dp hd hn
  have hl := wt_len t
  have hww := wt_eq t
  refine fn_intro Try.func124 rfl rfl rfl ?_
  repeat' first | (refine And.intro (fun c => ?_) (fun c => ?_) <;> first | exact absurd c (by decide) | (cases c; done) | (simp only [decide_eq_true_eq, decide_eq_false_iff_not] at c) | skip) | refine callA (iName t.nm (by omega)) ?_ | fail
  all_goals have hwr : wr .i64 (n + 1) = n + 1 := w64 (by omega)
  all_goals first
    | (refine ⟨meaB (wr .i64 (n + 1)) _, ⟨⟨⟨rfl, rfl, trivial⟩, ⟨rfl, rfl, trivial⟩, trivial⟩, rfl⟩, _, _, _, rfl, rfl, ?_, ?_⟩ <;> (have h1 := mea_leaf t d n; have h2 := mea_no t d n; have h3 := mea_leaf_n t; rw [encM_len] at *; grind))
    | (refine ⟨meaB (wr .i64 (n + 1)) _, ⟨⟨⟨rfl, rfl, trivial⟩, ⟨rfl, rfl, trivial⟩, trivial⟩, rfl⟩, _, _, _, rfl, rfl, ?_, ?_⟩ <;> (have h1 := mea_leaf t d n; have h2 := mea_no t d n; have h3 := mea_leaf_n t; grind))
    | skip
  rename_i cn _ _ cd _ _ _ _ cm cl
  rw [hwr] at cn
  have htx : t.tx = ⟨#[]⟩ := by simpa using c
  have hnm : nameOK t.nm = true := by simpa using cm
  have hnode := mea_node t d n hnm cl htx
  refine ⟨Int × Int × Int, fun x => ([(1, .p (I d)), (2, .ptr 0 0), (3, .ptr 1 0), (53, .p (.lst (encM t.ks))), (54, .p (I t.ks.length)), (55, .p (I x.1))], meaB x.2.1 x.2.2),
    fun x m => 0 ≤ x.1 ∧ x.1 ≤ t.ks.length ∧ m = (t.ks.length - x.1).toNat ∧ 0 ≤ x.2.1 ∧ x.2.1 ≤ 1000 ∧ x.2.1 + cntL (t.ks.drop x.1.toNat) = n + 1 + cntL t.ks ∧ ((rightL (t.ks.drop x.1.toNat) = true ∧ x.2.1 + cntL (t.ks.drop x.1.toNat) ≤ 1000 ∧ d + 1 + hgtL (t.ks.drop x.1.toNat) ≤ 61) ↔ (rightL t.ks = true ∧ n + 1 + cntL t.ks ≤ 1000 ∧ d + 1 + hgtL t.ks ≤ 61)),
    ⟨(0, n + 1, _), _, ⟨by simp, by simp, rfl, by simp; omega, by simp; omega, by simp, by simp⟩, [], ⟨rfl, rfl, rfl, rfl, congrArg (fun x : Nat => AV.p (I x)) (encM_len t.ks).symm, rfl, trivial⟩, ⟨⟨rfl, congrArg (fun x => AV.p (I x)) hwr.symm, trivial⟩, ⟨rfl, rfl, trivial⟩, trivial⟩, rfl⟩, ?_⟩
  rintro ⟨i, n1, dp1⟩ m ⟨h0, h1, rfl, h2, h3, h4, hr⟩
  simp only at h0 h1 h2 h3 h4 hr
  refine And.intro (fun c => ?_) (fun c => ?_) <;> simp only [decide_eq_true_eq, decide_eq_false_iff_not] at c
  · obtain ⟨k, hk, hm, hdr⟩ := drop_cons h0 c
    rw [hdr, cntL] at h4
    rw [hdr, cntL, rightL, hgtL] at hr
    have hkp := cnt_pos k
    have hkh := hgt_pos k
    have hcl := cntL_pos (t.ks.drop (i + 1).toNat)
    have hhl := hgtL_pos (t.ks.drop (i + 1).toNat)
    refine And.intro h0 (Exists.intro k.enc (And.intro (encM_get hk) (And.intro rfl ?_)))
    refine callG [0, 1] (ih k hm (wrap64 (d + 1)) n1 dp1 (by rw [w64 (by omega)]; omega) (by omega)) rfl (fun K hk => hk) ?_
    rw [w64 (n := d + 1) (by omega)]
    rintro rs τ' hl' ⟨b, n', dp', rfl, rfl, hb, hn'⟩
    refine And.intro (fun c2 => ?_) (fun c2 => ?_)
    · refine ⟨meaB n' dp', ⟨⟨⟨rfl, rfl, trivial⟩, ⟨rfl, rfl, trivial⟩, trivial⟩, rfl⟩, _, _, _, rfl, rfl, ?_, ?_⟩
      · rw [hnode, ← hr]
        have hbf : b = false := by simpa using c2
        rw [hbf] at hb
        constructor
        · intro h; cases h
        · rintro ⟨h5, h6, h7⟩
          rw [Bool.and_eq_true] at h5
          exact hb.mpr ⟨h5.1, by omega, by omega⟩
      · intro h; cases h
    · have hbt : b = true := by simpa using c2
      have hb3 := hb.mp hbt
      refine ⟨(i + 1, n', dp'), _, ⟨by simp; omega, by simp; omega, rfl, by simp; rw [hn' hbt]; omega, by simp; rw [hn' hbt]; omega, by simp; rw [hn' hbt]; omega, ?_⟩, by simp; omega, [], ⟨rfl, rfl, rfl, rfl, rfl, congrArg (fun x => AV.p (I x)) (w64 (by omega)).symm, trivial⟩, ⟨⟨rfl, rfl, trivial⟩, ⟨rfl, rfl, trivial⟩, trivial⟩, rfl⟩
      rw [← hr]
      simp only
      rw [hn' hbt, hb3.1, Bool.true_and]
      constructor
      · rintro ⟨h5, h6, h7⟩; exact ⟨h5, by omega, by omega⟩
      · rintro ⟨h5, h6, h7⟩; exact ⟨h5, by omega, by omega⟩
  · rw [drop_end (l := t.ks) (i := i) (by omega)] at h4 hr
    simp only [rightL, cntL, hgtL, Int.add_zero, true_and] at h4 hr
    refine ⟨meaB n1 dp1, ⟨⟨⟨rfl, rfl, trivial⟩, ⟨rfl, rfl, trivial⟩, trivial⟩, rfl⟩, _, _, _, rfl, rfl, ?_, ?_⟩
    · rw [hnode, ← hr]
      simp; omega
    · intro _; rw [cnt_eq]; omega
termination_by SizeOf.sizeOf t
decreasing_by exact kid_lt hk
theorem iTreeOK (t : Tree) (hw : wt t ≤ 1099511627776) : FnP Try.prog 103 [t.enc] [B (okT t)] := by
  refine fn_intro Try.func103 rfl rfl rfl ?_
  refine callG [1, 2] (iMeasure t hw 1 0 0 (by omega) (by omega)) rfl (fun K hk => hk) ?_
  rintro rs τ' hl' ⟨b, n', dp', rfl, rfl, hb, hn'⟩
  refine ⟨[], ⟨trivial, rfl⟩, congrArg (fun x => [AV.p (B x)]) ?_, rfl⟩
  have h := okT_eq t
  have : (1 : Int) + hgt t ≤ 61 ↔ hgt t ≤ 60 := by omega
  rw [Int.zero_add, this, ← h] at hb
  cases b <;> cases hh : okT t <;> simp_all
end Go.Proofs.Ytnnalcglfgapbaa.Z
