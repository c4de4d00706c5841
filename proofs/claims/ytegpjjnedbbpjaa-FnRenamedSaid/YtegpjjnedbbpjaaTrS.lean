/- Paths in trees. -/
import Derived.Test.YtegpjjnedbbpjaaTrQ
set_option linter.unusedVariables false
set_option linter.unusedSimpArgs false
namespace Go.Proofs.Ytegpjjnedbbpjaa.Z
open Go Go.RowKit Go.Proofs.Sy Go.Proofs
set_option maxRecDepth 100000
theorem sBetween (n a b : Int) : FnP Try.prog 101 [I n, I a, I b] [B (decide (a ≤ n) && decide (n ≤ b))] := by
  refine fn_intro Try.func101 rfl rfl rfl ?_
  repeat' first | (refine And.intro (fun c => ?_) (fun c => ?_) <;> first | exact absurd c (by decide) | (cases c; done) | (simp only [decide_eq_true_eq, decide_eq_false_iff_not] at c) | skip) | fail
  all_goals exact ⟨[], ⟨trivial, rfl⟩, congrArg (fun x => [AV.p (B x)]) (by grind), rfl⟩
/-- The tree at a path. -/
def atP : Tree → List Int → Option Tree
  | t, [] => some t
  | t, i :: p => if 0 ≤ i then match t.ks[i.toNat]? with
      | some k => atP k p
      | none => none
    else none
theorem il_get {p : List Int} {i : Int} (h0 : 0 ≤ i) (h : i < p.length) : ∃ x, (il p)[i.toNat]? = some (I x) ∧ p.drop i.toNat = x :: p.drop (i + 1).toNat := by
  obtain ⟨x, h1, _, h2⟩ := drop_cons h0 h
  exact ⟨x, by rw [il, List.getElem?_map, h1]; rfl, h2⟩
theorem iAt (t : Tree) (p : List Int) (hp : p.length ≤ 1099511627776) (hw : wt t ≤ 1099511627776) : FnP Try.prog 85 [t.enc, .lst (il p)] [(match atP t p with | some k => k.enc | none => (⟨⟨#[]⟩, ⟨#[]⟩, false, []⟩ : Tree).enc), B (atP t p).isSome] := by
  refine fn_intro Try.func85 rfl rfl rfl ?_
  refine ⟨Int × Tree, fun x => ([(2, .ptr 0 0), (4, .ptr 1 0), (8, .p (.lst (il p))), (9, .p (I p.length)), (10, .p (I x.1))], [.box 31 [.p (S x.2.nm), .p (S x.2.tx), .p (B x.2.lf), .p (.lst (encM x.2.ks))], .box 31 [.p (S ⟨#[]⟩), .p (S ⟨#[]⟩), .p (B false), .tl []]]),
    fun x n => 0 ≤ x.1 ∧ x.1 ≤ p.length ∧ n = (p.length - x.1).toNat ∧ wt x.2 ≤ 1099511627776 ∧ atP x.2 (p.drop x.1.toNat) = atP t p,
    ⟨(0, t), _, ⟨by simp, by simp, rfl, hw, by simp⟩, [], ⟨rfl, rfl, rfl, congrArg (fun x : Nat => AV.p (I x)) (il_len p).symm, rfl, trivial⟩, ⟨⟨rfl, rfl, rfl, rfl, rfl, trivial⟩, ⟨rfl, rfl, rfl, rfl, rfl, trivial⟩, trivial⟩, rfl⟩, ?_⟩
  rintro ⟨i, s⟩ n ⟨h0, h1, rfl, h2, hr⟩
  simp only at h0 h1 h2 hr
  have hwl := wt_len s
  refine And.intro (fun c => ?_) (fun c => ?_) <;> simp only [decide_eq_true_eq, decide_eq_false_iff_not] at c
  · obtain ⟨x, hx, hd⟩ := il_get h0 c
    rw [hd, atP] at hr
    refine And.intro h0 (Exists.intro (I x) (And.intro hx (And.intro rfl ?_)))
    repeat' first | (refine And.intro (fun c => ?_) (fun c => ?_) <;> first | exact absurd c (by decide) | (cases c; done) | (simp only [decide_eq_true_eq, decide_eq_false_iff_not] at c) | skip) | fail
    have hlen : (encM s.ks).length = s.ks.length := encM_len _
    · have hn : atP t p = none := by
        rw [← hr]
        by_cases hx0 : 0 ≤ x
        · rw [if_pos hx0, List.getElem?_eq_none (by omega)]
        · rw [if_neg hx0]
      rw [hn]
      exact .inl ⟨[], ⟨trivial, rfl⟩, rfl, rfl⟩
    · have hlen : (encM s.ks).length = s.ks.length := encM_len _
      obtain ⟨k, hk, hm, _⟩ := drop_cons (l := s.ks) (i := x) (by omega) (by omega)
      have hwk := wt_kid hm
      rw [if_pos (by omega), hk] at hr
      refine And.intro (show 0 ≤ x by omega) (Exists.intro k.enc (And.intro (encM_get hk) (And.intro rfl ?_)))
      exact ⟨(i + 1, k), _, ⟨by simp; omega, by simp; omega, rfl, by simp; omega, hr⟩, by simp; omega, [], ⟨rfl, rfl, rfl, rfl, congrArg (fun x => AV.p (I x)) (w64 (by omega)).symm, trivial⟩, ⟨⟨rfl, rfl, rfl, rfl, rfl, trivial⟩, ⟨rfl, rfl, rfl, rfl, rfl, trivial⟩, trivial⟩, rfl⟩
    · have hx0 : ¬ 0 ≤ x := fun h => by
        rename_i c1 _ _ _ _ _
        have c2 := of_decide_eq_true (show decide (x < 0) = true from c1)
        omega
      have hn : atP t p = none := by rw [← hr, if_neg hx0]
      rw [hn]
      exact .inl ⟨[], ⟨trivial, rfl⟩, rfl, rfl⟩
  · rw [drop_end (l := p) (i := i) (by omega), atP] at hr
    rw [← hr]
    exact ⟨[], ⟨trivial, rfl⟩, rfl, rfl⟩
end Go.Proofs.Ytegpjjnedbbpjaa.Z
