/- A tree put at a place of another one. -/
import Derived.Test.YtegpjjnedbbpjaaTrV
set_option linter.unusedVariables false
set_option linter.unusedSimpArgs false
namespace Go.Proofs.Ytegpjjnedbbpjaa.Z
open Go Go.RowKit Go.Proofs.Sy Go.Proofs
set_option maxRecDepth 100000
def putP : Tree → List Int → Tree → Tree
  | _, [], u => u
  | t, i :: p, u => match t.ks[i.toNat]? with
    | some k => ⟨t.nm, t.tx, t.lf, t.ks.set i.toNat (putP k p u)⟩
    | none => t
theorem atP_cons {t : Tree} {i : Int} {p : List Int} (h : (atP t (i :: p)).isSome = true) : 0 ≤ i ∧ ∃ k, t.ks[i.toNat]? = some k ∧ k ∈ t.ks ∧ atP t (i :: p) = atP k p ∧ (atP k p).isSome = true := by
  simp only [atP] at h ⊢
  by_cases h0 : 0 ≤ i
  · rw [if_pos h0] at h ⊢
    cases hk : t.ks[i.toNat]? with
    | none => rw [hk] at h; cases h
    | some k => rw [hk] at h; exact ⟨h0, k, rfl, List.mem_of_getElem? hk, rfl, h⟩
  · rw [if_neg h0] at h; cases h
theorem put_cons {t k : Tree} {i : Int} {p : List Int} {u : Tree} (hk : t.ks[i.toNat]? = some k) : putP t (i :: p) u = ⟨t.nm, t.tx, t.lf, t.ks.set i.toNat (putP k p u)⟩ := by
  simp only [putP, hk]
theorem il_tail (i : Int) (p : List Int) : ((il (i :: p)).take ((il (i :: p)).length : Int).toNat).drop (1 : Int).toNat = il p := by
  rw [List.take_of_length_le (by omega)]; rfl
theorem encM_set (l : List Tree) (n : Nat) (u : Tree) : (encM l).set n u.enc = encM (l.set n u) := by rw [encM_eq, encM_eq, List.map_set]
theorem wtL_set : ∀ (l : List Tree) (n : Nat) (u : Tree), wtL (l.set n u) ≤ wtL l + wt u
  | [], n, u => by simp only [List.set_nil, wtL]; omega
  | a :: l, 0, u => by simp only [List.set_cons_zero, wtL]; omega
  | a :: l, n + 1, u => by have := wtL_set l n u; simp only [List.set_cons_succ, wtL]; omega
theorem wtL_set' : ∀ (l : List Tree) (n : Nat) (k u : Tree), l[n]? = some k → wtL (l.set n u) + wt k = wtL l + wt u
  | [], n, k, u, h => by simp at h
  | a :: l, 0, k, u, h => by simp at h; subst h; simp only [List.set_cons_zero, wtL]; omega
  | a :: l, n + 1, k, u, h => by have := wtL_set' l n k u (by simpa using h); simp only [List.set_cons_succ, wtL]; omega
theorem wt_put : ∀ (p : List Int) (t u : Tree), wt (putP t p u) ≤ wt t + wt u
  | [], t, u => by simp only [putP]; omega
  | i :: p, t, u => by
    cases hk : t.ks[i.toNat]? with
    | none => simp only [putP, hk]; omega
    | some k =>
      rw [put_cons hk, wt_eq, wt_eq t]
      have h1 := wt_put p k u
      have h2 := wtL_set' t.ks i.toNat k (putP k p u) hk
      simp only
      omega
theorem sPut : ∀ (p : List Int) (hp : p.length ≤ 1099511627776) (t u : Tree), (atP t p).isSome = true → wt t ≤ 1099511627776 → FnP Try.prog 164 [t.enc, .lst (il p), u.enc] [(putP t p u).enc]
  | [], hp, t, u, ha, hw => by
    refine fn_intro Try.func164 rfl rfl rfl ?_
    repeat' first | (refine And.intro (fun c => ?_) (fun c => ?_) <;> first | exact absurd c (by decide) | (cases c; done) | (simp only [decide_eq_true_eq, decide_eq_false_iff_not] at c) | skip) | fail
    exact ⟨[], ⟨trivial, rfl⟩, rfl, rfl⟩
  | i :: p, hp, t, u, ha, hw => by
    obtain ⟨h0, k, hk, hm, _, hs⟩ := atP_cons ha
    have hwk := wt_kid hm
    have ih := sPut p (by simp at hp; omega) k u hs (by omega)
    have hc : ∀ l, l = il p → FnP Try.prog 164 [k.enc, .lst l, u.enc] [(putP k p u).enc] := fun l hl => by rw [hl]; exact ih
    have hlen := (List.getElem?_eq_some_iff.mp hk).1
    have hwl := wt_len t
    refine fn_intro Try.func164 rfl rfl rfl ?_
    repeat' first | (refine And.intro (fun c => ?_) (fun c => ?_) <;> first | exact absurd c (by decide) | (cases c; done) | (simp only [decide_eq_true_eq, decide_eq_false_iff_not] at c) | skip) | fail
    refine And.intro trivial ?_
    refine Exists.intro ([] : List PV) ?_
    have hfit : ∀ l : List Tree, fits 4 (encM l) := fun l => by induction l with | nil => trivial | cons a l ih => exact ⟨by rw [enc0_eq]; exact ⟨rfl, rfl⟩, ih⟩
    refine And.intro ⟨Nat.le_refl 0, rfl, hfit t.ks, by rw [encM_len]; exact appfitU 0 t.ks.length (by omega)⟩ ?_
    refine ⟨[0, 1, 2, 3, 4, 5, 6, 7, 8, 9, 10, 11, 12, 13, 14, 15, 16, 1017], [], by decide +kernel, ?_⟩
    refine And.intro (show 0 ≤ (0 : Int) by omega) (Exists.intro (I i) (And.intro rfl (And.intro rfl ?_)))
    refine And.intro (show 0 ≤ (0 : Int) by omega) (Exists.intro (I i) (And.intro rfl (And.intro rfl ?_)))
    refine And.intro (show 0 ≤ i ∧ i < ((0 + (encM t.ks).length : Nat) : Int) by rw [encM_len]; omega) ?_
    refine Exists.intro k.enc (And.intro (show ([] ++ encM t.ks)[0 + i.toNat]? = some k.enc by rw [List.nil_append, Nat.zero_add]; exact encM_get hk) ?_)
    refine And.intro (show 0 ≤ (1 : Int) ∧ (1 : Int) ≤ ((il (i :: p)).length : Int) ∧ ((il (i :: p)).length : Int) ≤ ((il (i :: p)).length : Int) by rw [il_len]; simp; omega) ?_
    refine And.intro (.inr fun y hy => by cases hy; rfl) ?_
    refine callA (hc _ (il_tail i p)) ?_
    refine And.intro (show 0 ≤ i ∧ i < ((0 + (encM t.ks).length : Nat) : Int) by rw [encM_len]; omega) ?_
    refine And.intro (show 0 + i.toNat < ([] ++ encM t.ks).length ∧ PV.fit 4 (putP k p u).enc ∧ 0 = 0 from ⟨by simp [encM_len]; omega, ⟨rfl, rfl⟩, rfl⟩) ?_
    refine .inl (Exists.intro (encM (t.ks.set i.toNat (putP k p u))) (And.intro ⟨by simp [encM_len], ?_⟩ ?_))
    · rw [List.drop_zero, List.nil_append, Nat.zero_add, Nat.zero_add]
      exact (congrArg (List.take _) (encM_set t.ks i.toNat (putP k p u))).trans (List.take_of_length_le (by rw [encM_len, encM_len, List.length_set]; omega))
    · exact ⟨[], ⟨trivial, rfl⟩, by rw [put_cons hk]; rfl, rfl⟩
end Go.Proofs.Ytegpjjnedbbpjaa.Z
