/- The law FnTreePut. -/
import Derived.Test.YtgdecbliegelmaaTrX
set_option linter.unusedVariables false
set_option linter.unusedSimpArgs false
namespace Go.Proofs.Ytgdecbliegelmaa.Z
open Go Go.RowKit Go.Proofs.Sy Go.Proofs
set_option maxRecDepth 100000
theorem walk_len : ∀ (n : Nat) (u : Cu) (t : Tree) (p : List Int), (walkP n u t p).1.length ≤ p.length + n := by
  intro n
  induction n with
  | zero => intro u t p; simp [walkP]
  | succ n ih =>
    intro u t p
    simp only [walkP]
    repeat' split
    all_goals first
      | (refine Nat.le_trans (ih _ _ _) ?_; simp; omega)
      | (simp; done)
      | (simp; omega)
theorem put_big (code : List UInt8) (h : code.length ≤ 2147483648) : wt (putM code h).1 ≤ 1000000 ∧ wt (putM code h).2.2 ≤ 1000000 ∧ (putM code h).2.1.length ≤ 1000002 := by
  have h1 := putS_big (cu0 code h)
  refine ⟨h1, any_big _, ?_⟩
  show (pathM _ _).1.length ≤ _
  have h2 := walk_len (wt (putS (drawTree 3 (cu0 code h))).1) (putS (drawTree 3 (cu0 code h))).2 (putS (drawTree 3 (cu0 code h))).1 []
  unfold pathM endP
  simp at h2
  split <;> simp <;> omega
theorem right_kid : ∀ {l : List Tree} {k : Tree}, rightL l = true → k ∈ l → right k = true
  | a :: l, k, h, hm => by
    simp only [rightL, Bool.and_eq_true] at h
    rcases List.mem_cons.mp hm with rfl | hm
    · exact h.1
    · exact right_kid h.2 hm
theorem cnt_kid : ∀ {l : List Tree} {k : Tree}, k ∈ l → cnt k ≤ cntL l
  | a :: l, k, hm => by
    have := cntL_pos l; have := cnt_pos a
    simp only [cntL]
    rcases List.mem_cons.mp hm with rfl | hm
    · omega
    · have := cnt_kid hm; omega
theorem hgt_kid : ∀ {l : List Tree} {k : Tree}, k ∈ l → hgt k ≤ hgtL l
  | a :: l, k, hm => by
    simp only [hgtL]
    rcases List.mem_cons.mp hm with rfl | hm
    · omega
    · have := hgt_kid hm; omega
theorem ok_kid {t k : Tree} (h : okT t = true) (hm : k ∈ t.ks) : okT k = true := by
  rw [okT_eq] at h ⊢
  obtain ⟨h1, h2, h3⟩ := h
  rw [right_eq, Bool.and_eq_true] at h1
  rw [cnt_eq] at h2
  rw [hgt_eq] at h3
  have := cnt_kid hm; have := hgt_kid hm
  exact ⟨right_kid h1.2 hm, by omega, by omega⟩
theorem ok_at : ∀ (p : List Int) (t k : Tree), okT t = true → atP t p = some k → okT k = true
  | [], t, k, h, ha => by simp only [atP] at ha; cases ha; exact h
  | i :: p, t, k, h, ha => by
    obtain ⟨_, q, _, hm, he, _⟩ := atP_cons (p := p) (by rw [ha]; rfl)
    exact ok_at p q k (ok_kid h hm) (by rw [← he]; exact ha)
theorem at_cons {t k : Tree} {i : Int} (p : List Int) (h0 : 0 ≤ i) (hk : t.ks[i.toNat]? = some k) : atP t (i :: p) = atP k p := by
  simp only [atP]; rw [if_pos h0, hk]
theorem at_put : ∀ (p : List Int) (t u : Tree), (atP t p).isSome = true → atP (putP t p u) p = some u
  | [], t, u, _ => rfl
  | i :: p, t, u, h => by
    obtain ⟨h0, q, hq, hm, he, hs⟩ := atP_cons h
    rw [put_cons hq]
    have hlt := (List.getElem?_eq_some_iff.mp hq).1
    rw [at_cons (k := putP q p u) p h0 (by simp [hlt])]
    exact at_put p q u hs
theorem put_back : ∀ (p : List Int) (t u k : Tree), atP t p = some k → putP (putP t p u) p k = t
  | [], t, u, k, h => by simp only [atP] at h; cases h; rfl
  | i :: p, t, u, k, h => by
    obtain ⟨h0, q, hq, hm, he, hs⟩ := atP_cons (p := p) (by rw [h]; rfl)
    have hlt := (List.getElem?_eq_some_iff.mp hq).1
    rw [put_cons hq, put_cons (k := putP q p u) (by simp [hlt]), put_back p q u k (by rw [← he]; exact h)]
    cases t with
    | mk nm tx lf ks =>
      simp only [Tree.mk.injEq, true_and]
      simp only [List.set_set]
      simp only at hq hlt
      rw [List.getElem?_eq_getElem hlt] at hq
      cases hq
      exact List.set_getElem_self hlt
theorem put_kids {t u : Tree} {i : Int} {p : List Int} (h : (atP t (i :: p)).isSome = true) : (putP t (i :: p) u).ks.length = t.ks.length ∧ ∀ j : Nat, (j : Int) ≠ i → (putP t (i :: p) u).ks[j]? = t.ks[j]? := by
  obtain ⟨h0, q, hq, hm, he, hs⟩ := atP_cons h
  rw [put_cons hq]
  refine ⟨by simp, fun j hj => ?_⟩
  simp only
  rw [List.getElem?_set_ne (by omega)]
theorem putR_ok {t u : Tree} {p : List Int} (h : (putR t p u).2 = 0) : okT t = true ∧ okT u = true ∧ (atP t p).isSome = true ∧ okT (putP t p u) = true ∧ putR t p u = (putP t p u, 0) := by
  unfold putR at h ⊢
  by_cases h1 : okT t = false ∨ okT u = false
  · rw [if_pos h1] at h; cases h
  · rw [if_neg h1] at h ⊢
    by_cases h2 : (atP t p).isSome = false
    · rw [if_pos h2] at h; cases h
    · rw [if_neg h2] at h ⊢
      by_cases h3 : okT (putP t p u) = false
      · rw [if_pos h3] at h; cases h
      · rw [if_neg h3]
        exact ⟨by simp_all, by simp_all, (Bool.not_eq_false _).mp h2, (Bool.not_eq_false _).mp h3, rfl⟩
theorem putR_of {t u : Tree} {p : List Int} (h1 : okT t = true) (h2 : okT u = true) (h3 : (atP t p).isSome = true) (h4 : okT (putP t p u) = true) : putR t p u = (putP t p u, 0) := by
  unfold putR
  rw [if_neg (by rw [h1, h2]; simp), if_neg (by rw [h3]; simp), if_neg (by rw [h4]; simp)]
theorem getR_of {t k : Tree} {p : List Int} (h1 : okT t = true) (h2 : atP t p = some k) : getR t p = (k, 0) := by
  unfold getR
  rw [if_neg (by rw [h1]; simp), h2]
end Go.Proofs.Ytgdecbliegelmaa.Z
