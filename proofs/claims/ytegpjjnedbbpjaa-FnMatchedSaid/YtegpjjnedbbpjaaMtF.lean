/- Patterns: Places of both, TreeAt, the loop of the law. -/
import Derived.Test.YtegpjjnedbbpjaaMtE
set_option linter.unusedVariables false
set_option linter.unusedSimpArgs false
namespace Go.Proofs.Ytegpjjnedbbpjaa.Z
open Go Go.RowKit Go.Proofs.Sy Go.Proofs
set_option maxRecDepth 100000
mutual
def pl (p : Tree) : Tree → List Int → List (List Int)
  | ⟨n, x, f, ks⟩, path => (if (mt p ⟨n, x, f, ks⟩ []).2 = true then [path] else []) ++ plL p ks path 0
def plL (p : Tree) : List Tree → List Int → Nat → List (List Int)
  | [], _, _ => []
  | k :: ks, path, i => pl p k (path ++ [(i : Int)]) ++ plL p ks path (i + 1)
end
theorem pl_eq (p t : Tree) (path : List Int) : pl p t path = (if (mt p t []).2 = true then [path] else []) ++ plL p t.ks path 0 := by cases t; rfl
mutual
theorem pl_len (p : Tree) : ∀ (t : Tree) (path : List Int), (pl p t path).length ≤ wt t
  | ⟨n, x, f, ks⟩, path => by
    have hw := wt_eq ⟨n, x, f, ks⟩
    have := plL_len p ks path 0
    simp only [pl, List.length_append]
    simp only [] at hw
    split <;> simp only [List.length_singleton, List.length_nil] <;> omega
theorem plL_len (p : Tree) : ∀ (l : List Tree) (path : List Int) (i : Nat), (plL p l path i).length ≤ wtL l
  | [], path, i => by simp [plL]
  | k :: ks, path, i => by
    have h1 := pl_len p k (path ++ [(i : Int)])
    have h2 := plL_len p ks path (i + 1)
    simp only [plL, List.length_append, wtL]
    omega
end
theorem mPlacesSL (n : Nat) (p t : Tree) (path : List Int) (self : Tree → Tree → List Int → Option (List (List Int))) (hw : wt t ≤ 10000000000) (hp : path.length ≤ 10000000000) (hs : ∀ q ∈ t.ks, ∀ i : Int, self p q (path ++ [i]) = some (pl p q (path ++ [i]))) :
    ∀ (r pre : List Tree) (k : Nat) (o : List (List Int)), t.ks = pre ++ r → r.length < k → o.length + wtL r ≤ 20000000000 → m_spec_l11Places_l9 self p t path k (pre.length : Int) o = some (o ++ plL p r path pre.length)
  | [], pre, k, o, h, hk, ho => by
    obtain ⟨k, rfl⟩ : ∃ m, k = m + 1 := ⟨k - 1, by simp at hk; omega⟩
    have hl : ¬ (pre.length : Int) < ((encM t.ks).length : Int) := by rw [encM_len, h]; simp
    rw [m_spec_l11Places_l9, decide_eq_false hl]
    simp [plL, m_spec_l11Places_j6]
  | q :: r, pre, k, o, h, hk, ho => by
    obtain ⟨k, rfl⟩ : ∃ m, k = m + 1 := ⟨k - 1, by simp at hk; omega⟩
    obtain ⟨p1, p2, p3⟩ := pre_len h (by omega)
    simp only [wtL] at ho
    have hl := pl_len p q (path ++ [(pre.length : Int)])
    rw [m_spec_l11Places_l9, decide_eq_true p2]
    rw [show ix t.ks (pre.length : Int) = some q by rw [h, ixp]]
    simp only [cond_true, Option.bind_some, gp_pos (show ([] : List Int).length + path.length ≤ 68719476736 by simp; omega), gp_pos (show path.length + ([(pre.length : Int)] : List Int).length ≤ 68719476736 by simp; omega), hs q p3]
    rw [gp_pos (show o.length + (pl p q (path ++ [(pre.length : Int)])).length ≤ 68719476736 by omega)]
    simp only [m_spec_l11Places_j10, wln pre q p1]
    rw [mPlacesSL n p t path self hw hp hs r (pre ++ [q]) k _ (by rw [h]; simp) (by simp at hk; omega) (by rw [List.length_append]; omega)]
    simp [plL]
theorem mPlacesS (p : Tree) (hp : wt p ≤ 1000000000) (W : Nat) (hW : W ≤ 1000000000) : ∀ (n : Nat) (t : Tree) (path : List Int), wt t + wt p + W + 5 ≤ n → wt t ≤ W → path.length + wt t ≤ 10000000000 → m_spec_l11Places n p t path = some (pl p t path)
  | 0, t, path, h, hw, hl => by omega
  | n + 1, t, path, h, hw, hl => by
    have h1 := wt_len t
    have h2 := wt_eq t
    have h3 := wt_pos t
    have go : ∀ o : List (List Int), o.length ≤ 1 → m_spec_l11Places_j1 (m_spec_l11Places n) n p t path o = some (o ++ plL p t.ks path 0) := fun o ho =>
      mPlacesSL n p t path (m_spec_l11Places n) (by omega) (by omega) (fun q hq i => by
        have := wt_kid hq
        exact mPlacesS p hp W hW n q (path ++ [i]) (by omega) (by omega) (by simp; omega)) t.ks [] n o rfl (by omega) (by omega)
    unfold m_spec_l11Places
    rw [mMatchS W hW n p t [] (by simp; omega) (by simp; omega) hw (fun b hb => by simp at hb), pl_eq]
    simp only [Option.bind_some]
    cases (mt p t []).2 with
    | true => simp only [cond_true, if_true, gp_pos (show ([] : List (List Int)).length + ([path] : List (List Int)).length ≤ 68719476736 by simp), go [path] (by simp)]
    | false => simp only [cond_false, Bool.false_eq_true, if_false, go [] (by simp)]
theorem take_self (l : List Int) : (l.take ((l.map I).length : Int).toNat).drop (0 : Int).toNat = l := by simp
theorem mEachL (p t : Tree) (path : List Int) (self : Tree → List Int → Tree → List (List Int) → Option (Tree × List (List Int))) (hw : wt t ≤ 10000000000) (hp : path.length ≤ 10000000000) (M : Nat) (hM : M ≤ 20000000000) (hs : ∀ q ∈ t.ks, ∀ (i : Int) (o : List (List Int)), o.length + wt q ≤ M → self q (path ++ [i]) p o = some (p, o ++ pl p q (path ++ [i]))) :
    ∀ (r pre : List Tree) (k : Nat) (o : List (List Int)), t.ks = pre ++ r → r.length < k → o.length + wtL r ≤ M → m_impl_each_f1_l1 self t path k (pre.length : Int) p o = some (p, o ++ plL p r path pre.length)
  | [], pre, k, o, h, hk, ho => by
    obtain ⟨k, rfl⟩ : ∃ m, k = m + 1 := ⟨k - 1, by simp at hk; omega⟩
    have hl : ¬ (pre.length : Int) < ((encM t.ks).length : Int) := by rw [encM_len, h]; simp
    rw [m_impl_each_f1_l1, decide_eq_false hl]
    simp [plL]
  | q :: r, pre, k, o, h, hk, ho => by
    obtain ⟨k, rfl⟩ : ∃ m, k = m + 1 := ⟨k - 1, by simp at hk; omega⟩
    obtain ⟨p1, p2, p3⟩ := pre_len h (by omega)
    simp only [wtL] at ho
    have hl := pl_len p q (path ++ [(pre.length : Int)])
    rw [m_impl_each_f1_l1, decide_eq_true p2]
    rw [show ix t.ks (pre.length : Int) = some q by rw [h, ixp]]
    simp only [cond_true, Option.bind_some, take_self]
    rw [gp_pos (by simp), gp_pos (show path.length + ([(pre.length : Int)] : List Int).length ≤ 68719476736 by simp; omega)]
    simp only [hs q p3 (pre.length : Int) o (by omega), Option.bind_some, wln pre q p1]
    rw [mEachL p t path self hw hp M hM hs r (pre ++ [q]) k _ (by rw [h]; simp) (by simp at hk; omega) (by rw [List.length_append]; omega)]
    simp [plL]
theorem mEach (p : Tree) (hp : wt p ≤ 1000000000) (W : Nat) (hW : W ≤ 1000000000) : ∀ (n : Nat) (t : Tree) (path : List Int) (o : List (List Int)), wt t + wt p + W + 5 ≤ n → wt t ≤ W → path.length + wt t ≤ 10000000000 → o.length + wt t ≤ 20000000000 → m_impl_each_f1 n t path p o = some (p, o ++ pl p t path)
  | 0, t, path, o, h, hw, hl, ho => by omega
  | n + 1, t, path, o, h, hw, hl, ho => by
    have h1 := wt_len t
    have h2 := wt_eq t
    have h3 := wt_pos t
    have go : ∀ o' : List (List Int), o'.length ≤ o.length + 1 → m_impl_each_f1_l1 (m_impl_each_f1 n) t path n 0 p o' = some (p, o' ++ plL p t.ks path 0) := fun o' ho' =>
      mEachL p t path (m_impl_each_f1 n) (by omega) (by omega) 20000000000 (Nat.le_refl _) (fun q hq i o hm => by
        have := wt_kid hq
        exact mEach p hp W hW n q (path ++ [i]) o (by omega) (by omega) (by simp; omega) hm) t.ks [] n o' rfl (by omega) (by omega)
    unfold m_impl_each_f1 m_impl_Places_1
    rw [mMatchI W hW n p t [] (by simp; omega) (by simp; omega) hw (fun b hb => by simp at hb), pl_eq]
    simp only [Option.bind_some]
    cases (mt p t []).2 with
    | true =>
      simp only [cond_true, if_true, gp_pos (show ([] : List Int).length + path.length ≤ 68719476736 by simp; omega), gp_pos (show o.length + ([path] : List (List Int)).length ≤ 68719476736 by simp; omega), Option.bind_some]
      rw [go _ (by simp)]
      simp
    | false =>
      simp only [cond_false, Bool.false_eq_true, if_false, Option.bind_some]
      rw [go _ (by simp)]
      simp
theorem mPl_s {n : Nat} {p t : Tree} (hn : wt p + 2 * wt t + 5 ≤ n) (hp : wt p ≤ 1000000000) (ht : wt t ≤ 1000000000) (c : (pok p && okT t) = true) : m_spec_Places n p t = some (pl p t [], 0) := by
  simp only [Bool.and_eq_true] at c
  unfold m_spec_Places
  simp only [mPatS (n := n) (t := p) (by omega) (by omega), Option.bind_some, m_spec_TreeOK, gp_pos (show wt t ≤ 1099511627776 by omega), c.1, c.2, Bool.not_true, cond_false, m_spec_Places_j2, mPlacesS p hp (wt t) ht n t [] (by omega) (Nat.le_refl _) (by simp; omega)]
theorem mPl_i {n : Nat} {p t : Tree} (hn : wt p + 2 * wt t + 5 ≤ n) (hp : wt p ≤ 1000000000) (ht : wt t ≤ 1000000000) (c : (pok p && okT t) = true) : m_impl_Places n p t = some (pl p t [], 0) := by
  simp only [Bool.and_eq_true] at c
  unfold m_impl_Places
  simp only [mPatI (n := n) (t := p) (by omega) (by omega), Option.bind_some, m_impl_TreeOK, gp_pos (show wt t ≤ 1099511627776 by omega), c.1, c.2, Bool.not_true, cond_false, m_impl_Places_j2, mEach p hp (wt t) ht n t [] [] (by omega) (Nat.le_refl _) (by simp; omega) (by simp; omega), List.nil_append]
/-! ### rows are the same -/
theorem mSameIntsL (a : List Int) (ha : a.length ≤ 100000000000) : ∀ (r pre : List Int) (k : Nat), a = pre ++ r → r.length < k → m_laws_sameInts_l3 a a k (pre.length : Int) = some true
  | [], pre, k, h, hk => by
    obtain ⟨k, rfl⟩ : ∃ m, k = m + 1 := ⟨k - 1, by simp at hk; omega⟩
    have hl : ¬ (pre.length : Int) < ((a.map I).length : Int) := by rw [List.length_map, h]; simp
    rw [m_laws_sameInts_l3, decide_eq_false hl]; rfl
  | q :: r, pre, k, h, hk => by
    obtain ⟨k, rfl⟩ : ∃ m, k = m + 1 := ⟨k - 1, by simp at hk; omega⟩
    have h2 : a.length = pre.length + (r.length + 1) := by rw [h]; simp
    have p2 : (pre.length : Int) < ((a.map I).length : Int) := by rw [List.length_map]; omega
    rw [m_laws_sameInts_l3, decide_eq_true p2]
    rw [show ix a (pre.length : Int) = some q by rw [h, ixp]]
    simp only [cond_true, Option.bind_some, bne_self_eq_false, cond_false, wln pre q (by omega)]
    exact mSameIntsL a ha r (pre ++ [q]) k (by rw [h]; simp) (by simp at hk; omega)
theorem mSameInts {n : Nat} {a : List Int} (ha : a.length ≤ 100000000000) (hn : a.length < n) : m_laws_sameInts n a a = some true := by
  unfold m_laws_sameInts
  rw [bne_self_eq_false]
  exact mSameIntsL a ha a [] n rfl hn
theorem mSameRowsL (n : Nat) (a : List (List Int)) (ha : a.length ≤ 100000000000) (hs : ∀ q ∈ a, q.length ≤ 100000000000 ∧ q.length < n) : ∀ (r pre : List (List Int)) (k : Nat), a = pre ++ r → r.length < k → m_laws_sameRows_l3 n a a k (pre.length : Int) = some true
  | [], pre, k, h, hk => by
    obtain ⟨k, rfl⟩ : ∃ m, k = m + 1 := ⟨k - 1, by simp at hk; omega⟩
    have hl : ¬ (pre.length : Int) < ((a.map (eL I)).length : Int) := by rw [List.length_map, h]; simp
    rw [m_laws_sameRows_l3, decide_eq_false hl]; rfl
  | q :: r, pre, k, h, hk => by
    obtain ⟨k, rfl⟩ : ∃ m, k = m + 1 := ⟨k - 1, by simp at hk; omega⟩
    have h2 : a.length = pre.length + (r.length + 1) := by rw [h]; simp
    have p2 : (pre.length : Int) < ((a.map (eL I)).length : Int) := by rw [List.length_map]; omega
    obtain ⟨q1, q2⟩ := hs q (by rw [h]; simp)
    rw [m_laws_sameRows_l3, decide_eq_true p2]
    rw [show ix a (pre.length : Int) = some q by rw [h, ixp]]
    simp only [cond_true, Option.bind_some, mSameInts q1 q2, Bool.not_true, cond_false, wln pre q (by omega)]
    exact mSameRowsL n a ha hs r (pre ++ [q]) k (by rw [h]; simp) (by simp at hk; omega)
theorem mSameRows {n : Nat} {a : List (List Int)} (ha : a.length ≤ 100000000000) (hn : a.length < n) (hs : ∀ q ∈ a, q.length ≤ 100000000000 ∧ q.length < n) : m_laws_sameRows n a a = some true := by
  unfold m_laws_sameRows
  rw [bne_self_eq_false]
  exact mSameRowsL n a ha hs a [] n rfl hn
/-! ### what stands at a place -/
def atT : Tree → List Int → Option Tree
  | t, [] => some t
  | t, i :: r => (ix t.ks i).bind fun k => atT k r
theorem ix_ge {α : Type} {l : List α} {i : Int} {x : α} (h : ix l i = some x) : 0 ≤ i ∧ i < (l.length : Int) := by
  unfold ix at h
  by_cases c : 0 ≤ i
  · rw [if_pos c] at h
    have := (List.getElem?_eq_some_iff.mp h).1
    omega
  · rw [if_neg c] at h; cases h
mutual
theorem pl_at (p : Tree) : ∀ (t : Tree) (path q : List Int), q ∈ pl p t path → ∃ r s, q = path ++ r ∧ atT t r = some s ∧ (mt p s []).2 = true ∧ wt s ≤ wt t ∧ (okT t = true → okT s = true) ∧ r.length ≤ wt t
  | ⟨n, x, f, ks⟩, path, q, hq => by
    have hw := wt_eq ⟨n, x, f, ks⟩
    simp only [] at hw
    simp only [pl, List.mem_append] at hq
    rcases hq with hq | hq
    · by_cases c : (mt p ⟨n, x, f, ks⟩ []).2 = true
      · rw [if_pos c] at hq
        exact ⟨[], _, by simpa using hq, rfl, c, Nat.le_refl _, id, by simp⟩
      · rw [if_neg c] at hq; simp at hq
    · obtain ⟨i, k, r, s, hk, e, h1, h2, h3, h4, h5⟩ := plL_at p ks path 0 q hq
      have hm : k ∈ ks := List.mem_of_getElem? hk
      have h6 := wt_kid (t := ⟨n, x, f, ks⟩) hm
      refine ⟨((i : Nat) : Int) :: r, s, by rw [e]; simp, ?_, h2, by omega, fun h => h4 (okT_kid h hm), by simp; omega⟩
      simp only [atT]
      rw [show ix ks ((i : Nat) : Int) = some k by unfold ix; rw [if_pos (by omega)]; simpa using hk]
      exact h1
theorem plL_at (p : Tree) : ∀ (l : List Tree) (path : List Int) (j : Nat) (q : List Int), q ∈ plL p l path j → ∃ i k r s, l[i]? = some k ∧ q = path ++ ((j + i : Nat) : Int) :: r ∧ atT k r = some s ∧ (mt p s []).2 = true ∧ wt s ≤ wt k ∧ (okT k = true → okT s = true) ∧ r.length ≤ wt k
  | [], path, j, q, hq => by simp [plL] at hq
  | k :: ks, path, j, q, hq => by
    simp only [plL, List.mem_append] at hq
    rcases hq with hq | hq
    · obtain ⟨r, s, e, h⟩ := pl_at p k (path ++ [(j : Int)]) q hq
      exact ⟨0, k, r, s, rfl, by rw [e]; simp, h⟩
    · obtain ⟨i, k', r, s, hk, e, h⟩ := plL_at p ks path (j + 1) q hq
      exact ⟨i + 1, k', r, s, by simpa using hk, by rw [e, show j + 1 + i = j + (i + 1) by omega], h⟩
end
theorem mAtTL (a : List Int) (ha : a.length ≤ 100000000000) : ∀ (r pre : List Int) (k : Nat) (t s : Tree), a = pre ++ r → r.length < k → atT t r = some s → m_impl_at_l13 a k (pre.length : Int) t = some (s, true)
  | [], pre, k, t, s, h, hk, hs => by
    obtain ⟨k, rfl⟩ : ∃ m, k = m + 1 := ⟨k - 1, by simp at hk; omega⟩
    have hl : ¬ (pre.length : Int) < ((a.map I).length : Int) := by rw [List.length_map, h]; simp
    rw [m_impl_at_l13, decide_eq_false hl]
    simp only [atT, Option.some.injEq] at hs
    rw [hs]; rfl
  | q :: r, pre, k, t, s, h, hk, hs => by
    obtain ⟨k, rfl⟩ : ∃ m, k = m + 1 := ⟨k - 1, by simp at hk; omega⟩
    have h2 : a.length = pre.length + (r.length + 1) := by rw [h]; simp
    have p2 : (pre.length : Int) < ((a.map I).length : Int) := by rw [List.length_map]; omega
    simp only [atT] at hs
    cases e : ix t.ks q with
    | none => rw [e] at hs; cases hs
    | some t' =>
      rw [e, Option.bind_some] at hs
      obtain ⟨g1, g2⟩ := ix_ge e
      rw [m_impl_at_l13, decide_eq_true p2]
      rw [show ix a (pre.length : Int) = some q by rw [h, ixp]]
      simp only [cond_true, Option.bind_some, decide_eq_false (show ¬ q < 0 by omega), cond_false, decide_eq_false (show ¬ q ≥ ((encM t.ks).length : Int) by rw [encM_len]; omega), m_impl_at_j15, e, wln pre q (by omega)]
      exact mAtTL a ha r (pre ++ [q]) k t' s (by rw [h]; simp) (by simp at hk; omega) hs
theorem mTreeAt {n : Nat} {t s : Tree} {a : List Int} (ha : a.length ≤ 1000000000) (hn : a.length + wt s + 5 ≤ n) (ht : wt t ≤ 1000000000) (hs : wt s ≤ 1000000000) (ok : okT t = true) (h : atT t a = some s) : m_impl_TreeAt n t a = some (s, 0) := by
  unfold m_impl_TreeAt m_impl_at
  have e : m_impl_at_l13 a n 0 t = some (s, true) := mAtTL a (by omega) a [] n t s rfl (by omega) h
  simp only [m_impl_TreeOK, gp_pos (show wt t ≤ 1099511627776 by omega), Option.bind_some, ok, Bool.not_true, cond_false, e, mCopyI n s (by omega) (by omega)]
/-! ### the law's loop -/
def emp : List (List Int) → Nat
  | [] => 0
  | q :: r => (if q.length = 0 then 1 else 0) + emp r
theorem emp_app (a b : List (List Int)) : emp (a ++ b) = emp a + emp b := by
  induction a with
  | nil => simp [emp]
  | cons q a ih => simp only [List.cons_append, emp, ih]; omega
theorem emp_zero : ∀ {l : List (List Int)}, (∀ q ∈ l, q ≠ []) → emp l = 0
  | [], h => rfl
  | q :: l, h => by
    have h1 : ¬ q.length = 0 := fun e => h q (by simp) (List.length_eq_zero_iff.mp e)
    have h2 : emp l = 0 := emp_zero (fun q hq => h q (List.mem_cons_of_mem _ hq))
    simp only [emp, if_neg h1, h2]
theorem emp_pl (p t : Tree) : emp (pl p t []) = if (mt p t []).2 = true then 1 else 0 := by
  have h : emp (plL p t.ks [] 0) = 0 := emp_zero fun q hq => by
    obtain ⟨i, k, r, s, _, e, _⟩ := plL_at p t.ks [] 0 q hq
    rw [e]; simp
  rw [pl_eq, emp_app, h]
  cases (mt p t []).2 <;> simp [emp]
theorem mLoop (n : Nat) (pt : Tree × Tree) (mr : List gBind × Bool × Int) (R : List (List Int) × Int) (hR : R.1.length ≤ 10000000000)
    (hs : ∀ q ∈ R.1, ∃ s b, m_impl_TreeAt n pt.2 q = some (s, 0) ∧ m_impl_Match n pt.1 s = some (b, true, 0)) :
    ∀ (r pre : List (List Int)) (k : Nat) (c : Nat), R.1 = pre ++ r → r.length < k → c ≤ pre.length → m_laws_FnMatched_l19 n pt mr R k (c : Int) (pre.length : Int) = some (xor false (mr.2.1 == (((c + emp r : Nat) : Int) == 1)))
  | [], pre, k, c, h, hk, hc => by
    obtain ⟨k, rfl⟩ : ∃ m, k = m + 1 := ⟨k - 1, by simp at hk; omega⟩
    have hl : ¬ (pre.length : Int) < ((R.1.map (eL I)).length : Int) := by rw [List.length_map, h]; simp
    rw [m_laws_FnMatched_l19, decide_eq_false hl]; rfl
  | q :: r, pre, k, c, h, hk, hc => by
    obtain ⟨k, rfl⟩ : ∃ m, k = m + 1 := ⟨k - 1, by simp at hk; omega⟩
    have h2 : R.1.length = pre.length + (r.length + 1) := by rw [h]; simp
    have p2 : (pre.length : Int) < ((R.1.map (eL I)).length : Int) := by rw [List.length_map]; omega
    have ei : ix R.1 (pre.length : Int) = some q := by rw [h, ixp]
    obtain ⟨s, b, e1, e2⟩ := hs q (by rw [h]; simp)
    have w : wr .i64 ((c : Int) + 1) = ((c + 1 : Nat) : Int) := (w64 (by omega)).trans (by simp)
    rw [m_laws_FnMatched_l19, decide_eq_true p2, ei]
    simp only [cond_true, Option.bind_some, e1, m_laws_FnMatched_j22, bne_self_eq_false, cond_false, e2, Bool.not_true, ei, m_laws_FnMatched_j21, wln pre q (by omega), w]
    by_cases z : q.length = 0
    · have : (((q.map I).length : Int) == 0) = true := by simp [z]
      rw [this, cond_true]
      rw [mLoop n pt mr R hR hs r (pre ++ [q]) k (c + 1) (by rw [h]; simp) (by simp at hk; omega) (by simp; omega)]
      simp only [emp, if_pos z, Nat.add_assoc]
    · have : (((q.map I).length : Int) == 0) = false := by simp; exact fun h => z (by simp [h])
      rw [this, cond_false]
      rw [mLoop n pt mr R hR hs r (pre ++ [q]) k c (by rw [h]; simp) (by simp at hk; omega) (by simp; omega)]
      simp only [emp, if_neg z, Nat.zero_add]
end Go.Proofs.Ytegpjjnedbbpjaa.Z
