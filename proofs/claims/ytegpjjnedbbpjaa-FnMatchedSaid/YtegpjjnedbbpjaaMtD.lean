/- Patterns: the printed matches and fillings are mt and fl. -/
import Derived.Test.YtegpjjnedbbpjaaMtC
set_option linter.unusedVariables false
set_option linter.unusedSimpArgs false
namespace Go.Proofs.Ytegpjjnedbbpjaa.Z
open Go Go.RowKit Go.Proofs.Sy Go.Proofs
set_option maxRecDepth 100000
def Wb (W : Nat) (l : List gBind) : Prop := ∀ b ∈ l, wt b.tree_ ≤ W
theorem Wb_mt {W : Nat} {p t : Tree} {l : List gBind} (h : Wb W l) (ht : wt t ≤ W) : Wb W (mt p t l).1 := go p t l h ht
where
  go : ∀ (p t : Tree) (l : List gBind), Wb W l → wt t ≤ W → Wb W (mt p t l).1
  | ⟨n, x, f, ks⟩, t, l, h, ht => by
    simp only [mt]
    split
    · cases e : fd l x with
      | some b => exact h
      | none =>
        intro b hb
        rcases List.mem_append.mp hb with hb | hb
        · exact h b hb
        · rw [List.mem_singleton.mp hb]; exact ht
    · split
      · exact goL ks t.ks l h (fun q hq => by have := wt_kid hq; omega)
      · exact h
  goL : ∀ (ps ts : List Tree) (l : List gBind), Wb W l → (∀ t ∈ ts, wt t ≤ W) → Wb W (mtL ps ts l).1
  | [], ts, l, h, ht => by simpa [mtL] using h
  | p :: ps, [], l, h, ht => by simpa [mtL] using h
  | p :: ps, t :: ts, l, h, ht => by
    have g := go p t l h (ht t (by simp))
    simp only [mtL]
    split
    · exact goL ps ts _ g (fun q hq => ht q (by simp [hq]))
    · exact g
theorem mMatchIL (self : Tree → Tree → List gBind → Option (List gBind × Bool)) (a b : Tree) (W M : Nat) (hw : wt a ≤ 100000000000)
    (hs : ∀ q ∈ a.ks, ∀ p ∈ b.ks, ∀ l, Wb W l → l.length + wt q ≤ M → self q p l = some (mt q p l)) (hb : ∀ p ∈ b.ks, wt p ≤ W) :
    ∀ (r pre rb pb : List Tree) (k : Nat) (l : List gBind), a.ks = pre ++ r → b.ks = pb ++ rb → pre.length = pb.length → r.length = rb.length → r.length < k → Wb W l → l.length + wtL r ≤ M → m_impl_match_l5 self a b k (pre.length : Int) l = some (mtL r rb l)
  | [], pre, rb, pb, k, l, h, hb', h1, h2, hk, hl, hm => by
    obtain ⟨k, rfl⟩ : ∃ m, k = m + 1 := ⟨k - 1, by simp at hk; omega⟩
    have hl : ¬ (pre.length : Int) < ((encM a.ks).length : Int) := by rw [encM_len, h]; simp
    rw [m_impl_match_l5, decide_eq_false hl]
    cases rb with
    | nil => rfl
    | cons x y => simp at h2
  | q :: r, pre, [], pb, k, l, h, hb', h1, h2, hk, hl, hm => by simp at h2
  | q :: r, pre, p :: rb, pb, k, l, h, hb', h1, h2, hk, hl, hm => by
    obtain ⟨k, rfl⟩ : ∃ m, k = m + 1 := ⟨k - 1, by simp at hk; omega⟩
    obtain ⟨p1, p2, p3⟩ := pre_len h hw
    have e2 : ix b.ks (pre.length : Int) = some p := by rw [hb', h1, ixp]
    have p4 : p ∈ b.ks := by rw [hb']; simp
    simp only [wtL] at hm
    rw [m_impl_match_l5, decide_eq_true p2]
    rw [show ix a.ks (pre.length : Int) = some q by rw [h, ixp], e2]
    simp only [cond_true, Option.bind_some, hs q p3 p p4 l hl (by omega), mtL, wln pre q p1]
    obtain ⟨l2, g1, g2⟩ := mt_grow q p l
    have gl : (mt q p l).1.length ≤ l.length + wt q := by rw [g1, List.length_append]; omega
    cases c : (mt q p l).2 with
    | true =>
      rw [if_pos rfl]
      exact mMatchIL self a b W M hw hs hb r (pre ++ [q]) rb (pb ++ [p]) k _ (by rw [h]; simp) (by rw [hb']; simp) (by simp [h1]) (by simpa using h2) (by simp at hk; omega) (Wb_mt hl (hb p p4)) (by omega)
    | false => rfl
theorem mMatchI (W : Nat) (hW : W ≤ 1000000000) : ∀ (n : Nat) (a b : Tree) (l : List gBind), wt a + l.length + W + 3 ≤ n → wt a + l.length ≤ 10000000000 → wt b ≤ W → Wb W l → m_impl_match n a b l = some (mt a b l)
  | 0, a, b, l, h, hw, hb, hl => by omega
  | n + 1, a, b, l, h, hw, hb, hl => by
    have h1 := wt_len a
    have h2 := wt_eq a
    have h3 := wt_pos a
    unfold m_impl_match
    rw [mt_eq]
    simp only [mVarI, Option.bind_some]
    cases vR a with
    | true =>
      simp only [cond_true, if_true, mBound0 (l := l) (x := a.tx) (n := n) (by omega) (by omega), Option.bind_some]
      cases e : fd l a.tx with
      | some t =>
        obtain ⟨q, q1, q2, q3⟩ := fd_mem e
        have := hl q q1
        rw [q3] at this
        simp only [bR, cond_true, mSameI n t b (by omega) (by omega), Option.bind_some]
      | none => simp only [bR, cond_false, gp_pos (show l.length + ([(gBind.mk a.tx b)] : List gBind).length ≤ 68719476736 by simp; omega)]
    | false =>
      simp only [cond_false, Bool.false_eq_true, if_false]
      cases d1 : decide (a.nm = b.nm) with
      | false => rfl
      | true =>
      cases d2 : decide (a.tx = b.tx) with
      | false => rfl
      | true =>
      cases d3 : (a.lf == b.lf) with
      | false => simp [xor_bne, m_impl_match_j2]
      | true =>
      by_cases d4 : a.ks.length = b.ks.length
      · have := mMatchIL (m_impl_match n) a b W (l.length + wtL a.ks) (by omega) (fun q hq p hp l' hl' hm => by
          have := wt_kid hq
          have := wt_kid hp
          exact mMatchI W hW n q p l' (by omega) (by omega) (by omega) hl') (fun p hp => by have := wt_kid hp; omega) a.ks [] b.ks [] n l rfl rfl rfl d4 (by omega) hl (by omega)
        simp [xor_bne, m_impl_match_j2, encM_len, d4] at this ⊢
        exact this
      · have e1 : (((a.ks.length : Nat) : Int) != ((b.ks.length : Nat) : Int)) = true := by simp; omega
        have e2 : (a.ks.length == b.ks.length) = false := by simpa using d4
        simp only [Bool.not_true, cond_false, xor_bne, encM_len, e1, e2, cond_true, bne_self_eq_false, Bool.and_false, m_impl_match_j2, Bool.false_eq_true, if_false]
theorem mMatchSL (self : Tree → Tree → List gBind → Option (List gBind × Bool)) (a b : Tree) (W M : Nat) (hw : wt a ≤ 100000000000)
    (hs : ∀ q ∈ a.ks, ∀ p ∈ b.ks, ∀ l, Wb W l → l.length + wt q ≤ M → self q p l = some (mt q p l)) (hb : ∀ p ∈ b.ks, wt p ≤ W) :
    ∀ (r pre rb pb : List Tree) (k : Nat) (l : List gBind), a.ks = pre ++ r → b.ks = pb ++ rb → pre.length = pb.length → r.length = rb.length → r.length + 1 < k → Wb W l → l.length + wtL r ≤ M → m_spec_l11Match_l5 self a b k l true (pre.length : Int) = some (mtL r rb l)
  | [], pre, rb, pb, k, l, h, hb', h1, h2, hk, hl, hm => by
    obtain ⟨k, rfl⟩ : ∃ m, k = m + 1 := ⟨k - 1, by simp at hk; omega⟩
    have hl : ¬ (pre.length : Int) < ((encM a.ks).length : Int) := by rw [encM_len, h]; simp
    rw [m_spec_l11Match_l5, decide_eq_false hl]
    cases rb with
    | nil => rfl
    | cons x y => simp at h2
  | q :: r, pre, [], pb, k, l, h, hb', h1, h2, hk, hl, hm => by simp at h2
  | q :: r, pre, p :: rb, pb, k, l, h, hb', h1, h2, hk, hl, hm => by
    obtain ⟨k, rfl⟩ : ∃ m, k = m + 2 := ⟨k - 2, by simp at hk; omega⟩
    obtain ⟨p1, p2, p3⟩ := pre_len h hw
    have e2 : ix b.ks (pre.length : Int) = some p := by rw [hb', h1, ixp]
    have p4 : p ∈ b.ks := by rw [hb']; simp
    simp only [wtL] at hm
    rw [m_spec_l11Match_l5, decide_eq_true p2]
    rw [show ix a.ks (pre.length : Int) = some q by rw [h, ixp], e2]
    simp only [cond_true, Option.bind_some, hs q p3 p p4 l hl (by omega), mtL, wln pre q p1]
    obtain ⟨l2, g1, g2⟩ := mt_grow q p l
    have gl : (mt q p l).1.length ≤ l.length + wt q := by rw [g1, List.length_append]; omega
    cases c : (mt q p l).2 with
    | true =>
      rw [if_pos rfl]
      exact mMatchSL self a b W M hw hs hb r (pre ++ [q]) rb (pb ++ [p]) (k + 1) _ (by rw [h]; simp) (by rw [hb']; simp) (by simp [h1]) (by simpa using h2) (by simp at hk; omega) (Wb_mt hl (hb p p4)) (by omega)
    | false =>
      rw [m_spec_l11Match_l5]
      cases decide (((pre ++ [q]).length : Int) < ((encM a.ks).length : Int)) <;> rfl
theorem mMatchS (W : Nat) (hW : W ≤ 1000000000) : ∀ (n : Nat) (a b : Tree) (l : List gBind), wt a + l.length + W + 3 ≤ n → wt a + l.length ≤ 10000000000 → wt b ≤ W → Wb W l → m_spec_l11Match n a b l = some (mt a b l)
  | 0, a, b, l, h, hw, hb, hl => by omega
  | n + 1, a, b, l, h, hw, hb, hl => by
    have h1 := wt_len a
    have h2 := wt_eq a
    have h3 := wt_pos a
    unfold m_spec_l11Match
    rw [mt_eq]
    simp only [mVarS, Option.bind_some]
    cases vR a with
    | true =>
      obtain ⟨i, ei, hi⟩ := mFind (l := l) (x := a.tx) (n := n) (by omega) (by omega)
      simp only [cond_true, if_true, ei, Option.bind_some]
      rcases hi with ⟨e, rfl⟩ | ⟨h0, q, eq, e⟩
      · rw [e]
        have : decide ((-1 : Int) ≥ 0) = false := rfl
        simp only [this, cond_false, gp_pos (show l.length + ([(gBind.mk a.tx b)] : List gBind).length ≤ 68719476736 by simp; omega), gp_pos (show ([] : List gBind).length + l.length ≤ 68719476736 by simp; omega)]
      · obtain ⟨q', q1, q2, q3⟩ := fd_mem e
        have := hl q' q1
        rw [q3] at this
        rw [e]
        simp only [decide_eq_true (show i ≥ 0 from h0), cond_true, eq, Option.bind_some, mSameS n q.tree_ b (by omega) (by omega)]
    | false =>
      simp only [cond_false, Bool.false_eq_true, if_false]
      cases d1 : decide (a.nm = b.nm) with
      | false => rfl
      | true =>
      cases d2 : decide (a.tx = b.tx) with
      | false => cases d3 : (a.lf == b.lf) <;> simp [xor_bne, m_spec_l11Match_j2]
      | true =>
      cases d3 : (a.lf == b.lf) with
      | false => simp [xor_bne, m_spec_l11Match_j2]
      | true =>
      by_cases d4 : a.ks.length = b.ks.length
      · have := mMatchSL (m_spec_l11Match n) a b W (l.length + wtL a.ks) (by omega) (fun q hq p hp l' hl' hm => by
          have := wt_kid hq
          have := wt_kid hp
          exact mMatchS W hW n q p l' (by omega) (by omega) (by omega) hl') (fun p hp => by have := wt_kid hp; omega) a.ks [] b.ks [] n l rfl rfl rfl d4 (by omega) hl (by omega)
        simp [xor_bne, m_spec_l11Match_j2, encM_len, d4] at this ⊢
        exact this
      · have e1 : (((a.ks.length : Nat) : Int) != ((b.ks.length : Nat) : Int)) = true := by simp; omega
        have e2 : (a.ks.length == b.ks.length) = false := by simpa using d4
        simp only [Bool.not_true, cond_false, xor_bne, encM_len, e1, e2, cond_true, bne_self_eq_false, Bool.and_false, m_spec_l11Match_j2, Bool.false_eq_true, if_false]
/-! ### filling -/
theorem mFillIL (self : Tree → List gBind → Option (Tree × Bool)) (a : Tree) (l : List gBind) (hw : wt a ≤ 10000000000) (hs : ∀ q ∈ a.ks, self q l = some (fl q l, true)) : ∀ (r pre : List Tree) (k : Nat) (o : List Tree), a.ks = pre ++ r → r.length < k → o.length = pre.length → m_impl_fill_l3 self a l k (pre.length : Int) o = some (Tree.mk a.nm a.tx a.lf (o ++ flL r l), true)
  | [], pre, k, o, h, hk, ho => by
    obtain ⟨k, rfl⟩ : ∃ m, k = m + 1 := ⟨k - 1, by simp at hk; omega⟩
    have hl : ¬ (pre.length : Int) < ((encM a.ks).length : Int) := by rw [encM_len, h]; simp
    rw [m_impl_fill_l3, decide_eq_false hl]
    simp [flL, m_impl_fill_j2]
  | q :: r, pre, k, o, h, hk, ho => by
    obtain ⟨k, rfl⟩ : ∃ m, k = m + 1 := ⟨k - 1, by simp at hk; omega⟩
    obtain ⟨p1, p2, p3⟩ := pre_len h (by omega)
    have h1 := wt_len a
    have h2 : a.ks.length = pre.length + (r.length + 1) := by rw [h]; simp
    rw [m_impl_fill_l3, decide_eq_true p2]
    rw [show ix a.ks (pre.length : Int) = some q by rw [h, ixp]]
    simp only [cond_true, Option.bind_some, hs q p3, Bool.not_true, cond_false, gp_pos (show o.length + ([fl q l] : List Tree).length ≤ 68719476736 by simp; omega), wln pre q p1]
    rw [mFillIL self a l hw hs r (pre ++ [q]) k (o ++ [fl q l]) (by rw [h]; simp) (by simp at hk; omega) (by simp [ho])]
    simp [flL]
theorem vsL_mem {q : Tree} {x : ByteArray} : ∀ {l : List Tree}, q ∈ l → x ∈ vs q → x ∈ vsL l
  | [], h, _ => by simp at h
  | p :: l, h, hx => by
    simp only [vsL, List.mem_append]
    rcases List.mem_cons.mp h with rfl | h
    · exact .inl hx
    · exact .inr (vsL_mem h hx)
theorem mFillI (l : List gBind) (hl : l.length ≤ 100000000000) : ∀ (n : Nat) (a : Tree), wt a + l.length + 1 ≤ n → wt a ≤ 10000000000 → (∀ x ∈ vs a, fd l x ≠ none) → m_impl_fill n a l = some (fl a l, true)
  | 0, a, h, hw, hv => by omega
  | n + 1, a, h, hw, hv => by
    have h1 := wt_len a
    have h3 := wt_pos a
    rw [vs_eq] at hv
    unfold m_impl_fill
    rw [fl_eq]
    simp only [mVarI, Option.bind_some]
    cases c : vR a with
    | true =>
      rw [c] at hv
      simp only [cond_true, if_true, mBound (l := l) (x := a.tx) (n := n) (by omega) (by omega), Option.bind_some]
      cases e : fd l a.tx with
      | none => exact absurd e (hv a.tx (by simp))
      | some b => rfl
    | false =>
      rw [c] at hv
      simp only [Bool.false_eq_true, if_false] at hv
      simp only [cond_false, Bool.false_eq_true, if_false]
      exact mFillIL (m_impl_fill n) a l hw (fun q hq => by have := wt_kid hq; exact mFillI l hl n q (by omega) (by omega) (fun x hx => hv x (vsL_mem hq hx))) a.ks [] n [] rfl (by omega) rfl
theorem mFillSL (self : Tree → List gBind → Option Tree) (a : Tree) (l : List gBind) (hw : wt a ≤ 10000000000) (hs : ∀ q ∈ a.ks, self q l = some (fl q l)) : ∀ (r pre : List Tree) (k : Nat) (o : List Tree), a.ks = pre ++ r → r.length < k → o.length = pre.length → m_spec_l11Fill_l3 self a l k (pre.length : Int) o = some (Tree.mk a.nm a.tx a.lf (o ++ flL r l))
  | [], pre, k, o, h, hk, ho => by
    obtain ⟨k, rfl⟩ : ∃ m, k = m + 1 := ⟨k - 1, by simp at hk; omega⟩
    have hl : ¬ (pre.length : Int) < ((encM a.ks).length : Int) := by rw [encM_len, h]; simp
    rw [m_spec_l11Fill_l3, decide_eq_false hl]
    simp [flL, m_spec_l11Fill_j2]
  | q :: r, pre, k, o, h, hk, ho => by
    obtain ⟨k, rfl⟩ : ∃ m, k = m + 1 := ⟨k - 1, by simp at hk; omega⟩
    obtain ⟨p1, p2, p3⟩ := pre_len h (by omega)
    have h1 := wt_len a
    have h2 : a.ks.length = pre.length + (r.length + 1) := by rw [h]; simp
    rw [m_spec_l11Fill_l3, decide_eq_true p2]
    rw [show ix a.ks (pre.length : Int) = some q by rw [h, ixp]]
    simp only [cond_true, Option.bind_some, hs q p3, Bool.not_true, cond_false, gp_pos (show o.length + ([fl q l] : List Tree).length ≤ 68719476736 by simp; omega), wln pre q p1]
    rw [mFillSL self a l hw hs r (pre ++ [q]) k (o ++ [fl q l]) (by rw [h]; simp) (by simp at hk; omega) (by simp [ho])]
    simp [flL]
theorem mFillS (l : List gBind) (hl : l.length ≤ 100000000000) : ∀ (n : Nat) (a : Tree), wt a + l.length + 1 ≤ n → wt a ≤ 10000000000 → (∀ x ∈ vs a, fd l x ≠ none) → m_spec_l11Fill n a l = some (fl a l)
  | 0, a, h, hw, hv => by omega
  | n + 1, a, h, hw, hv => by
    have h1 := wt_len a
    have h3 := wt_pos a
    rw [vs_eq] at hv
    unfold m_spec_l11Fill
    rw [fl_eq]
    simp only [mVarS, Option.bind_some]
    cases c : vR a with
    | true =>
      rw [c] at hv
      obtain ⟨i, ei, hi⟩ := mFind (l := l) (x := a.tx) (n := n) (by omega) (by omega)
      simp only [cond_true, if_true, ei, Option.bind_some]
      rcases hi with ⟨e, rfl⟩ | ⟨h0, q, eq, e⟩
      · exact absurd e (hv a.tx (by simp))
      · rw [eq, e]; rfl
    | false =>
      rw [c] at hv
      simp only [Bool.false_eq_true, if_false] at hv
      simp only [cond_false, Bool.false_eq_true, if_false]
      exact mFillSL (m_spec_l11Fill n) a l hw (fun q hq => by have := wt_kid hq; exact mFillS l hl n q (by omega) (by omega) (fun x hx => hv x (vsL_mem hq hx))) a.ks [] n [] rfl (by omega) rfl
end Go.Proofs.Ytegpjjnedbbpjaa.Z
