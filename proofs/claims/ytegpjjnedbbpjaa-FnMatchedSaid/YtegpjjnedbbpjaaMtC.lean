/- Patterns: the match on trees. -/
import Derived.Test.YtegpjjnedbbpjaaMtB
set_option linter.unusedVariables false
set_option linter.unusedSimpArgs false
namespace Go.Proofs.Ytegpjjnedbbpjaa.Z
open Go Go.RowKit Go.Proofs.Sy Go.Proofs
set_option maxRecDepth 100000
def E0 : Tree := Tree.mk ⟨#[]⟩ ⟨#[]⟩ false []
def fd : List gBind → ByteArray → Option Tree
  | [], _ => none
  | b :: l, x => if b.name_ = x then some b.tree_ else fd l x
theorem fd_app {x : ByteArray} {b : Tree} (l2 : List gBind) : ∀ {l : List gBind}, fd l x = some b → fd (l ++ l2) x = some b
  | [], h => by simp [fd] at h
  | q :: l, h => by
    simp only [List.cons_append, fd] at h ⊢
    split
    · rw [if_pos (by assumption)] at h; exact h
    · rw [if_neg (by assumption)] at h; exact fd_app l2 h
theorem fd_none {x : ByteArray} : ∀ {l : List gBind}, fd l x = none → ∀ q ∈ l, q.name_ ≠ x
  | [], h, q, hq => by simp at hq
  | p :: l, h, q, hq => by
    simp only [fd] at h
    by_cases c : p.name_ = x
    · rw [if_pos c] at h; cases h
    · rw [if_neg c] at h
      rcases List.mem_cons.mp hq with rfl | hq
      · exact c
      · exact fd_none h q hq
theorem fd_new {x : ByteArray} (t : Tree) (l2 : List gBind) : ∀ {l : List gBind}, fd l x = none → fd (l ++ ⟨x, t⟩ :: l2) x = some t
  | [], h => by simp [fd]
  | p :: l, h => by
    simp only [fd, List.cons_append] at h ⊢
    by_cases c : p.name_ = x
    · rw [if_pos c] at h; cases h
    · rw [if_neg c] at h ⊢; exact fd_new t l2 h
theorem fd_mem {x : ByteArray} {b : Tree} : ∀ {l : List gBind}, fd l x = some b → ∃ q ∈ l, q.name_ = x ∧ q.tree_ = b
  | [], h => by simp [fd] at h
  | p :: l, h => by
    simp only [fd] at h
    by_cases c : p.name_ = x
    · rw [if_pos c] at h; exact ⟨p, by simp, c, by simpa using h⟩
    · rw [if_neg c] at h
      obtain ⟨q, h1, h2⟩ := fd_mem h
      exact ⟨q, by simp [h1], h2⟩
def bR (o : Option Tree) : Tree × Bool := match o with | some b => (b, true) | none => (E0, false)
theorem mBound0L (l : List gBind) (x : ByteArray) (hl : l.length ≤ 100000000000) : ∀ (r pre : List gBind) (k : Nat), l = pre ++ r → r.length < k → m_impl_bound_v0_l3 l x k (pre.length : Int) = some (bR (fd r x))
  | [], pre, k, h, hk => by
    obtain ⟨k, rfl⟩ : ∃ m, k = m + 1 := ⟨k - 1, by simp at hk; omega⟩
    have hl : ¬ (pre.length : Int) < ((l.length : Nat) : Int) := by rw [h]; simp
    rw [m_impl_bound_v0_l3, decide_eq_false hl]; rfl
  | q :: r, pre, k, h, hk => by
    obtain ⟨k, rfl⟩ : ∃ m, k = m + 1 := ⟨k - 1, by simp at hk; omega⟩
    have h2 : l.length = pre.length + (r.length + 1) := by rw [h]; simp
    have p2 : (pre.length : Int) < ((l.length : Nat) : Int) := by omega
    rw [m_impl_bound_v0_l3, decide_eq_true p2]
    rw [show ix l (pre.length : Int) = some q by rw [h, ixp]]
    simp only [cond_true, Option.bind_some, fd]
    by_cases c : q.name_ = x
    · rw [decide_eq_true c, if_pos c]; rfl
    · rw [decide_eq_false c, if_neg c, wln pre q (by omega)]
      exact mBound0L l x hl r (pre ++ [q]) k (by rw [h]; simp) (by simp at hk; omega)
theorem mBound0 {n : Nat} {l : List gBind} {x : ByteArray} (hl : l.length ≤ 100000000000) (hn : l.length < n) : m_impl_bound_v0 n l x = some (bR (fd l x)) := mBound0L l x hl l [] n rfl hn
theorem mBoundL (l : List gBind) (x : ByteArray) (hl : l.length ≤ 100000000000) : ∀ (r pre : List gBind) (k : Nat), l = pre ++ r → r.length < k → m_impl_bound_l3 l x k (pre.length : Int) = some (bR (fd r x))
  | [], pre, k, h, hk => by
    obtain ⟨k, rfl⟩ : ∃ m, k = m + 1 := ⟨k - 1, by simp at hk; omega⟩
    have hl : ¬ (pre.length : Int) < ((l.map gBind.enc).length : Int) := by rw [List.length_map, h]; simp
    rw [m_impl_bound_l3, decide_eq_false hl]; rfl
  | q :: r, pre, k, h, hk => by
    obtain ⟨k, rfl⟩ : ∃ m, k = m + 1 := ⟨k - 1, by simp at hk; omega⟩
    have h2 : l.length = pre.length + (r.length + 1) := by rw [h]; simp
    have p2 : (pre.length : Int) < ((l.map gBind.enc).length : Int) := by rw [List.length_map]; omega
    rw [m_impl_bound_l3, decide_eq_true p2]
    rw [show ix l (pre.length : Int) = some q by rw [h, ixp]]
    simp only [cond_true, Option.bind_some, fd]
    by_cases c : q.name_ = x
    · rw [decide_eq_true c, if_pos c]; rfl
    · rw [decide_eq_false c, if_neg c, wln pre q (by omega)]
      exact mBoundL l x hl r (pre ++ [q]) k (by rw [h]; simp) (by simp at hk; omega)
theorem mBound {n : Nat} {l : List gBind} {x : ByteArray} (hl : l.length ≤ 100000000000) (hn : l.length < n) : m_impl_bound n l x = some (bR (fd l x)) := mBoundL l x hl l [] n rfl hn
theorem mFindL (l : List gBind) (x : ByteArray) (hl : l.length ≤ 100000000000) : ∀ (r pre : List gBind) (k : Nat), l = pre ++ r → r.length < k → ∃ i, m_spec_l11Find_l3 l x k (pre.length : Int) = some i ∧ ((fd r x = none ∧ i = -1) ∨ (0 ≤ i ∧ ∃ q, ix l i = some q ∧ fd r x = some q.tree_))
  | [], pre, k, h, hk => by
    obtain ⟨k, rfl⟩ : ∃ m, k = m + 1 := ⟨k - 1, by simp at hk; omega⟩
    have hl : ¬ (pre.length : Int) < ((l.map gBind.enc).length : Int) := by rw [List.length_map, h]; simp
    exact ⟨-1, by rw [m_spec_l11Find_l3, decide_eq_false hl]; rfl, .inl ⟨rfl, rfl⟩⟩
  | q :: r, pre, k, h, hk => by
    obtain ⟨k, rfl⟩ : ∃ m, k = m + 1 := ⟨k - 1, by simp at hk; omega⟩
    have h2 : l.length = pre.length + (r.length + 1) := by rw [h]; simp
    have p2 : (pre.length : Int) < ((l.map gBind.enc).length : Int) := by rw [List.length_map]; omega
    have e : ix l (pre.length : Int) = some q := by rw [h, ixp]
    rw [m_spec_l11Find_l3, decide_eq_true p2, e]
    simp only [cond_true, Option.bind_some, fd]
    by_cases c : q.name_ = x
    · exact ⟨pre.length, by rw [decide_eq_true c]; rfl, .inr ⟨by omega, q, e, by rw [if_pos c]⟩⟩
    · rw [decide_eq_false c, if_neg c, wln pre q (by omega)]
      exact mFindL l x hl r (pre ++ [q]) k (by rw [h]; simp) (by simp at hk; omega)
theorem mFind {n : Nat} {l : List gBind} {x : ByteArray} (hl : l.length ≤ 100000000000) (hn : l.length < n) : ∃ i, m_spec_l11Find n l x = some i ∧ ((fd l x = none ∧ i = -1) ∨ (0 ≤ i ∧ ∃ q, ix l i = some q ∧ fd l x = some q.tree_)) := mFindL l x hl l [] n rfl hn
mutual
def mt : Tree → Tree → List gBind → List gBind × Bool
  | ⟨n, x, f, ks⟩, t, l =>
    if (f && decide (n = ⟨#[86, 97, 114]⟩)) = true then (match fd l x with | some b => (l, decide (b = t)) | none => (l ++ [⟨x, t⟩], true))
    else if (decide (n = t.nm) && decide (x = t.tx) && (f == t.lf) && (ks.length == t.ks.length)) = true then mtL ks t.ks l else (l, false)
def mtL : List Tree → List Tree → List gBind → List gBind × Bool
  | [], _, l => (l, true)
  | _ :: _, [], l => (l, false)
  | k :: ks, t :: ts, l => if (mt k t l).2 = true then mtL ks ts (mt k t l).1 else ((mt k t l).1, false)
end
theorem mt_eq (p t : Tree) (l : List gBind) : mt p t l = if vR p = true then (match fd l p.tx with | some b => (l, decide (b = t)) | none => (l ++ [⟨p.tx, t⟩], true))
    else if (decide (p.nm = t.nm) && decide (p.tx = t.tx) && (p.lf == t.lf) && (p.ks.length == t.ks.length)) = true then mtL p.ks t.ks l else (l, false) := by cases p; rfl
def Bi (T : Tree → Prop) (N : ByteArray → Prop) (l : List gBind) : Prop := (∀ b ∈ l, T b.tree_ ∧ N b.name_) ∧ l.Pairwise (fun a b => a.name_ ≠ b.name_)
mutual
theorem mt_inv {T : Tree → Prop} {N : ByteArray → Prop} (hT : ∀ t, T t → ∀ k ∈ t.ks, T k) : ∀ (p t : Tree) (l : List gBind), Bi T N l → T t → (∀ x ∈ vs p, N x) → Bi T N (mt p t l).1 ∧ ∃ l2, (mt p t l).1 = l ++ l2 ∧ l2.length ≤ wt p
  | ⟨n, x, f, ks⟩, t, l, hl, ht, hx => by
    have hw := wt_eq ⟨n, x, f, ks⟩
    simp only [mt, vs] at hx ⊢
    by_cases c : (f && decide (n = ⟨#[86, 97, 114]⟩)) = true
    · rw [if_pos c] at hx ⊢
      cases h : fd l x with
      | some b => exact ⟨hl, [], by simp, by simp⟩
      | none =>
        refine ⟨⟨fun b hb => ?_, ?_⟩, [⟨x, t⟩], rfl, by simp; omega⟩
        · rcases List.mem_append.mp hb with hb | hb
          · exact hl.1 b hb
          · rw [List.mem_singleton.mp hb]; exact ⟨ht, hx x (by simp)⟩
        · refine List.pairwise_append.mpr ⟨hl.2, List.pairwise_singleton _ _, fun a ha b hb => ?_⟩
          rw [List.mem_singleton.mp hb]
          exact fd_none h a ha
    · rw [if_neg c] at hx ⊢
      split
      · obtain ⟨h1, l2, h2, h3⟩ := mtL_inv hT ks t.ks l hl (fun k hk => hT t ht k hk) hx
        exact ⟨h1, l2, h2, by simp only [] at hw; omega⟩
      · exact ⟨hl, [], by simp, by simp⟩
theorem mtL_inv {T : Tree → Prop} {N : ByteArray → Prop} (hT : ∀ t, T t → ∀ k ∈ t.ks, T k) : ∀ (ps ts : List Tree) (l : List gBind), Bi T N l → (∀ t ∈ ts, T t) → (∀ x ∈ vsL ps, N x) → Bi T N (mtL ps ts l).1 ∧ ∃ l2, (mtL ps ts l).1 = l ++ l2 ∧ l2.length ≤ wtL ps
  | [], ts, l, hl, ht, hx => ⟨hl, [], by simp [mtL], by simp⟩
  | p :: ps, [], l, hl, ht, hx => ⟨hl, [], by simp [mtL], by simp⟩
  | p :: ps, t :: ts, l, hl, ht, hx => by
    simp only [vsL, List.mem_append] at hx
    obtain ⟨h1, l2, h2, h3⟩ := mt_inv hT p t l hl (ht t (by simp)) (fun x h => hx x (.inl h))
    simp only [mtL, wtL]
    split
    · obtain ⟨g1, l3, g2, g3⟩ := mtL_inv hT ps ts (mt p t l).1 h1 (fun t h => ht t (by simp [h])) (fun x h => hx x (.inr h))
      exact ⟨g1, l2 ++ l3, by rw [g2, h2]; simp, by simp; omega⟩
    · exact ⟨h1, l2, h2, by omega⟩
end
theorem mt_grow (p t : Tree) (l : List gBind) : ∃ l2, (mt p t l).1 = l ++ l2 ∧ l2.length ≤ wt p := by
  obtain ⟨h1, h2⟩ : (∀ (p t : Tree) (l : List gBind), ∃ l2, (mt p t l).1 = l ++ l2 ∧ l2.length ≤ wt p) ∧ True := by
    refine ⟨fun p => ?_, trivial⟩
    exact grow p
  exact h1 p t l
where
  grow : ∀ (p t : Tree) (l : List gBind), ∃ l2, (mt p t l).1 = l ++ l2 ∧ l2.length ≤ wt p
  | ⟨n, x, f, ks⟩, t, l => by
    have hw := wt_eq ⟨n, x, f, ks⟩
    simp only [mt]
    split
    · cases h : fd l x with
      | some b => exact ⟨[], by simp, by simp⟩
      | none => exact ⟨[⟨x, t⟩], rfl, by simp; omega⟩
    · split
      · obtain ⟨l2, h2, h3⟩ := growL ks t.ks l
        exact ⟨l2, h2, by simp only [] at hw; omega⟩
      · exact ⟨[], by simp, by simp⟩
  growL : ∀ (ps ts : List Tree) (l : List gBind), ∃ l2, (mtL ps ts l).1 = l ++ l2 ∧ l2.length ≤ wtL ps
  | [], ts, l => ⟨[], by simp [mtL], by simp⟩
  | p :: ps, [], l => ⟨[], by simp [mtL], by simp⟩
  | p :: ps, t :: ts, l => by
    obtain ⟨l2, h2, h3⟩ := grow p t l
    simp only [mtL, wtL]
    split
    · obtain ⟨l3, g2, g3⟩ := growL ps ts (mt p t l).1
      exact ⟨l2 ++ l3, by rw [g2, h2]; simp, by simp; omega⟩
    · exact ⟨l2, h2, by omega⟩
/-! ### filling -/
mutual
def fl : Tree → List gBind → Tree
  | ⟨n, x, f, ks⟩, l => if (f && decide (n = ⟨#[86, 97, 114]⟩)) = true then (fd l x).getD E0 else ⟨n, x, f, flL ks l⟩
def flL : List Tree → List gBind → List Tree
  | [], _ => []
  | k :: ks, l => fl k l :: flL ks l
end
theorem fl_eq (p : Tree) (l : List gBind) : fl p l = if vR p = true then (fd l p.tx).getD E0 else ⟨p.nm, p.tx, p.lf, flL p.ks l⟩ := by cases p; rfl
mutual
theorem mt_fill : ∀ (p t : Tree) (l l3 : List gBind), (mt p t l).2 = true → fl p ((mt p t l).1 ++ l3) = t ∧ ∀ x ∈ vs p, fd ((mt p t l).1 ++ l3) x ≠ none
  | ⟨n, x, f, ks⟩, t, l, l3, h => by
    simp only [mt, fl, vs] at h ⊢
    by_cases c : (f && decide (n = ⟨#[86, 97, 114]⟩)) = true
    · rw [if_pos c] at h ⊢
      rw [if_pos c, if_pos c]
      cases e : fd l x with
      | some b =>
        rw [e] at h
        simp only [decide_eq_true_eq] at h
        simp only [fd_app l3 e, h, Option.getD_some, List.mem_singleton, ne_eq, true_and]
        rintro y rfl; rw [fd_app l3 e]; simp
      | none =>
        simp only [List.append_assoc, List.singleton_append, fd_new t l3 e, Option.getD_some, List.mem_singleton, ne_eq, true_and]
        rintro y rfl; rw [fd_new t l3 e]; simp
    · rw [if_neg c] at h ⊢
      rw [if_neg c, if_neg c]
      by_cases d : (decide (n = t.nm) && decide (x = t.tx) && (f == t.lf) && (ks.length == t.ks.length)) = true
      · rw [if_pos d] at h ⊢
        simp only [Bool.and_eq_true, decide_eq_true_eq, beq_iff_eq] at d
        obtain ⟨⟨⟨d1, d2⟩, d3⟩, d4⟩ := d
        obtain ⟨h1, h2⟩ := mtL_fill ks t.ks l l3 d4 h
        rw [h1]
        exact ⟨by rw [d1, d2, d3]; cases t; rfl, h2⟩
      · rw [if_neg d] at h; simp at h
theorem mtL_fill : ∀ (ps ts : List Tree) (l l3 : List gBind), ps.length = ts.length → (mtL ps ts l).2 = true → flL ps ((mtL ps ts l).1 ++ l3) = ts ∧ ∀ x ∈ vsL ps, fd ((mtL ps ts l).1 ++ l3) x ≠ none
  | [], [], l, l3, hl, h => ⟨rfl, fun x hx => by simp [vsL] at hx⟩
  | [], t :: ts, l, l3, hl, h => by simp at hl
  | p :: ps, [], l, l3, hl, h => by simp at hl
  | p :: ps, t :: ts, l, l3, hl, h => by
    simp only [mtL] at h ⊢
    by_cases c : (mt p t l).2 = true
    · rw [if_pos c] at h ⊢
      obtain ⟨l2, g2, g3⟩ := mt_grow.growL ps ts (mt p t l).1
      obtain ⟨h1, h2⟩ := mtL_fill ps ts (mt p t l).1 l3 (by simpa using hl) h
      obtain ⟨e1, e2⟩ := mt_fill p t l (l2 ++ l3) c
      rw [← List.append_assoc, ← g2] at e1 e2
      refine ⟨by simp only [flL, e1, h1], fun x hx => ?_⟩
      simp only [vsL, List.mem_append] at hx
      rcases hx with hx | hx
      · exact e2 x hx
      · exact h2 x hx
    · rw [if_neg c] at h; simp at h
end
end Go.Proofs.Ytegpjjnedbbpjaa.Z
