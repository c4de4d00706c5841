/- FnRenamed, plain: the walk over a term is total. -/
import Derived.Test.YtegpjjnedbbpjaaRnL
set_option linter.unusedVariables false
set_option linter.unusedSimpArgs false
namespace Go.Proofs.Ytegpjjnedbbpjaa.Z
open Go Go.RowKit Go.Proofs.Sy Go.Proofs
set_option maxRecDepth 100000
/-- How long a state's rows are. -/
def szW (s : gl12Scoper) : Nat := s.g_.edges_.length + s.g_.decls_.length + s.g_.refs_.length + s.decls_.length + s.refs_.length
theorem downT {n : Nat} {p : List Int} (i : Int) (h : p.length ≤ 1000000000) : m_spec_l12Down n p i = some (p ++ [i]) := by
  unfold m_spec_l12Down
  rw [gp_pos (by simp; omega), gp_pos (by simp; omega)]
theorem walkL (n : Nat) (t : Tree) (self : gl12Scoper → Tree → List Int → Int → Option gl12Scoper) (path : List Int) (sc : Int) (hp : path.length ≤ 100000000) (hw : wt t ≤ 100000000) (M : Nat)
    (hs : ∀ q ∈ t.ks, ∀ (s : gl12Scoper) (i : Int), szW s + 5 * wt q ≤ M → ∃ s', self s q (path ++ [i]) sc = some s' ∧ szW s' ≤ szW s + 5 * wt q) :
    ∀ (r pre : List Tree) (k : Nat) (s : gl12Scoper), t.ks = pre ++ r → r.length < k → szW s + 5 * wtL r ≤ M → ∃ s', m_spec_l12Scoper_walk_l6 self n t path sc k (pre.length : Int) s.g_.scopes_ s.g_.edges_ s.g_.decls_ s.g_.refs_ s.decls_ s.refs_ = some s' ∧ szW s' ≤ szW s + 5 * wtL r
  | [], pre, k, s, h, hk, hm => by
    obtain ⟨k, rfl⟩ : ∃ m, k = m + 1 := ⟨k - 1, by simp at hk; omega⟩
    have hl : ¬ (pre.length : Int) < ((encM t.ks).length : Int) := by rw [encM_len, h]; simp
    exact ⟨s, by rw [m_spec_l12Scoper_walk_l6, decide_eq_false hl]; rfl, by omega⟩
  | q :: r, pre, k, s, h, hk, hm => by
    obtain ⟨k, rfl⟩ : ∃ m, k = m + 1 := ⟨k - 1, by simp at hk; omega⟩
    have hlen : t.ks.length = pre.length + (r.length + 1) := by rw [h]; simp
    have h1 := wt_len t
    have p2 : (pre.length : Int) < ((encM t.ks).length : Int) := by rw [encM_len]; omega
    have ei : ix t.ks (pre.length : Int) = some q := by rw [h, ixp]
    simp only [wtL] at hm ⊢
    obtain ⟨s1, e1, b1⟩ := hs q (by rw [h]; simp) s (pre.length : Int) (by omega)
    obtain ⟨s2, e2, b2⟩ := walkL n t self path sc hp hw M hs r (pre ++ [q]) k s1 (by rw [h]; simp) (by simp at hk; omega) (by omega)
    refine ⟨s2, ?_, by omega⟩
    rw [m_spec_l12Scoper_walk_l6, decide_eq_true p2]
    have e1' : self (gl12Scoper.mk (gSg.mk s.g_.scopes_ s.g_.edges_ s.g_.decls_ s.g_.refs_) s.decls_ s.refs_) q (path ++ [(pre.length : Int)]) sc = some s1 := e1
    simp only [cond_true, ei, Option.bind_some, downT (pre.length : Int) (n := n) (p := path) (by omega), e1', wln pre q (by omega), e2]
theorem walkT : ∀ (n : Nat) (t : Tree) (s : gl12Scoper) (path : List Int) (sc : Int), wt t + 40 ≤ n → Sh t → wt t ≤ 100000000 → path.length + wt t ≤ 100000000 → szW s + 5 * wt t ≤ 1000000000 → ∃ s', m_spec_l12Scoper_walk n s t path sc = some s' ∧ szW s' ≤ szW s + 5 * wt t
  | 0, t, s, path, sc, hn, sh, hw, hp, hs => by omega
  | n + 1, t, s, path, sc, hn, sh, hw, hp, hs => by
    have h1 := wt_len t
    have h2 := wt_eq t
    have h3 := wt_pos t
    have kid : ∀ q ∈ t.ks, Sh q → ∀ (s : gl12Scoper) (i : Int) (sc : Int), szW s + 5 * wt q ≤ 1000000000 → ∃ s', m_spec_l12Scoper_walk n s q (path ++ [i]) sc = some s' ∧ szW s' ≤ szW s + 5 * wt q := fun q hq hsh s i sc hm => by
      have := wt_kid hq
      exact walkT n q s (path ++ [i]) sc (by omega) hsh (by omega) (by simp; omega) hm
    have sz : szW s = s.g_.edges_.length + s.g_.decls_.length + s.g_.refs_.length + s.decls_.length + s.refs_.length := rfl
    unfold m_spec_l12Scoper_walk
    cases sh with
    | leaf _ hl =>
      rw [hl, cond_true]
      cases decide (t.nm = ⟨#[73, 100]⟩) with
      | true =>
        rw [cond_true, gp_pos (by simp; omega), gp_pos (by simp; omega)]
        exact ⟨_, rfl, by simp only [szW, List.length_append, List.length_singleton]; omega⟩
      | false => exact ⟨s, rfl, by omega⟩
    | node _ hl n1 n2 hk =>
      rw [hl, decide_eq_false n1, decide_eq_false n2]
      simp only [cond_false, Bool.not_false, cond_true, m_spec_l12Scoper_walk_j5]
      obtain ⟨s', e, b⟩ := walkL n t (m_spec_l12Scoper_walk n) path sc (by omega) hw 1000000000 (fun q hq s i hm => kid q hq (hk q hq) s i sc hm) t.ks [] n s rfl (by omega) (by omega)
      exact ⟨s', e, by omega⟩
    | bnd _ hl h0 hl2 hl3 hk =>
      have j3 : ∃ s', m_spec_l12Scoper_walk_j3 (m_spec_l12Scoper_walk n) n s t path sc = some s' ∧ szW s' ≤ szW s + 5 * wt t := by
        obtain ⟨x0, hx0, _⟩ := ix_tot (l := t.ks) (i := 0) (by omega) (by omega)
        have hwr : wr .i64 (((encM t.ks).length : Int) - 1) = ((t.ks.length - 1 : Nat) : Int) := by rw [encM_len]; exact (w64 (by omega)).trans (by omega)
        obtain ⟨z, hz, hzm⟩ := ix_tot (l := t.ks) (i := ((t.ks.length - 1 : Nat) : Int)) (by omega) (by omega)
        have hz' : t.ks[t.ks.length - 1]? = some z := by unfold ix at hz; rw [if_pos (by omega)] at hz; simpa using hz
        have shz := hk _ z (by omega) hz'
        have wz := wt_kid hzm
        have j4 : ∀ s1 : gl12Scoper, szW s1 + 5 * wt z ≤ 1000000000 → ∃ s', m_spec_l12Scoper_walk_j4 (m_spec_l12Scoper_walk n) n s t path s1.g_.scopes_ s1.g_.edges_ s1.g_.decls_ s1.g_.refs_ s1.decls_ s1.refs_ = some s' ∧ szW s' ≤ szW s1 + 5 * wt z := fun s1 hs1 => by
          obtain ⟨s', e, b⟩ := kid z hzm shz s1 ((t.ks.length - 1 : Nat) : Int) s.g_.scopes_ hs1
          have e' : m_spec_l12Scoper_walk n (gl12Scoper.mk (gSg.mk s1.g_.scopes_ s1.g_.edges_ s1.g_.decls_ s1.g_.refs_) s1.decls_ s1.refs_) z (path ++ [((t.ks.length - 1 : Nat) : Int)]) s.g_.scopes_ = some s' := e
          refine ⟨s', ?_, b⟩
          unfold m_spec_l12Scoper_walk_j4
          rw [hwr, hz]
          simp only [Option.bind_some, downT (n := n) (p := path) _ (show path.length ≤ 1000000000 by omega), e']
        unfold m_spec_l12Scoper_walk_j3
        rw [gp_pos (by simp; omega), hx0, Option.bind_some, gp_pos (by simp; omega), downT _ (by omega), Option.bind_some, gp_pos (by simp; omega)]
        by_cases hlet : t.nm = ⟨#[76, 101, 116]⟩
        · rw [decide_eq_true hlet, cond_true]
          have hl3 := hl3 hlet
          obtain ⟨y, hy, hym⟩ := ix_tot (l := t.ks) (i := 1) (by omega) (by omega)
          have hy' : t.ks[1]? = some y := by unfold ix at hy; rw [if_pos (by omega)] at hy; exact hy
          have two : wt y + wt z + 1 ≤ wt t := by
            match hks : t.ks, hl3 with
            | [a, b, c], _ =>
              rw [hks] at hy' hz' h2
              simp at hy' hz'
              subst hy'; subst hz'
              simp only [wtL] at h2
              omega
          rw [hy, Option.bind_some, downT _ (by omega), Option.bind_some]
          obtain ⟨s1, e1, b1⟩ := kid y hym (hk 1 y (by omega) hy') (gl12Scoper.mk (gSg.mk (wr .i64 (s.g_.scopes_ + 1)) (s.g_.edges_ ++ [(gSEdge.mk s.g_.scopes_ sc 1)]) (s.g_.decls_ ++ [(gSpot.mk s.g_.scopes_ x0.tx)]) s.g_.refs_) (s.decls_ ++ [path ++ [0]]) s.refs_) 1 sc (by simp only [szW, List.length_append, List.length_singleton]; omega)
          simp only [szW, List.length_append, List.length_singleton] at b1
          rw [e1, Option.bind_some]
          obtain ⟨s', e2, b2⟩ := j4 s1 (by simp only [szW]; omega)
          exact ⟨s', e2, by simp only [szW] at b2 ⊢; omega⟩
        · rw [decide_eq_false hlet, cond_false]
          obtain ⟨s', e2, b2⟩ := j4 (gl12Scoper.mk (gSg.mk (wr .i64 (s.g_.scopes_ + 1)) (s.g_.edges_ ++ [(gSEdge.mk s.g_.scopes_ sc 1)]) (s.g_.decls_ ++ [(gSpot.mk s.g_.scopes_ x0.tx)]) s.g_.refs_) (s.decls_ ++ [path ++ [0]]) s.refs_) (by simp only [szW, List.length_append, List.length_singleton]; omega)
          simp only [szW, List.length_append, List.length_singleton] at b2
          exact ⟨s', e2, by simp only [szW]; omega⟩
      rw [hl, cond_false]
      rcases h0 with h0 | h0
      · rw [decide_eq_true h0]
        exact j3
      · rw [decide_eq_false (show ¬ t.nm = ⟨#[76, 97, 109]⟩ by rw [h0]; decide), decide_eq_true h0]
        exact j3
end Go.Proofs.Ytegpjjnedbbpjaa.Z
