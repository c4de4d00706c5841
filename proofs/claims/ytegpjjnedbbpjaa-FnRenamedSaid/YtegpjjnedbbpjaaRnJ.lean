/- FnRenamed, plain: the draws. -/
import Derived.Test.YtegpjjnedbbpjaaRnI
set_option linter.unusedVariables false
set_option linter.unusedSimpArgs false
namespace Go.Proofs.Ytegpjjnedbbpjaa.Z
open Go Go.RowKit Go.Proofs.Sy Go.Proofs
set_option maxRecDepth 100000
theorem ix_tot {α : Type} {l : List α} {i : Int} (h0 : 0 ≤ i) (h1 : i < (l.length : Int)) : ∃ x, ix l i = some x ∧ x ∈ l := by
  obtain ⟨x, hx⟩ := ix_lt h0 h1
  exact ⟨x, hx, ix_mem hx⟩
theorem pick_lt {k : Int} (hk : 1 ≤ k) (c : Cu) : 0 ≤ (pickM k c).1 ∧ (pickM k c).1 < k := by
  have := pickM_rng k c
  omega
theorem sgL13 (n : Nat) (p : Int × Cu) (h : 0 ≤ p.1 ∧ p.1 < 6) (e : List gSEdge) (d : List gSpot) : ∀ (k : Nat) (i : Int) (c : Cu) (o : List gSpot), 0 ≤ i ∧ i < k → i + o.length ≤ 20 → ∃ g, m_spec_l12DrawSg_l13 n p e d k i c o = some g ∧ g.1.edges_ = e ∧ g.1.decls_ = d ∧ (g.1.refs_.length : Int) ≤ 20
  | 0, i, c, o, hk, hi => by
    omega
  | k + 1, i, c, o, hk, hi => by
    rw [m_spec_l12DrawSg_l13]
    by_cases g : i > 0
    · rw [decide_eq_true g, cond_true]
      have h3 := pick_lt (k := 3) (by omega) (pickM (wr .i64 (1 + p.1)) c).2
      obtain ⟨y, ey, _⟩ := ix_tot (l := ([⟨#[120]⟩, ⟨#[121]⟩, ⟨#[122]⟩] : List ByteArray)) h3.1 h3.2
      simp only [m_spec_l01Cur_pick, Option.bind_some, ey, gp_pos (show o.length + ([(gSpot.mk (pickM (wr .i64 (1 + p.1)) c).1 y)] : List gSpot).length ≤ 68719476736 by simp; omega)]
      rw [show wr .i64 (i - 1) = i - 1 from w64 (by omega)]
      exact sgL13 n p h e d k (i - 1) _ _ (by omega) (by simp; omega)
    · rw [decide_eq_false g]
      exact ⟨_, rfl, rfl, rfl, by simp only []; omega⟩
theorem sgL14 (n : Nat) (hn : 100 ≤ n) (p : Int × Cu) (h : 0 ≤ p.1 ∧ p.1 < 6) (e : List gSEdge) : ∀ (k : Nat) (i : Int) (c : Cu) (o : List gSpot), 0 ≤ i ∧ i < k → i + o.length ≤ 20 → ∃ g, m_spec_l12DrawSg_l14 n p e k i c o = some g ∧ g.1.edges_ = e ∧ (g.1.decls_.length : Int) ≤ 20 ∧ (g.1.refs_.length : Int) ≤ 20
  | 0, i, c, o, hk, hi => by
    omega
  | k + 1, i, c, o, hk, hi => by
    rw [m_spec_l12DrawSg_l14]
    by_cases g : i > 0
    · rw [decide_eq_true g, cond_true]
      have h3 := pick_lt (k := 3) (by omega) (pickM (wr .i64 (1 + p.1)) c).2
      obtain ⟨y, ey, _⟩ := ix_tot (l := ([⟨#[120]⟩, ⟨#[121]⟩, ⟨#[122]⟩] : List ByteArray)) h3.1 h3.2
      simp only [m_spec_l01Cur_pick, Option.bind_some, ey, gp_pos (show o.length + ([(gSpot.mk (pickM (wr .i64 (1 + p.1)) c).1 y)] : List gSpot).length ≤ 68719476736 by simp; omega)]
      rw [show wr .i64 (i - 1) = i - 1 from w64 (by omega)]
      exact sgL14 n hn p h e k (i - 1) _ _ (by omega) (by simp; omega)
    · rw [decide_eq_false g, cond_false, m_spec_l12DrawSg_j10]
      have h8 := pick_lt (k := 8) (by omega) c
      simp only [m_spec_l01Cur_pick, Option.bind_some]
      obtain ⟨g, e1, e2, e3, e4⟩ := sgL13 n p h e o n (pickM 8 c).1 (pickM 8 c).2 [] (by omega) (by simp; omega)
      exact ⟨g, e1, e2, by rw [e3]; omega, e4⟩
theorem sgL19 (n : Nat) (hn : 100 ≤ n) (p : Int × Cu) (h : 0 ≤ p.1 ∧ p.1 < 6) : ∀ (k : Nat) (i : Int) (c : Cu) (o : List gSEdge), 0 ≤ i ∧ i < k → i + o.length ≤ 20 → ∃ g, m_spec_l12DrawSg_l19 n p k i c o = some g ∧ (g.1.edges_.length : Int) ≤ 20 ∧ (g.1.decls_.length : Int) ≤ 20 ∧ (g.1.refs_.length : Int) ≤ 20
  | 0, i, c, o, hk, hi => by
    omega
  | k + 1, i, c, o, hk, hi => by
    rw [m_spec_l12DrawSg_l19]
    by_cases g : i > 0
    · rw [decide_eq_true g, cond_true]
      have go : ∀ v u, ∃ g, m_spec_l12DrawSg_j21 n p i o (m_spec_l12DrawSg_l19 n p k) v u = some g ∧ (g.1.edges_.length : Int) ≤ 20 ∧ (g.1.decls_.length : Int) ≤ 20 ∧ (g.1.refs_.length : Int) ≤ 20 := fun v u => by
        unfold m_spec_l12DrawSg_j21
        simp only [m_spec_l01Cur_pick, Option.bind_some]
        rw [gp_pos (by simp; omega), show wr .i64 (i - 1) = i - 1 from w64 (by omega)]
        exact sgL19 n hn p h k (i - 1) _ _ (by omega) (by simp; omega)
      simp only [m_spec_l01Cur_pick, Option.bind_some]
      cases ((pickM 3 c).1 == 0) with
      | true => exact go _ _
      | false => exact go _ _
    · rw [decide_eq_false g, cond_false, m_spec_l12DrawSg_j8]
      have h8 := pick_lt (k := 8) (by omega) c
      simp only [m_spec_l01Cur_pick, Option.bind_some]
      obtain ⟨g, e1, e2, e3, e4⟩ := sgL14 n hn p h o n (pickM 8 c).1 (pickM 8 c).2 [] (by omega) (by simp; omega)
      exact ⟨g, e1, by rw [e2]; omega, e3, e4⟩
theorem drawSg {n : Nat} (hn : 100 ≤ n) (c : Cu) : ∃ g, m_spec_l12DrawSg n c = some g ∧ (g.1.edges_.length : Int) ≤ 20 ∧ (g.1.decls_.length : Int) ≤ 20 ∧ (g.1.refs_.length : Int) ≤ 20 := by
  unfold m_spec_l12DrawSg
  simp only [m_spec_l01Cur_pick, Option.bind_some]
  have h6 := pick_lt (k := 6) (by omega) c
  have h8 := pick_lt (k := 8) (by omega) (pickM 6 c).2
  exact sgL19 n hn (pickM 6 c) h6 n _ _ [] (by omega) (by simp; omega)
theorem anyL3 (n : Nat) (p : gSg × Cu) : ∀ (k : Nat) (c : Cu) (o : List gSpot), 130 - (o.length : Int) < k → (o.length : Int) ≤ 130 → ∃ g, m_spec_l12DrawAnySg_l3 n p k c o = some g ∧ (g.1.decls_.length : Int) ≤ 130
  | 0, c, o, hk, ho => by omega
  | k + 1, c, o, hk, ho => by
    rw [m_spec_l12DrawAnySg_l3]
    have h2 := pick_lt (k := 2) (by omega) c
    simp only [m_spec_l01Cur_pick, Option.bind_some]
    rw [show wr .i64 (120 + (pickM 2 c).1) = 120 + (pickM 2 c).1 from w64 (by omega)]
    by_cases g : (o.length : Int) < 120 + (pickM 2 c).1
    · rw [decide_eq_true g, cond_true, gp_pos (by simp; omega)]
      exact anyL3 n p k _ _ (by simp; omega) (by simp; omega)
    · rw [decide_eq_false g, cond_false]
      exact ⟨_, rfl, ho⟩
theorem drawAnySg {n : Nat} (hn : 300 ≤ n) (c : Cu) : ∃ g, m_spec_l12DrawAnySg n c = some g ∧ (g.1.decls_.length : Int) ≤ 130 := by
  obtain ⟨g, e, b1, b2, b3⟩ := drawSg (n := n) (by omega) c
  unfold m_spec_l12DrawAnySg
  simp only [e, m_spec_l01Cur_pick, Option.bind_some]
  generalize pickM 20 g.2 = t
  cases (t.1 == 0) with
  | true =>
    have h3 := pick_lt (k := 3) (by omega) t.2
    obtain ⟨y, ey, _⟩ := ix_tot (l := ([0, 60, 61] : List Int)) h3.1 h3.2
    exact ⟨_, by simp only [cond_true, ey, Option.bind_some, m_spec_l12DrawAnySg_j2]; rfl, by simp only []; omega⟩
  | false =>
  cases (t.1 == 1) with
  | true =>
    simp only [cond_false, cond_true]
    rw [gp_pos (by simp; omega)]
    exact ⟨_, rfl, by simp only []; omega⟩
  | false =>
  cases (t.1 == 2) with
  | true =>
    simp only [cond_false, cond_true]
    have h2 := pick_lt (k := 2) (by omega) (pickM 9 t.2).2
    obtain ⟨y, ey, _⟩ := ix_tot (l := ([⟨#[120]⟩, ⟨#[]⟩] : List ByteArray)) h2.1 h2.2
    rw [ey, Option.bind_some, gp_pos (by simp; omega)]
    exact ⟨_, rfl, by simp only []; omega⟩
  | false =>
  cases (t.1 == 3) with
  | true => exact anyL3 n g n t.2 g.1.decls_ (by omega) (by omega)
  | false => exact ⟨_, rfl, by simp only []; omega⟩
end Go.Proofs.Ytegpjjnedbbpjaa.Z
