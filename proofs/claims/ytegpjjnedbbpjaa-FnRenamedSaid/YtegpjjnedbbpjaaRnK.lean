/- FnRenamed, plain: drawn terms. -/
import Derived.Test.YtegpjjnedbbpjaaRnJ
set_option linter.unusedVariables false
set_option linter.unusedSimpArgs false
namespace Go.Proofs.Ytegpjjnedbbpjaa.Z
open Go Go.RowKit Go.Proofs.Sy Go.Proofs
set_option maxRecDepth 100000
theorem wt_leaf (a b : ByteArray) : wt (Tree.mk a b true []) = 1 + a.size + b.size := by rw [wt_eq]; simp [wtL]
theorem wt_nd (a : ByteArray) (l : List Tree) : wt (Tree.mk a ⟨#[]⟩ false l) = 1 + a.size + wtL l := by rw [wt_eq]; have : (⟨#[]⟩ : ByteArray).size = 0 := rfl; simp only []; omega
theorem ix_sz {l : List ByteArray} {b : Nat} (hl : l.all (fun x => decide (x.size ≤ b)) = true) {i : Int} (h0 : 0 ≤ i) (h1 : i < (l.length : Int)) : ∃ x, ix l i = some x ∧ x.size ≤ b := by
  obtain ⟨x, hx, hm⟩ := ix_tot h0 h1
  have := List.all_eq_true.mp hl x hm
  exact ⟨x, hx, by simpa using this⟩
theorem drawId (n : Nat) (c : Cu) : ∃ r, m_spec_l12DrawId n c = some r ∧ wt r.1 ≤ 10 := by
  have h := pick_lt (k := 6) (by omega) c
  obtain ⟨y, ey, hy⟩ := ix_sz (l := [⟨#[120]⟩, ⟨#[121]⟩, ⟨#[122]⟩, ⟨#[102]⟩, ⟨#[121, 49]⟩, ⟨#[120, 50]⟩]) (b := 3) (by decide) h.1 h.2
  unfold m_spec_l12DrawId
  refine ⟨_, by simp only [m_spec_l01Cur_pick, Option.bind_some, ey, m_spec_l01Leaf]; rfl, ?_⟩
  rw [wt_leaf]
  have : (⟨#[73, 100]⟩ : ByteArray).size = 2 := rfl
  omega
theorem term0 (n : Nat) (c : Cu) : ∃ r, m_spec_l12DrawTerm (n + 1) c 0 = some r ∧ wt r.1 ≤ 20 := by
  unfold m_spec_l12DrawTerm
  rw [decide_eq_true (show (0 : Int) ≤ 0 by omega), cond_true]
  simp only [m_spec_l01Cur_pick, Option.bind_some]
  generalize pickM 6 c = t
  cases (t.1 == 0) with
  | true =>
    have h := pick_lt (k := 4) (by omega) t.2
    obtain ⟨y, ey, hy⟩ := ix_sz (l := [⟨#[48]⟩, ⟨#[49]⟩, ⟨#[52, 50]⟩, ⟨#[55]⟩]) (b := 3) (by decide) h.1 h.2
    refine ⟨_, by simp only [cond_true, Option.bind_some, ey, m_spec_l01Leaf]; rfl, ?_⟩
    rw [wt_leaf]
    have : (⟨#[78, 117, 109]⟩ : ByteArray).size = 3 := rfl
    omega
  | false =>
  cases (t.1 == 1) with
  | true =>
    have h := pick_lt (k := 2) (by omega) t.2
    obtain ⟨y, ey, hy⟩ := ix_sz (l := [⟨#[89, 101, 115]⟩, ⟨#[78, 111]⟩]) (b := 3) (by decide) h.1 h.2
    refine ⟨_, by simp only [cond_true, cond_false, Option.bind_some, ey, m_spec_l01Leaf]; rfl, ?_⟩
    rw [wt_leaf]
    have : (⟨#[]⟩ : ByteArray).size = 0 := rfl
    omega
  | false =>
    obtain ⟨r, e, hr⟩ := drawId n t.2
    exact ⟨(r.1, r.2), by simp only [cond_false, e, Option.bind_some], by simp only []; omega⟩
theorem term_tot : ∀ (d n : Nat) (c : Cu), d + 2 ≤ n → d ≤ 6 → ∃ r, m_spec_l12DrawTerm n c (d : Int) = some r ∧ wt r.1 ≤ 60 * 3 ^ d
  | d, 0, c, hn, hd => by omega
  | 0, n + 1, c, hn, hd => by
    obtain ⟨r, e, hr⟩ := term0 n c
    exact ⟨r, e, by simp; omega⟩
  | d + 1, n + 1, c, hn, hd => by
    have hq : 0 < 3 ^ d := Nat.pos_of_ne_zero (by simp)
    have hp : 3 ^ (d + 1) = 3 * 3 ^ d := by rw [Nat.pow_succ]; omega
    have hw1 : wr .i64 (((d + 1 : Nat) : Int) - 1) = (d : Int) := (w64 (by omega)).trans (by omega)
    obtain ⟨n', rfl⟩ : ∃ m, n = m + 1 := ⟨n - 1, by omega⟩
    unfold m_spec_l12DrawTerm
    rw [decide_eq_false (show ¬ ((d + 1 : Nat) : Int) ≤ 0 by omega), cond_false, hw1]
    obtain ⟨a, ea, ha⟩ := term_tot d (n' + 1) c (by omega) (by omega)
    simp only [ea, m_spec_l01Cur_pick, Option.bind_some]
    have go : ∀ v t, ∃ r, m_spec_l12DrawTerm_j2 (m_spec_l12DrawTerm (n' + 1)) (n' + 1) ((d + 1 : Nat) : Int) a t v = some r ∧ wt r.1 ≤ 60 * 3 ^ (d + 1) := fun v t => by
      rw [hp]
      unfold m_spec_l12DrawTerm_j2
      rw [hw1]
      cases v with
      | true =>
        obtain ⟨i, ei, hi⟩ := drawId (n' + 1) t.2
        refine ⟨_, by simp only [cond_true, ei, Option.bind_some, m_spec_l01Node]; rfl, ?_⟩
        rw [wt_nd]
        have : (⟨#[76, 97, 109]⟩ : ByteArray).size = 3 := rfl
        simp only [wtL]; omega
      | false =>
      cases (t.1 == 2) with
      | true =>
        obtain ⟨b, eb, hb⟩ := term_tot d (n' + 1) t.2 (by omega) (by omega)
        refine ⟨_, by simp only [cond_true, cond_false, eb, Option.bind_some, m_spec_l01Node]; rfl, ?_⟩
        rw [wt_nd]
        have : (⟨#[65, 112, 112]⟩ : ByteArray).size = 3 := rfl
        simp only [wtL]; omega
      | false =>
      cases (t.1 == 3) with
      | true =>
        obtain ⟨i, ei, hi⟩ := drawId (n' + 1) t.2
        obtain ⟨b, eb, hb⟩ := term_tot d (n' + 1) i.2 (by omega) (by omega)
        refine ⟨_, by simp only [cond_true, cond_false, ei, eb, Option.bind_some, m_spec_l01Node]; rfl, ?_⟩
        rw [wt_nd]
        have : (⟨#[76, 101, 116]⟩ : ByteArray).size = 3 := rfl
        simp only [wtL]; omega
      | false =>
      cases (t.1 == 4) with
      | true =>
        obtain ⟨i, ei, hi⟩ := term0 n' t.2
        obtain ⟨b, eb, hb⟩ := term_tot d (n' + 1) i.2 (by omega) (by omega)
        refine ⟨_, by simp only [cond_true, cond_false, ei, eb, Option.bind_some, m_spec_l01Node]; rfl, ?_⟩
        rw [wt_nd]
        have : (⟨#[73, 102]⟩ : ByteArray).size = 2 := rfl
        simp only [wtL]; omega
      | false =>
      cases (t.1 == 5) with
      | true =>
        obtain ⟨b, eb, hb⟩ := term_tot d (n' + 1) t.2 (by omega) (by omega)
        refine ⟨_, by simp only [cond_true, cond_false, eb, Option.bind_some, m_spec_l01Node]; rfl, ?_⟩
        rw [wt_nd]
        have : (⟨#[65, 100, 100]⟩ : ByteArray).size = 3 := rfl
        simp only [wtL]; omega
      | false =>
      obtain ⟨i, ei, hi⟩ := term0 n' t.2
      cases (t.1 == 6) with
      | true =>
        refine ⟨_, by simp only [cond_true, cond_false, ei, Option.bind_some, m_spec_l01Node]; rfl, ?_⟩
        rw [wt_nd]
        have : (⟨#[69, 113]⟩ : ByteArray).size = 2 := rfl
        simp only [wtL]; omega
      | false => exact ⟨(i.1, i.2), by simp only [cond_false, ei, Option.bind_some], by simp only []; omega⟩
    cases ((pickM 8 a.2).1 == 0) with
    | true => exact go true (pickM 8 a.2)
    | false => exact go ((pickM 8 a.2).1 == 1) (pickM 8 a.2)
end Go.Proofs.Ytegpjjnedbbpjaa.Z
