/- Terms: what the scopes tell of a term. -/
import Derived.Test.YtegpjjnedbbpjaaTnI
set_option linter.unusedVariables false
set_option linter.unusedSimpArgs false
namespace Go.Proofs.Ytegpjjnedbbpjaa.Z
open Go Go.RowKit Go.Proofs.Sy Go.Proofs
set_option maxRecDepth 100000
def IdAt (t0 : Tree) (p : List Int) (s : ByteArray) : Prop := ∃ k, atP t0 p = some k ∧ k.nm = (⟨#[73, 100]⟩ : ByteArray) ∧ k.tx = s
def GoodL (t0 : Tree) : List (List Int) → List (Int × ByteArray) → Prop
  | [], [] => True
  | p :: ps, d :: ds => IdAt t0 p d.2 ∧ GoodL t0 ps ds
  | _, _ => False
theorem GoodL.snoc {t0 : Tree} : ∀ {ps : List (List Int)} {ds : List (Int × ByteArray)} {p : List Int} {d : Int × ByteArray}, GoodL t0 ps ds → IdAt t0 p d.2 → GoodL t0 (ps ++ [p]) (ds ++ [d])
  | [], [], p, d, _, h => ⟨h, trivial⟩
  | q :: ps, e :: ds, p, d, hg, h => ⟨hg.1, GoodL.snoc hg.2 h⟩
  | [], _ :: _, p, d, hg, h => hg.elim
  | _ :: _, [], p, d, hg, h => hg.elim
theorem GoodL.len {t0 : Tree} : ∀ {ps : List (List Int)} {ds : List (Int × ByteArray)}, GoodL t0 ps ds → ps.length = ds.length
  | [], [], _ => rfl
  | q :: ps, e :: ds, h => by simp [GoodL.len h.2]
  | [], _ :: _, h => h.elim
  | _ :: _, [], h => h.elim
theorem GoodL.get {t0 : Tree} : ∀ {ps : List (List Int)} {ds : List (Int × ByteArray)} {i : Nat} {p : List Int}, GoodL t0 ps ds → ps[i]? = some p → ∃ d, ds[i]? = some d ∧ IdAt t0 p d.2
  | q :: ps, e :: ds, 0, p, h, hp => by simp at hp; subst hp; exact ⟨e, rfl, h.1⟩
  | q :: ps, e :: ds, i + 1, p, h, hp => by
    obtain ⟨d, h1, h2⟩ := GoodL.get (i := i) h.2 (by simpa using hp)
    exact ⟨d, by simpa using h1, h2⟩
  | [], [], i, p, h, hp => by simp at hp
  | [], _ :: _, i, p, h, hp => h.elim
  | _ :: _, [], i, p, h, hp => h.elim
theorem at_snoc : ∀ (p : List Int) (t0 t k : Tree) (i : Int), atP t0 p = some t → 0 ≤ i → t.ks[i.toNat]? = some k → atP t0 (p ++ [i]) = some k
  | [], t0, t, k, i, h, h0, hk => by
    simp only [atP] at h
    cases h
    simp only [List.nil_append, atP]
    rw [if_pos h0, hk]
  | j :: p, t0, t, k, i, h, h0, hk => by
    simp only [List.cons_append, atP] at h ⊢
    by_cases hj : 0 ≤ j
    · rw [if_pos hj] at h ⊢
      cases hq : t0.ks[j.toNat]? with
      | none => rw [hq] at h; cases h
      | some q => rw [hq] at h; exact at_snoc p q t k i h h0 hk
    · rw [if_neg hj] at h; cases h
theorem at_len : ∀ (p : List Int) (t k : Tree), atP t p = some k → p.length < wt t
  | [], t, k, h => by have := wt_pos t; simp; omega
  | i :: p, t, k, h => by
    obtain ⟨_, q, _, hm, he, _⟩ := atP_cons (p := p) (by rw [h]; rfl)
    have h1 := at_len p q k (by rw [← he]; exact h)
    have h2 := wt_kid hm
    simp only [List.length_cons]
    omega
mutual
def idsT : Tree → Int
  | ⟨n, _, l, ks⟩ => (if l = true ∧ n = (⟨#[73, 100]⟩ : ByteArray) then 1 else 0) + idsL ks
def idsL : List Tree → Int
  | [] => 0
  | k :: ks => idsT k + idsL ks
end
theorem idsT_eq (t : Tree) : idsT t = (if t.lf = true ∧ t.nm = (⟨#[73, 100]⟩ : ByteArray) then 1 else 0) + idsL t.ks := by cases t; rfl
mutual
theorem idsT_le : ∀ t : Tree, 0 ≤ idsT t ∧ idsT t ≤ wt t
  | ⟨n, x, l, ks⟩ => by
    have := idsL_le ks
    simp only [idsT, wt]
    split <;> omega
theorem idsL_le : ∀ l : List Tree, 0 ≤ idsL l ∧ idsL l ≤ wtL l
  | [] => by simp [idsL, wtL]
  | k :: ks => by
    have := idsT_le k; have := idsL_le ks
    simp only [idsL, wtL]; omega
end
structure GoodS (t0 : Tree) (s : Sc) : Prop where
  d : GoodL t0 s.dp s.ds
  r : GoodL t0 s.rp s.rs
def Sc.ids (s : Sc) : Int := s.dp.length + s.rp.length
theorem isId_ids {k : Tree} (h : isId k = true) : idsT k = 1 ∧ k.nm = (⟨#[73, 100]⟩ : ByteArray) := by
  unfold isId leafOK at h
  simp only [Bool.and_eq_true, decide_eq_true_eq, beq_iff_eq] at h
  obtain ⟨⟨⟨h1, h2⟩, h3⟩, _⟩ := h
  refine ⟨?_, h2⟩
  rw [idsT_eq, if_pos ⟨h1, h2⟩, List.length_eq_zero_iff.mp h3]; rfl
mutual
theorem walkM_good (t0 : Tree) : ∀ (t : Tree) (p : List Int) (sc : Int) (s : Sc), atP t0 p = some t → right t = true → termF t = true → GoodS t0 s → GoodS t0 (walkM t p sc s) ∧ (walkM t p sc s).ids = s.ids + idsT t
  | ⟨nm, tx, lf, ks⟩, p, sc, s, ha, hr, hf, hg => by
    rw [termF_eq] at hf
    simp only [walkM, idsT]
    cases hl : lf with
    | true =>
      subst hl
      have hk : ks = [] := leaf_ks (t := ⟨nm, tx, true, ks⟩) hr rfl
      subst hk
      rw [if_pos rfl]
      by_cases hn : nm = (⟨#[73, 100]⟩ : ByteArray)
      · rw [if_pos hn, if_pos ⟨rfl, hn⟩]
        refine ⟨⟨hg.d, hg.r.snoc ⟨_, ha, hn, rfl⟩⟩, ?_⟩
        simp [Sc.ids, idsL]; omega
      · rw [if_neg hn, if_neg (fun h => hn h.2)]
        exact ⟨hg, by simp [idsL]⟩
    | false =>
      subst hl
      simp only [Bool.false_eq_true, if_false, false_and] at hf ⊢
      simp only [Bool.and_eq_true, decide_eq_true_eq] at hf
      have hrl : ∀ k, k ∈ ks → right k = true := fun k hk => right_mem (t := ⟨nm, tx, false, ks⟩) hr hk
      by_cases hb : nm = (⟨#[76, 97, 109]⟩ : ByteArray) ∨ nm = (⟨#[76, 101, 116]⟩ : ByteArray)
      · rw [if_pos hb]
        rw [if_pos hb] at hf
        have h := walkB_good t0 (ks.length - 1) ks 0 p sc s.n { s with n := s.n + 1, es := s.es ++ [(s.n, sc, 1)] } (fun j k hk => at_snoc p t0 _ k (0 + j) ha (by omega) (by simpa using hk)) hrl (.inl ⟨rfl, hf.2⟩) (by omega) ⟨hg.d, hg.r⟩
        refine ⟨h.1, ?_⟩
        rw [h.2]
        show s.ids + idsL ks = s.ids + (0 + idsL ks)
        omega
      · rw [if_neg hb]
        rw [if_neg hb] at hf
        have h := walkL_good t0 ks 0 p sc s (fun j k hk => at_snoc p t0 _ k (0 + j) ha (by omega) (by simpa using hk)) hrl hf.2 (by omega) hg
        refine ⟨h.1, by rw [h.2]; omega⟩
theorem walkL_good (t0 : Tree) : ∀ (l : List Tree) (i : Int) (p : List Int) (sc : Int) (s : Sc), (∀ (j : Nat) k, l[j]? = some k → atP t0 (p ++ [i + j]) = some k) → (∀ k, k ∈ l → right k = true) → termL l = true → 0 ≤ i → GoodS t0 s → GoodS t0 (walkL l i p sc s) ∧ (walkL l i p sc s).ids = s.ids + idsL l
  | [], i, p, sc, s, ha, hr, hf, h0, hg => ⟨hg, by simp [walkL, idsL]⟩
  | k :: ks, i, p, sc, s, ha, hr, hf, h0, hg => by
    simp only [termL, Bool.and_eq_true] at hf
    have h1 := walkM_good t0 k (p ++ [i]) sc s (by have := ha 0 k rfl; simpa using this) (hr k (List.mem_cons_self ..)) hf.1 hg
    have h2 := walkL_good t0 ks (i + 1) p sc (walkM k (p ++ [i]) sc s) (fun j q hq => by have := ha (j + 1) q (by simpa using hq); rwa [show i + ((j + 1 : Nat) : Int) = i + 1 + j by omega] at this) (fun q hq => hr q (List.mem_cons_of_mem _ hq)) hf.2 (by omega) h1.1
    simp only [walkL, idsL]
    exact ⟨h2.1, by rw [h2.2, h1.2]; omega⟩
theorem walkB_good (t0 : Tree) : ∀ (last : Int) (l : List Tree) (i : Int) (p : List Int) (sc inn : Int) (s : Sc), (∀ (j : Nat) k, l[j]? = some k → atP t0 (p ++ [i + j]) = some k) → (∀ k, k ∈ l → right k = true) → ((i = 0 ∧ termB l = true) ∨ (1 ≤ i ∧ termL l = true)) → 0 ≤ i → GoodS t0 s → GoodS t0 (walkB last l i p sc inn s) ∧ (walkB last l i p sc inn s).ids = s.ids + idsL l
  | last, [], i, p, sc, inn, s, ha, hr, hf, h0, hg => ⟨hg, by simp [walkB, idsL]⟩
  | last, k :: ks, i, p, sc, inn, s, ha, hr, hf, h0, hg => by
    have hak : atP t0 (p ++ [i]) = some k := by have := ha 0 k rfl; simpa using this
    have hnext : ∀ (j : Nat) q, ks[j]? = some q → atP t0 (p ++ [i + 1 + j]) = some q := fun j q hq => by have := ha (j + 1) q (by simpa using hq); rwa [show i + ((j + 1 : Nat) : Int) = i + 1 + j by omega] at this
    have hrn : ∀ q, q ∈ ks → right q = true := fun q hq => hr q (List.mem_cons_of_mem _ hq)
    simp only [walkB, idsL]
    rcases hf with ⟨rfl, hf⟩ | ⟨h1, hf⟩
    · simp only [termB, Bool.and_eq_true] at hf
      have hid := isId_ids hf.1
      rw [if_pos rfl]
      have h2 := walkB_good t0 last ks (0 + 1) p sc inn { s with ds := s.ds ++ [(inn, k.tx)], dp := s.dp ++ [p ++ [0]] } hnext hrn (.inr ⟨by omega, hf.2⟩) (by omega) ⟨hg.d.snoc ⟨k, hak, hid.2, rfl⟩, hg.r⟩
      refine ⟨h2.1, ?_⟩
      rw [h2.2, hid.1]
      simp [Sc.ids]; omega
    · simp only [termL, Bool.and_eq_true] at hf
      rw [if_neg (by omega)]
      have hm : ∀ x : Int, GoodS t0 (walkM k (p ++ [i]) x s) ∧ (walkM k (p ++ [i]) x s).ids = s.ids + idsT k := fun x => walkM_good t0 k (p ++ [i]) x s hak (hr k (List.mem_cons_self ..)) hf.1 hg
      split
      · have h2 := walkB_good t0 last ks (i + 1) p sc inn _ hnext hrn (.inr ⟨by omega, hf.2⟩) (by omega) (hm inn).1
        exact ⟨h2.1, by rw [h2.2, (hm inn).2]; omega⟩
      · have h2 := walkB_good t0 last ks (i + 1) p sc inn _ hnext hrn (.inr ⟨by omega, hf.2⟩) (by omega) (hm sc).1
        exact ⟨h2.1, by rw [h2.2, (hm sc).2]; omega⟩
end
end Go.Proofs.Ytegpjjnedbbpjaa.Z
