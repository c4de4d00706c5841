/- Draws: how great they are; trees to be put. -/
import Derived.Test.YtegpjjnedbbpjaaTrPi
set_option linter.unusedVariables false
set_option linter.unusedSimpArgs false
namespace Go.Proofs.Ytegpjjnedbbpjaa.Z
open Go Go.RowKit Go.Proofs.Sy Go.Proofs
set_option maxRecDepth 100000
theorem getD_size {l : List ByteArray} {b : Nat} (h : l.all (fun x => Nat.ble x.size b) = true) (i : Nat) : (l.getD i ⟨#[]⟩).size ≤ b := by
  rw [List.all_eq_true] at h
  by_cases hi : i < l.length
  · have := h l[i] (List.getElem_mem hi)
    simp only [List.getD_eq_getElem?_getD, List.getElem?_eq_getElem hi, Option.getD_some]
    exact Nat.le_of_ble_eq_true this
  · simp only [List.getD_eq_getElem?_getD, List.getElem?_eq_none (by omega : l.length ≤ i), Option.getD_none]
    exact Nat.zero_le _
theorem nm_size (u : Cu) : (nmM u).1.size ≤ 24 := getD_size (l := nmL) (by decide) _
theorem tx_size (u : Cu) : (txM u).1.size ≤ 5 := getD_size (l := txL) (by decide) _
theorem wtL_app (l r : List Tree) : wtL (l ++ r) = wtL l + wtL r := by
  induction l with
  | nil => simp [wtL]
  | cons k l ih => simp only [List.cons_append, wtL, ih]; omega
theorem drawL_big {f : Cu → Tree × Cu} {b : Nat} (h : ∀ u, wt (f u).1 ≤ b) : ∀ (n : Nat) (u : Cu) (ks : List Tree), (drawL f n u ks).1.length ≤ ks.length + n ∧ wtL (drawL f n u ks).1 ≤ wtL ks + n * b
  | 0, u, ks => by simp [drawL]
  | n + 1, u, ks => by
    have h1 := drawL_big h n (f u).2 (ks ++ [(f u).1])
    have h2 := h u
    rw [wtL_app] at h1
    simp only [wtL, List.length_append, List.length_cons, List.length_nil] at h1
    rw [drawL, Nat.succ_mul]
    omega
theorem leaf_big (u : Cu) : wt (leafM u).1 ≤ 30 ∧ (leafM u).1.ks.length ≤ 3 ∧ (leafM u).1.tx.size ≤ 100 := by
  have h1 := nm_size u
  have h2 := tx_size (nmM u).2
  refine ⟨?_, Nat.zero_le _, ?_⟩
  · show wt (mkLeaf _ _) ≤ 30
    rw [wt_eq]; simp only [mkLeaf, wtL]; omega
  · show (txM (nmM u).2).1.size ≤ 100
    omega
theorem tree_big : ∀ (n : Nat) (u : Cu), wt (drawTree n u).1 ≤ 30 * 4 ^ n ∧ (drawTree n u).1.ks.length ≤ 3 ∧ (drawTree n u).1.tx.size ≤ 100
  | 0, u => by have := leaf_big u; rw [drawTree]; omega
  | n + 1, u => by
    have ih := fun u => (tree_big n u).1
    have h4 : 4 ^ (n + 1) = 4 * 4 ^ n := by rw [Nat.pow_succ, Nat.mul_comm]
    have h1 : 1 ≤ 4 ^ n := Nat.one_le_pow _ _ (by omega)
    rw [drawTree]
    split
    · have := leaf_big (pickM 3 u).2; omega
    · have hp := pickM_rng 4 (pickM 3 u).2
      have hd := drawL_big ih (pickM 4 (pickM 3 u).2).1.toNat (pickM 4 (pickM 3 u).2).2 []
      generalize drawL (drawTree n) (pickM 4 (pickM 3 u).2).1.toNat (pickM 4 (pickM 3 u).2).2 [] = k at hd
      have hn := nm_size k.2
      have h3 : (pickM 4 (pickM 3 u).2).1.toNat * (30 * 4 ^ n) ≤ 3 * (30 * 4 ^ n) := Nat.mul_le_mul_right _ (by omega)
      simp only [wtL, List.length_nil] at hd
      refine ⟨?_, ?_, Nat.zero_le _⟩
      · show wt (mkNode _ _) ≤ _
        have e0 : (⟨#[]⟩ : ByteArray).size = 0 := rfl
        rw [wt_eq]; simp only [mkNode]; omega
      · show k.1.length ≤ 3
        omega
theorem tree_hb (n : Nat) (u : Cu) (hn : n ≤ 6) : (drawTree n u).1.ks.length ≤ 3 ∧ (drawTree n u).1.tx.size ≤ 100 := (tree_big n u).2
theorem lp_inv {α : Type} {base k : Int} {f : α → α} (J : α → Int → Prop) (hJ : ∀ x i, i < base + k → J x i → J (f x) (i + 1)) (hk : 1 ≤ k) : ∀ (n : Nat) (i : Int) (u : Cu) (x : α), J x i → ∃ j, J (lp base k f n i u x).1 j ∧ (j ≤ i ∨ j ≤ base + k)
  | 0, i, u, x, h => ⟨i, h, by omega⟩
  | n + 1, i, u, x, h => by
    have hp := pickM_rng k u
    rw [lp]
    split
    · obtain ⟨j, h1, h2⟩ := lp_inv J hJ hk n (i + 1) (pickM k u).2 (f x) (hJ x i (by omega) h)
      exact ⟨j, h1, by omega⟩
    · exact ⟨i, h, by omega⟩
theorem zeros_size (n : Nat) : (zeros n).size = n := by show (List.replicate n (0 : UInt8)).toArray.size = n; simp
theorem any_big (u : Cu) : wt (anyM u).1 ≤ 1000000 := by
  have hs := sizeM_rng 5 u (by omega)
  have hb := tree_big (1 + (sizeM 5 u).1).toNat (sizeM 5 u).2
  have h6 : 4 ^ (1 + (sizeM 5 u).1).toNat ≤ 4 ^ 6 := Nat.pow_le_pow_right (by omega) (by omega)
  have e0 : (⟨#[]⟩ : ByteArray).size = 0 := rfl
  have e1 : (⟨#[113]⟩ : ByteArray).size = 1 := rfl
  have e2 : (⟨#[110]⟩ : ByteArray).size = 1 := rfl
  have e3 : (⟨#[97]⟩ : ByteArray).size = 1 := rfl
  have e4 : (⟨#[107]⟩ : ByteArray).size = 1 := rfl
  have e5 : (⟨#[97, 98, 99]⟩ : ByteArray).size = 3 := rfl
  unfold anyM
  generalize drawTree (1 + (sizeM 5 u).1).toNat (sizeM 5 u).2 = r at hb ⊢
  have hw := wt_eq r.1
  have hdash : wt dash = 2 := by decide
  unfold anyC
  simp only
  repeat' split
  · have := getD_size (l := badL) (b := 25) (by decide) (pickM 4 (pickM 24 r.2).2).1.toNat
    rw [wt_eq]; simp only; omega
  · rw [wt_eq]; simp only; omega
  · rw [wt_eq]; simp only [ByteArray.size_append]; omega
  · rw [wt_eq]; simp only [wtL_app, wtL]; omega
  · obtain ⟨j, h1, h2⟩ := lp_inv (base := 60) (k := 2) (f := fun t => mkNode ⟨#[110]⟩ [t]) (fun t i => (wt t : Int) ≤ 2 * i) (fun x i _ h => by rw [wt_eq]; simp only [mkNode, wtL]; omega) (by omega) 100 1 (pickM 24 r.2).2 (mkLeaf ⟨#[97]⟩ ⟨#[]⟩) (by rw [wt_eq]; simp only [mkLeaf, wtL]; omega)
    omega
  · obtain ⟨j, h1, h2⟩ := lp_inv (base := 1000) (k := 2) (f := fun ks => ks ++ [mkLeaf ⟨#[107]⟩ ⟨#[]⟩]) (fun t i => (wtL t : Int) ≤ 2 * i) (fun x i _ h => by rw [wtL_app]; simp only [wtL]; rw [wt_eq]; simp only [mkLeaf, wtL]; omega) (by omega) 1100 1 (pickM 24 r.2).2 [] (by simp only [wtL]; omega)
    rw [nodeR, wt_eq]; simp only [mkNode]; omega
  · have hp := pickM_rng 2 (pickM 24 r.2).2
    rw [wt_eq]; simp only [mkLeaf, wtL, zeros_size]; omega
  · obtain ⟨j, h1, h2⟩ := lp_inv (base := 24) (k := 3) (f := fun ks => ks ++ [mkLeaf ⟨#[97, 98, 99]⟩ (zeros 200)]) (fun t i => (wtL t : Int) ≤ 204 * i) (fun x i _ h => by rw [wtL_app]; simp only [wtL]; rw [wt_eq]; simp only [mkLeaf, wtL, zeros_size]; omega) (by omega) 100 0 (pickM 24 r.2).2 [] (by simp only [wtL]; omega)
    rw [nodeR, wt_eq]; simp only [mkNode]; omega
  · show wt r.1 ≤ _
    omega
end Go.Proofs.Ytegpjjnedbbpjaa.Z
