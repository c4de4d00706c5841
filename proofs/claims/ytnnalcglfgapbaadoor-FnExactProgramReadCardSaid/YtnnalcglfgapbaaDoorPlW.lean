/- Plain words for printed models: loops over a list. -/
import Derived.Test.YtnnalcglfgapbaaDoorSyW
set_option linter.unusedVariables false
set_option linter.unusedSectionVars false
set_option linter.unusedSimpArgs false
namespace Go.Proofs.YtnnalcglfgapbaaDoor.Z
open Go Go.RowKit Go.Proofs.Sy Go.Proofs
theorem ixp {α : Type} (pre : List α) (k : α) (r : List α) : ix (pre ++ k :: r) (pre.length : Int) = some k := by
  unfold ix
  rw [if_pos (by omega)]
  simp
theorem wln {α : Type} (pre : List α) (k : α) (h : pre.length ≤ 1000000000000) : wr .i64 ((pre.length : Int) + 1) = ((pre ++ [k]).length : Int) := by
  rw [List.length_append]
  exact (w64 (by omega)).trans (by simp)
theorem wid {n : Int} (h : -9223372036854775808 ≤ n ∧ n ≤ 9223372036854775807) : wr .i64 n = n := w64 h
theorem ix_mem {α : Type} {l : List α} {i : Int} {x : α} (h : ix l i = some x) : x ∈ l := List.mem_of_getElem? (ixg h)
theorem ix_lt {α : Type} {l : List α} {i : Int} (h0 : 0 ≤ i) (h1 : i < (l.length : Int)) : ∃ x, ix l i = some x ∧ x ∈ l := by
  have hl : i.toNat < l.length := by omega
  have : ix l i = some (l[i.toNat]'hl) := by unfold ix; rw [if_pos h0, List.getElem?_eq_getElem hl]
  exact ⟨_, this, ix_mem this⟩
theorem ix_none {α : Type} {l : List α} {i : Int} (h : ix l i = none) : i < 0 ∨ (l.length : Int) ≤ i := by
  by_cases h0 : 0 ≤ i
  · by_cases h1 : i < (l.length : Int)
    · obtain ⟨x, hx, _⟩ := ix_lt h0 h1; rw [hx] at h; cases h
    · omega
  · omega
/-- All of a list, each seen with what stands ahead of it. -/
def allP {α : Type} (q : List α → α → Bool) : List α → List α → Bool
  | pre, [] => true
  | pre, x :: r => q pre x && allP q (pre ++ [x]) r
theorem allP_all {α : Type} (p : α → Bool) : ∀ (r pre : List α), allP (fun _ x => p x) pre r = r.all p
  | [], pre => rfl
  | x :: r, pre => by simp only [allP, List.all_cons, allP_all p r]
theorem allP_congr {α : Type} {q q' : List α → α → Bool} {L : List α} (h : ∀ pre x r, L = pre ++ x :: r → q pre x = q' pre x) : ∀ (r pre : List α), L = pre ++ r → allP q pre r = allP q' pre r
  | [], pre, e => rfl
  | x :: r, pre, e => by simp only [allP, h pre x r e, allP_congr h r (pre ++ [x]) (by rw [e]; simp)]
theorem allP_get {α : Type} {q : List α → α → Bool} : ∀ (r pre : List α), allP q pre r = true → ∀ s x t, r = s ++ x :: t → q (pre ++ s) x = true
  | y :: r, pre, h, [], x, t, e => by
    cases e
    simp only [allP, Bool.and_eq_true] at h
    simpa using h.1
  | y :: r, pre, h, z :: s, x, t, e => by
    cases e
    simp only [allP, Bool.and_eq_true] at h
    have := allP_get _ _ h.2 s x t rfl
    simpa using this
  | [], pre, h, s, x, t, e => by simp at e
/-- A loop that goes over a list till something is wrong. -/
theorem loop_all {α R : Type} (L : List α) (q : List α → α → Bool) (bad : Option R) (lp : Nat → Int → Option R) (fin : Option R)
    (hs : ∀ k pre x r, L = pre ++ x :: r → lp (k + 1) (pre.length : Int) = bif q pre x then lp k ((pre ++ [x]).length : Int) else bad)
    (he : ∀ k, lp (k + 1) (L.length : Int) = fin) : ∀ (r pre : List α) (k : Nat), L = pre ++ r → r.length < k → lp k (pre.length : Int) = bif allP q pre r then fin else bad
  | [], pre, k, h, hk => by
    obtain ⟨k, rfl⟩ : ∃ m, k = m + 1 := ⟨k - 1, by simp at hk; omega⟩
    have : pre = L := by simpa using h.symm
    subst this
    rw [he]; rfl
  | x :: r, pre, k, h, hk => by
    obtain ⟨k, rfl⟩ : ∃ m, k = m + 1 := ⟨k - 1, by simp at hk; omega⟩
    rw [hs k pre x r h]
    simp only [allP]
    cases q pre x with
    | true =>
      simp only [cond_true, Bool.true_and]
      exact loop_all L q bad lp fin hs he r (pre ++ [x]) k (by rw [h]; simp) (by simp at hk; omega)
    | false => rfl
theorem loop_all0 {α R : Type} (L : List α) (q : List α → α → Bool) (bad : Option R) (lp : Nat → Int → Option R) (fin : Option R) (n : Nat) (hn : L.length < n)
    (hs : ∀ k pre x r, L = pre ++ x :: r → lp (k + 1) (pre.length : Int) = bif q pre x then lp k ((pre ++ [x]).length : Int) else bad)
    (he : ∀ k, lp (k + 1) (L.length : Int) = fin) : lp n 0 = bif allP q [] L then fin else bad := loop_all L q bad lp fin hs he L [] n rfl hn
/-- A loop that copies a list. -/
theorem loop_copy {α β : Type} (L : List α) (lp : Nat → Int → List α → Option β) (g : List α → Option β)
    (hs : ∀ k pre x r v, L = pre ++ x :: r → v.length = L.length → lp (k + 1) (pre.length : Int) v = lp k ((pre ++ [x]).length : Int) (v.set pre.length x))
    (he : ∀ k v, lp (k + 1) (L.length : Int) v = g v) : ∀ (r pre : List α) (k : Nat) (v : List α), L = pre ++ r → r.length < k → v.length = L.length → v.take pre.length = pre → lp k (pre.length : Int) v = g L
  | [], pre, k, v, h, hk, hv, ht => by
    obtain ⟨k, rfl⟩ : ∃ m, k = m + 1 := ⟨k - 1, by simp at hk; omega⟩
    have : pre = L := by simpa using h.symm
    subst this
    rw [he]
    rw [← hv, List.take_length] at ht
    rw [ht]
  | x :: r, pre, k, v, h, hk, hv, ht => by
    obtain ⟨k, rfl⟩ : ∃ m, k = m + 1 := ⟨k - 1, by simp at hk; omega⟩
    rw [hs k pre x r v h hv]
    have hl : pre.length < v.length := by rw [hv, h]; simp
    refine loop_copy L lp g hs he r (pre ++ [x]) k _ (by rw [h]; simp) (by simp at hk; omega) (by simpa using hv) ?_
    rw [List.length_append, List.length_singleton, List.take_add_one, List.getElem?_set_self hl, List.take_set, ht]
    rw [List.set_eq_of_length_le (by simp)]
    rfl
/-- A sum. -/
def sumL {α : Type} (c : α → Nat) : List α → Nat
  | [] => 0
  | x :: r => c x + sumL c r
theorem sumL_mem {α : Type} {c : α → Nat} : ∀ {l : List α} {x : α}, x ∈ l → c x ≤ sumL c l
  | y :: r, x, h => by
    rcases List.mem_cons.mp h with rfl | h
    · simp only [sumL]; omega
    · have := sumL_mem (c := c) h; simp only [sumL]; omega
/-- What is left of a bound. -/
def lf (left : Int) (c : Nat) : Int := if left - c < 0 then -1 else left - c
theorem lf_neg {left : Int} {c : Nat} (h : left - c < 0) : lf left c = -1 := if_pos h
theorem lf_pos {left : Int} {c : Nat} (h : ¬ left - c < 0) : lf left c = left - c := if_neg h
theorem lf_nonneg {left : Int} {c : Nat} (h : 0 ≤ lf left c) : lf left c = left - c ∧ (c : Int) ≤ left := by
  unfold lf at h ⊢
  split at h
  · omega
  · rename_i h1; rw [if_neg h1]; omega
/-- A loop that takes from a bound. -/
theorem loop_sz {α : Type} (L : List α) (c : α → Nat) (lp : Nat → Int → Int → Option Int)
    (hs : ∀ k pre x r left, L = pre ++ x :: r → 0 ≤ left → left ≤ 1048576 → lp (k + 1) left (pre.length : Int) = if left - c x < 0 then some (-1) else lp k (left - c x) ((pre ++ [x]).length : Int))
    (he : ∀ k left, lp (k + 1) left (L.length : Int) = some left) : ∀ (r pre : List α) (k : Nat) (left : Int), L = pre ++ r → r.length < k → 0 ≤ left → left ≤ 1048576 → lp k left (pre.length : Int) = some (lf left (sumL c r))
  | [], pre, k, left, h, hk, h0, h1 => by
    obtain ⟨k, rfl⟩ : ∃ m, k = m + 1 := ⟨k - 1, by simp at hk; omega⟩
    have : pre = L := by simpa using h.symm
    subst this
    have e : sumL c ([] : List α) = 0 := rfl
    rw [he, lf_pos (by omega), e]; congr 1; omega
  | x :: r, pre, k, left, h, hk, h0, h1 => by
    obtain ⟨k, rfl⟩ : ∃ m, k = m + 1 := ⟨k - 1, by simp at hk; omega⟩
    have e : sumL c (x :: r) = c x + sumL c r := rfl
    rw [hs k pre x r left h h0 h1]
    by_cases g : left - c x < 0
    · rw [if_pos g, lf_neg (by omega)]
    · rw [if_neg g, loop_sz L c lp hs he r (pre ++ [x]) k _ (by rw [h]; simp) (by simp at hk; omega) (by omega) (by omega)]
      congr 1
      by_cases g2 : left - (c x : Int) - (sumL c r : Int) < 0
      · rw [lf_neg g2, lf_neg (by omega)]
      · rw [lf_pos g2, lf_pos (by omega), e]; omega
end Go.Proofs.YtnnalcglfgapbaaDoor.Z
