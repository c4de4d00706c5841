/- Grammars: both BnfOK, plain. -/
import Derived.Test.YtnnalcglfgapbaaGdA
set_option linter.unusedVariables false
set_option linter.unusedSectionVars false
set_option linter.unusedSimpArgs false
namespace Go.Proofs.Ytnnalcglfgapbaa.Z
open Go Go.RowKit Go.Proofs.Sy Go.Proofs
set_option maxRecDepth 100000
/-- The same loop with a state. -/
theorem loop_allS {α σ R : Type} (L : List α) (q : List α → α → Bool) (bad : Option R) (st : List α → σ) (lp : Nat → Int → σ → Option R) (fin : Option R)
    (hs : ∀ k pre x r, L = pre ++ x :: r → lp (k + 1) (pre.length : Int) (st pre) = bif q pre x then lp k ((pre ++ [x]).length : Int) (st (pre ++ [x])) else bad)
    (he : ∀ k, lp (k + 1) (L.length : Int) (st L) = fin) : ∀ (r pre : List α) (k : Nat), L = pre ++ r → r.length < k → lp k (pre.length : Int) (st pre) = bif allP q pre r then fin else bad
  | [], pre, k, h, hk => by
    obtain ⟨k, rfl⟩ : ∃ m, k = m + 1 := ⟨k - 1, by simp at hk; omega⟩
    have : pre = L := by simpa using h.symm
    subst this
    rw [he]; rfl
  | x :: r, pre, k, h, hk => by
    obtain ⟨k, rfl⟩ : ∃ m, k = m + 1 := ⟨k - 1, by simp at hk; omega⟩
    rw [hs k pre x r h]
    simp only [allP]
    cases q pre x with
    | true =>
      simp only [cond_true, Bool.true_and]
      exact loop_allS L q bad st lp fin hs he r (pre ++ [x]) k (by rw [h]; simp) (by simp at hk; omega)
    | false => rfl
def strg (l a : Int) : Bool := (decide (0 ≤ l) && decide (l ≤ 8)) && ((l == 0 && a == 0) || (decide (l > 0) && (decide (1 ≤ a) && decide (a ≤ 3))))
theorem strS (n : Nat) (l a : Int) : m_spec_l04Strength n l a = some (strg l a) := by
  unfold m_spec_l04Strength strg
  simp only [btw, Option.bind_some]
  cases (decide (0 ≤ l) && decide (l ≤ 8)) with
  | false => rfl
  | true =>
    by_cases h3 : l = 0
    · subst h3
      cases (a == 0) <;> rfl
    · have h4 : (l == 0) = false := by simp [h3]
      rw [h4]
      cases decide (l > 0) <;> cases (decide (1 ≤ a) && decide (a ≤ 3)) <;> rfl
theorem strI (n : Nat) (l a : Int) : m_impl_levelOK n l a = some (strg l a) := by
  unfold m_impl_levelOK strg
  by_cases h1 : 0 ≤ l
  · rw [decide_eq_false (show ¬ l < 0 by omega), decide_eq_true h1]
    by_cases h2 : l ≤ 8
    · rw [decide_eq_false (show ¬ l > 8 by omega), decide_eq_true h2]
      by_cases h3 : l = 0
      · subst h3; simp
      · have h5 : l > 0 := by omega
        have : (l == 0) = false := by simp [h3]
        rw [this, decide_eq_true h5]
        show (bif decide (1 ≤ a) then some (decide (a ≤ 3)) else some false) = some (decide (1 ≤ a) && decide (a ≤ 3))
        cases decide (1 ≤ a) <;> rfl
    · rw [decide_eq_true (show l > 8 by omega), decide_eq_false h2]; simp
  · rw [decide_eq_true (show l < 0 by omega), decide_eq_false h1]; simp
def symOK (T N x : Int) : Bool := decide (0 ≤ x) && decide (x < T + N)
def prodOK (T N : Int) (p : gProd) : Bool := (decide (T ≤ p.left_) && decide (p.left_ < T + N)) && (decide (p.right_.length ≤ 12) && ((decide (p.label_ = ⟨#[]⟩) || nameOK p.label_) && (strg p.level_ p.assoc_ && p.right_.all (symOK T N))))
def inB (l : List ByteArray) (x : ByteArray) : Bool := l.any fun y => decide (y = x)
theorem inB_iff {l : List ByteArray} {x : ByteArray} : inB l x = true ↔ x ∈ l := by
  unfold inB
  simp only [List.any_eq_true, decide_eq_true_eq]
  exact ⟨fun ⟨y, h, e⟩ => e ▸ h, fun h => ⟨x, h, rfl⟩⟩
def termQ (pre : List gTerm) (x : gTerm) : Bool := strg x.level_ x.assoc_ && !inB (pre.map (·.name_)) x.name_
def nonQ (pre : List ByteArray) (x : ByteArray) : Bool := !inB pre x
def okB (b : gBnf) : Bool := decide (b.terms_.length ≤ 60) && (decide (1 ≤ b.nons_.length) && (decide (b.nons_.length ≤ 100) && (decide (1 ≤ b.own_) && (decide (b.own_ ≤ (b.nons_.length : Int)) && (decide (b.prods_.length ≤ 120) &&
  (allP termQ [] b.terms_ && (allP nonQ [] b.nons_ && b.prods_.all (prodOK b.terms_.length b.nons_.length))))))))
/-- The names seen so far. -/
def mset (l : List ByteArray) : List (ByteArray × Int) := l.foldl (fun m x => tput m x 1) []
theorem tget_tput {α : Type} (k k' : ByteArray) (y : α) : ∀ m : List (ByteArray × α), tget (tput m k y) k' = if k = k' then some y else tget m k'
  | [] => by simp [tput, tget]
  | (z, v) :: r => by
    by_cases h : z = k
    · subst h
      by_cases h2 : z = k' <;> simp [tput, tget, h2]
    · simp only [tput, if_neg h, tget, tget_tput k k' y r]
      by_cases h2 : z = k'
      · subst h2
        have : ¬ k = z := fun e => h e.symm
        simp [this]
      · simp [h2]
theorem mset_app (l : List ByteArray) (x : ByteArray) : mset (l ++ [x]) = tput (mset l) x 1 := by simp [mset]
theorem tget_fold (k : ByteArray) : ∀ (l : List ByteArray) (m : List (ByteArray × Int)), tget (l.foldl (fun m x => tput m x 1) m) k = if inB l k = true then some 1 else tget m k
  | [], m => by simp [inB]
  | x :: l, m => by
    rw [List.foldl_cons, tget_fold k l, tget_tput]
    by_cases h : x = k
    · subst h
      have e : inB (x :: l) x = true := by simp [inB]
      rw [e, if_pos rfl, if_pos rfl]
      cases inB l x <;> rfl
    · have : inB (x :: l) k = inB l k := by simp [inB, h]
      rw [this, if_neg h]
theorem tget_mset (k : ByteArray) (l : List ByteArray) : tget (mset l) k = if inB l k = true then some 1 else none := tget_fold k l []
theorem optc_mset {R : Type} (k : ByteArray) (l : List ByteArray) (f : R) (g : R) : optc (tget (mset l) k) (fun y => bif decide (y > 0) then f else g) (bif decide ((0 : Int) > 0) then f else g) = bif inB l k then f else g := by
  rw [tget_mset]
  cases inB l k <;> rfl
section
variable {n : Nat} (hn : 1100000 ≤ n) {b : gBnf} (hT : b.terms_.length ≤ 60) (hN : b.nons_.length ≤ 100) (hP : b.prods_.length ≤ 120)
include hn hT hN hP
theorem rightsS (p : gProd) (hp : p.right_.length ≤ 12) (v : Int) (rec : Int → Option Bool) : m_spec_BnfOK_j45 n b v rec p = bif p.right_.all (symOK b.terms_.length b.nons_.length) then rec (wr .i64 (v + 1)) else some false := by
  unfold m_spec_BnfOK_j45
  rw [loop_all0 p.right_ (fun _ x => symOK b.terms_.length b.nons_.length x) (some false) (m_spec_BnfOK_l46 n b v rec p) (rec (wr .i64 (v + 1))) n (by omega) (fun k pre x r h => by
    have ei : ix p.right_ (pre.length : Int) = some x := by rw [h, ixp]
    have hl2 : p.right_.length = pre.length + (r.length + 1) := by rw [h]; simp
    rw [m_spec_BnfOK_l46, List.length_map, decide_eq_true (by omega)]
    simp only [cond_true, ei, Option.bind_some, List.length_map, btw, wln pre x (by omega)]
    rw [wid (n := (b.terms_.length : Int) + (b.nons_.length : Int)) (by omega), wid (by omega)]
    unfold symOK
    rw [show decide (x ≤ (b.terms_.length : Int) + (b.nons_.length : Int) - 1) = decide (x < (b.terms_.length : Int) + (b.nons_.length : Int)) from decide_eq_decide.mpr (by omega)]
    cases (decide (0 ≤ x) && decide (x < (b.terms_.length : Int) + (b.nons_.length : Int))) <;> rfl) (fun k => by
    rw [m_spec_BnfOK_l46, List.length_map, decide_eq_false (by omega)]; rfl), allP_all]
theorem rightsI (p : gProd) (hp : p.right_.length ≤ 12) (v : Int) (rec : Int → Option Bool) : m_impl_BnfOK_j42 n b v rec p = bif p.right_.all (symOK b.terms_.length b.nons_.length) then rec (wr .i64 (v + 1)) else some false := by
  unfold m_impl_BnfOK_j42
  rw [loop_all0 p.right_ (fun _ x => symOK b.terms_.length b.nons_.length x) (some false) (m_impl_BnfOK_l43 b v rec p) (rec (wr .i64 (v + 1))) n (by omega) (fun k pre x r h => by
    have ei : ix p.right_ (pre.length : Int) = some x := by rw [h, ixp]
    have hl2 : p.right_.length = pre.length + (r.length + 1) := by rw [h]; simp
    rw [m_impl_BnfOK_l43, List.length_map, decide_eq_true (by omega)]
    simp only [cond_true, ei, Option.bind_some, List.length_map, wln pre x (by omega)]
    rw [wid (by omega)]
    unfold symOK
    by_cases h1 : 0 ≤ x
    · rw [decide_eq_false (show ¬ x < 0 by omega), decide_eq_true h1]
      by_cases h2 : x < (b.terms_.length : Int) + (b.nons_.length : Int)
      · rw [decide_eq_false (show ¬ x ≥ _ by omega), decide_eq_true h2]; rfl
      · rw [decide_eq_true (show x ≥ (b.terms_.length : Int) + (b.nons_.length : Int) by omega), decide_eq_false h2]; rfl
    · rw [decide_eq_true (show x < 0 by omega), decide_eq_false h1]; rfl) (fun k => by
    rw [m_impl_BnfOK_l43, List.length_map, decide_eq_false (by omega)]; rfl), allP_all]
theorem prodsS : m_spec_BnfOK_j13 n b = some (b.prods_.all (prodOK b.terms_.length b.nons_.length)) := by
  unfold m_spec_BnfOK_j13
  rw [loop_all0 b.prods_ (fun _ x => prodOK b.terms_.length b.nons_.length x) (some false) (m_spec_BnfOK_l41 n b) (some true) n (by omega) (fun k pre x r h => by
    have ei : ix b.prods_ (pre.length : Int) = some x := by rw [h, ixp]
    have hl2 : b.prods_.length = pre.length + (r.length + 1) := by rw [h]; simp
    rw [m_spec_BnfOK_l41, List.length_map, decide_eq_true (by omega)]
    simp only [cond_true, ei, Option.bind_some, List.length_map, btw, nameS (n := n) (by omega), strS]
    rw [wid (n := (b.terms_.length : Int) + (b.nons_.length : Int)) (by omega), wid (by omega)]
    unfold prodOK
    rw [show decide (x.left_ ≤ (b.terms_.length : Int) + (b.nons_.length : Int) - 1) = decide (x.left_ < (b.terms_.length : Int) + (b.nons_.length : Int)) from decide_eq_decide.mpr (by omega)]
    cases (decide ((b.terms_.length : Int) ≤ x.left_) && decide (x.left_ < (b.terms_.length : Int) + (b.nons_.length : Int))) with
    | false => rfl
    | true =>
      by_cases h12 : x.right_.length ≤ 12
      · rw [decide_eq_false (show ¬ (x.right_.length : Int) > 12 by omega), decide_eq_true h12]
        simp only [Bool.not_true, cond_false, Bool.true_and, rightsS hn hT hN hP x h12, wln pre x (by omega)]
        cases decide (x.label_ = ⟨#[]⟩) <;> cases nameOK x.label_ <;> cases strg x.level_ x.assoc_ <;> rfl
      · rw [decide_eq_true (show (x.right_.length : Int) > 12 by omega), decide_eq_false h12]; rfl) (fun k => by
    rw [m_spec_BnfOK_l41, List.length_map, decide_eq_false (by omega)]; rfl), allP_all]
  cases b.prods_.all _ <;> rfl
theorem prodsI : m_impl_BnfOK_j10 n b = some (b.prods_.all (prodOK b.terms_.length b.nons_.length)) := by
  unfold m_impl_BnfOK_j10
  rw [loop_all0 b.prods_ (fun _ x => prodOK b.terms_.length b.nons_.length x) (some false) (m_impl_BnfOK_l38 n b) (some true) n (by omega) (fun k pre x r h => by
    have ei : ix b.prods_ (pre.length : Int) = some x := by rw [h, ixp]
    have hl2 : b.prods_.length = pre.length + (r.length + 1) := by rw [h]; simp
    rw [m_impl_BnfOK_l38, List.length_map, decide_eq_true (by omega)]
    simp only [cond_true, ei, Option.bind_some, List.length_map, nameI (n := n) (by omega), strI]
    rw [wid (by omega)]
    unfold prodOK
    by_cases h1 : (b.terms_.length : Int) ≤ x.left_
    · rw [decide_eq_false (show ¬ x.left_ < (b.terms_.length : Int) by omega), decide_eq_true h1]
      by_cases h2 : x.left_ < (b.terms_.length : Int) + (b.nons_.length : Int)
      · rw [decide_eq_false (show ¬ x.left_ ≥ (b.terms_.length : Int) + (b.nons_.length : Int) by omega), decide_eq_true h2]
        by_cases h12 : x.right_.length ≤ 12
        · rw [decide_eq_false (show ¬ (x.right_.length : Int) > 12 by omega), decide_eq_true h12]
          simp only [Bool.not_true, cond_false, Bool.true_and, rightsI hn hT hN hP x h12, wln pre x (by omega)]
          cases decide (x.label_ = ⟨#[]⟩) <;> cases nameOK x.label_ <;> cases strg x.level_ x.assoc_ <;> rfl
        · rw [decide_eq_true (show (x.right_.length : Int) > 12 by omega), decide_eq_false h12]; rfl
      · rw [decide_eq_true (show x.left_ ≥ (b.terms_.length : Int) + (b.nons_.length : Int) by omega), decide_eq_false h2]; rfl
    · rw [decide_eq_true (show x.left_ < (b.terms_.length : Int) by omega), decide_eq_false h1]; rfl) (fun k => by
    rw [m_impl_BnfOK_l38, List.length_map, decide_eq_false (by omega)]; rfl), allP_all]
  cases b.prods_.all _ <;> rfl
omit hT hN hP in
theorem at_ (L : List ByteArray) (x : ByteArray) (hL : L.length ≤ 100) (pre r : List ByteArray) (h : L = pre ++ x :: r) : ∃ j, m_spec_l03At n L x = some j ∧ (j != (pre.length : Int)) = inB pre x := by
  have key : ∀ (t s : List ByteArray) (k : Nat), pre = s ++ t → t.length + 1 < k → ∃ j, m_spec_l03At_l3 L x k (s.length : Int) = some j ∧ (j != (pre.length : Int)) = inB t x := by
    intro t
    induction t with
    | nil =>
      intro s k e hk
      obtain ⟨k, rfl⟩ : ∃ m, k = m + 1 := ⟨k - 1, by omega⟩
      have : pre = s := by simpa using e
      subst this
      have hl2 : L.length = pre.length + (r.length + 1) := by rw [h]; simp
      have ei : ix L (pre.length : Int) = some x := by rw [h, ixp]
      rw [m_spec_l03At_l3, List.length_map, decide_eq_true (by omega)]
      refine ⟨(pre.length : Int), ?_, by simp [inB]⟩
      simp only [cond_true, ei, Option.bind_some, decide_true]
    | cons y t ih =>
      intro s k e hk
      obtain ⟨k, rfl⟩ : ∃ m, k = m + 1 := ⟨k - 1, by omega⟩
      have hLs : L = s ++ y :: (t ++ x :: r) := by rw [h, e]; simp
      have hl2 : L.length = s.length + ((t ++ x :: r).length + 1) := by rw [hLs]; simp
      have ei : ix L (s.length : Int) = some y := by rw [hLs, ixp]
      rw [m_spec_l03At_l3, List.length_map, decide_eq_true (by omega)]
      simp only [cond_true, ei, Option.bind_some]
      by_cases c : y = x
      · subst c
        refine ⟨(s.length : Int), by simp, ?_⟩
        have : pre.length = s.length + (t.length + 1) := by rw [e]; simp
        have hne : ((s.length : Int) != (pre.length : Int)) = true := by simp; omega
        rw [hne]; simp [inB]
      · rw [decide_eq_false c, cond_false, wln s y (by omega)]
        obtain ⟨j, hj1, hj2⟩ := ih (s ++ [y]) k (by rw [e]; simp) (by simp at hk; omega)
        refine ⟨j, hj1, ?_⟩
        rw [hj2]
        simp [inB, c]
  have hl2 : L.length = pre.length + (r.length + 1) := by rw [h]; simp
  exact key pre [] n rfl (by omega)
theorem nonsS : m_spec_BnfOK_j11 n b = bif allP nonQ [] b.nons_ then m_spec_BnfOK_j13 n b else some false := by
  unfold m_spec_BnfOK_j11
  exact loop_all0 b.nons_ nonQ (some false) (m_spec_BnfOK_l47 n b) (m_spec_BnfOK_j13 n b) n (by omega) (fun k pre x r h => by
    have ei : ix b.nons_ (pre.length : Int) = some x := by rw [h, ixp]
    have hl2 : b.nons_.length = pre.length + (r.length + 1) := by rw [h]; simp
    obtain ⟨j, hj1, hj2⟩ := at_ hn b.nons_ x (by omega) pre r h
    rw [m_spec_BnfOK_l47, List.length_map, decide_eq_true (by omega)]
    simp only [cond_true, ei, Option.bind_some, hj1, hj2, nonQ, wln pre x (by omega)]
    cases inB pre x <;> rfl) (fun k => by
    rw [m_spec_BnfOK_l47, List.length_map, decide_eq_false (by omega)]; rfl)
theorem nonsI : m_impl_BnfOK_j5 n b = bif allP nonQ [] b.nons_ then m_impl_BnfOK_j10 n b else some false := by
  unfold m_impl_BnfOK_j5
  exact loop_allS b.nons_ nonQ (some false) mset (m_impl_BnfOK_l46 n b) (m_impl_BnfOK_j10 n b) (fun k pre x r h => by
    have ei : ix b.nons_ (pre.length : Int) = some x := by rw [h, ixp]
    have hl2 : b.nons_.length = pre.length + (r.length + 1) := by rw [h]; simp
    rw [m_impl_BnfOK_l46, List.length_map, decide_eq_true (by omega)]
    simp only [cond_true, ei, Option.bind_some]
    rw [optc_mset]
    simp only [nonQ, m_impl_BnfOK_j47, wln pre x (by omega), mset_app]
    cases inB pre x <;> rfl) (fun k => by
    rw [m_impl_BnfOK_l46, List.length_map, decide_eq_false (by omega)]; rfl) b.nons_ [] n rfl (by omega)
theorem termsS : m_spec_BnfOK_l54 n b n 0 = bif allP termQ [] b.terms_ then m_spec_BnfOK_j11 n b else some false := by
  exact loop_all0 b.terms_ termQ (some false) (m_spec_BnfOK_l54 n b) (m_spec_BnfOK_j11 n b) n (by omega) (fun k pre x r h => by
    have ei : ix b.terms_ (pre.length : Int) = some x := by rw [h, ixp]
    have hl2 : b.terms_.length = pre.length + (r.length + 1) := by rw [h]; simp
    rw [m_spec_BnfOK_l54, List.length_map, decide_eq_true (by omega)]
    simp only [cond_true, ei, Option.bind_some, strS, termQ]
    cases strg x.level_ x.assoc_ with
    | false => rfl
    | true =>
      simp only [Bool.not_true, cond_false, Bool.true_and]
      rw [loop_all0 pre (fun _ y => !decide (y.name_ = x.name_)) (some false) (m_spec_BnfOK_l57 b (pre.length : Int) (m_spec_BnfOK_l54 n b k)) (m_spec_BnfOK_l54 n b k ((pre ++ [x]).length : Int)) n (by omega) (fun k2 s y t h2 => by
        have e2 : ix b.terms_ (s.length : Int) = some y := by rw [h, h2, List.append_assoc, List.cons_append, ixp]
        have hl3 : pre.length = s.length + (t.length + 1) := by rw [h2]; simp
        rw [m_spec_BnfOK_l57, decide_eq_true (by omega)]
        simp only [cond_true, e2, ei, Option.bind_some, wln s y (by omega)]
        cases decide (y.name_ = x.name_) <;> rfl) (fun k2 => by
        rw [m_spec_BnfOK_l57, decide_eq_false (by omega), cond_false, m_spec_BnfOK_j56, wln pre x (by omega)]), allP_all]
      have : pre.all (fun y => !decide (y.name_ = x.name_)) = !inB (pre.map (·.name_)) x.name_ := by
        unfold inB
        rw [List.any_map, List.not_any_eq_all_not]
        rfl
      rw [this]) (fun k => by
    rw [m_spec_BnfOK_l54, List.length_map, decide_eq_false (by omega)]; rfl)
theorem termsI : m_impl_BnfOK_l50 n b n 0 [] = bif allP termQ [] b.terms_ then m_impl_BnfOK_j5 n b else some false := by
  exact loop_allS b.terms_ termQ (some false) (fun l => mset (l.map (·.name_))) (m_impl_BnfOK_l50 n b) (m_impl_BnfOK_j5 n b) (fun k pre x r h => by
    have ei : ix b.terms_ (pre.length : Int) = some x := by rw [h, ixp]
    have hl2 : b.terms_.length = pre.length + (r.length + 1) := by rw [h]; simp
    rw [m_impl_BnfOK_l50, List.length_map, decide_eq_true (by omega)]
    simp only [cond_true, ei, Option.bind_some, strI]
    rw [optc_mset]
    simp only [termQ, m_impl_BnfOK_j51, wln pre x (by omega), List.map_append, List.map_cons, List.map_nil, mset_app]
    cases inB (pre.map (·.name_)) x.name_ <;> cases strg x.level_ x.assoc_ <;> rfl) (fun k => by
    rw [m_impl_BnfOK_l50, List.length_map, decide_eq_false (by omega)]; rfl) b.terms_ [] n rfl (by omega)
end
theorem bnfS {n : Nat} (hn : 1100000 ≤ n) (b : gBnf) : m_spec_BnfOK n b = some (okB b) := by
  unfold m_spec_BnfOK okB
  simp only [List.length_map, btw, Option.bind_some]
  by_cases h1 : b.terms_.length ≤ 60
  · rw [decide_eq_false (show ¬ (b.terms_.length : Int) > 60 by omega), decide_eq_true h1]
    by_cases h2 : 1 ≤ b.nons_.length
    · rw [decide_eq_true (show (1 : Int) ≤ (b.nons_.length : Int) by omega), decide_eq_true h2]
      by_cases h3 : b.nons_.length ≤ 100
      · rw [decide_eq_true (show (b.nons_.length : Int) ≤ 100 by omega), decide_eq_true h3]
        by_cases h4 : 1 ≤ b.own_
        · rw [decide_eq_true h4]
          by_cases h5 : b.own_ ≤ (b.nons_.length : Int)
          · rw [decide_eq_true h5]
            by_cases h6 : b.prods_.length ≤ 120
            · rw [decide_eq_false (show ¬ (b.prods_.length : Int) > 120 by omega), decide_eq_true h6]
              simp only [Bool.and_self, Bool.not_true, cond_false, Bool.true_and, termsS hn h1 h3 h6, nonsS hn h1 h3 h6, prodsS hn h1 h3 h6]
              cases allP termQ [] b.terms_ <;> cases allP nonQ [] b.nons_ <;> rfl
            · rw [decide_eq_true (show (b.prods_.length : Int) > 120 by omega), decide_eq_false h6]; rfl
          · rw [decide_eq_false h5]; rfl
        · rw [decide_eq_false h4]; rfl
      · rw [decide_eq_false (show ¬ (b.nons_.length : Int) ≤ 100 by omega), decide_eq_false h3]; rfl
    · rw [decide_eq_false (show ¬ (1 : Int) ≤ (b.nons_.length : Int) by omega), decide_eq_false h2]; rfl
  · rw [decide_eq_true (show (b.terms_.length : Int) > 60 by omega), decide_eq_false h1]; rfl
theorem bnfI {n : Nat} (hn : 1100000 ≤ n) (b : gBnf) : m_impl_BnfOK n b = some (okB b) := by
  unfold m_impl_BnfOK okB
  simp only [List.length_map]
  by_cases h1 : b.terms_.length ≤ 60
  · rw [decide_eq_false (show ¬ (b.terms_.length : Int) > 60 by omega), decide_eq_true h1]
    by_cases h2 : 1 ≤ b.nons_.length
    · rw [decide_eq_false (show ¬ (b.nons_.length : Int) < 1 by omega), decide_eq_true h2]
      by_cases h3 : b.nons_.length ≤ 100
      · rw [decide_eq_false (show ¬ (b.nons_.length : Int) > 100 by omega), decide_eq_true h3]
        by_cases h4 : 1 ≤ b.own_
        · rw [decide_eq_false (show ¬ b.own_ < 1 by omega), decide_eq_true h4]
          by_cases h5 : b.own_ ≤ (b.nons_.length : Int)
          · rw [decide_eq_false (show ¬ b.own_ > (b.nons_.length : Int) by omega), decide_eq_true h5]
            by_cases h6 : b.prods_.length ≤ 120
            · rw [decide_eq_false (show ¬ (b.prods_.length : Int) > 120 by omega), decide_eq_true h6]
              simp only [Bool.and_self, Bool.not_true, cond_false, Bool.true_and, termsI hn h1 h3 h6, nonsI hn h1 h3 h6, prodsI hn h1 h3 h6]
              cases allP termQ [] b.terms_ <;> cases allP nonQ [] b.nons_ <;> rfl
            · rw [decide_eq_true (show (b.prods_.length : Int) > 120 by omega), decide_eq_false h6]; rfl
          · rw [decide_eq_true (show b.own_ > (b.nons_.length : Int) by omega), decide_eq_false h5]; rfl
        · rw [decide_eq_true (show b.own_ < 1 by omega), decide_eq_false h4]; rfl
      · rw [decide_eq_true (show (b.nons_.length : Int) > 100 by omega), decide_eq_false h3]; rfl
    · rw [decide_eq_true (show (b.nons_.length : Int) < 1 by omega), decide_eq_false h2]; rfl
  · rw [decide_eq_true (show (b.terms_.length : Int) > 60 by omega), decide_eq_false h1]; rfl
end Go.Proofs.Ytnnalcglfgapbaa.Z
