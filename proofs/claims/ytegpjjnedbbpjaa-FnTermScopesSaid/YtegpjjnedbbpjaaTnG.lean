/- Draws: terms. -/
import Derived.Test.YtegpjjnedbbpjaaTnF
set_option linter.unusedVariables false
set_option linter.unusedSimpArgs false
namespace Go.Proofs.Ytegpjjnedbbpjaa.Z
open Go Go.RowKit Go.Proofs.Sy Go.Proofs
set_option maxRecDepth 100000
/-- The function draws this tree, each time. -/
def DT (f : Nat) (args : List AV) (u : Cu) (b : Nat) : Prop := ∃ (t : Tree) (v : Cu), Sy.Fn Try.prog f (.ptr 0 0 :: args) (cuB u) (fun rs τ' => rs = [.p t.enc] ∧ τ' = cuB v) ∧ wt t ≤ b
theorem pick_cases {n : Int} {u : Cu} : ∃ k v, pickM n u = (k, v) ∧ 0 ≤ k ∧ (k < n ∨ k = 0) := by
  have h := pickM_rng n u
  exact ⟨(pickM n u).1, (pickM n u).2, rfl, h⟩
theorem cPickE {n k : Int} {u v : Cu} (h : pickM n u = (k, v)) : Sy.Fn Try.prog 78 [.ptr 0 0, .p (I n)] (cuB u) (fun rs τ' => rs = [.p (I k)] ∧ τ' = cuB v) := by
  have := cPick n u
  rw [h] at this
  exact this
theorem get_str {l : List ByteArray} {k : Int} (h0 : 0 ≤ k) (h1 : k < l.length) : (l.map S)[0 + k.toNat]? = some (S (l.getD k.toNat ⟨#[]⟩)) := by
  have : k.toNat < l.length := by omega
  simp [this]
theorem getD_le {l : List ByteArray} {b : Nat} (h : l.all (fun x => Nat.ble x.size b) = true) (i : Nat) : (l.getD i ⟨#[]⟩).size ≤ b := getD_size h i
theorem wt_leaf (n t : ByteArray) : wt (mkLeaf n t) = 1 + n.size + t.size := by simp [mkLeaf, wt, wtL]
theorem wt_node (n : ByteArray) (l : List Tree) : wt (mkNode n l) = 1 + n.size + wtL l := by simp [mkNode, wt]; rfl
theorem encM_two (a b : Tree) : encM [a, b] = [a.enc, b.enc] := by simp only [encM, enc0_eq]
theorem encM_three (a b c : Tree) : encM [a, b, c] = [a.enc, b.enc, c.enc] := by simp only [encM, enc0_eq]
def idL : List ByteArray := [(⟨#[120]⟩ : ByteArray), (⟨#[121]⟩ : ByteArray), (⟨#[122]⟩ : ByteArray), (⟨#[102]⟩ : ByteArray), (⟨#[121, 49]⟩ : ByteArray), (⟨#[120, 50]⟩ : ByteArray)]
theorem cId (u : Cu) : DT 177 [] u 10 := by
  obtain ⟨k, v, hk, h0, h1⟩ := pick_cases (n := 6) (u := u)
  refine ⟨mkLeaf (⟨#[73, 100]⟩ : ByteArray) (idL.getD k.toNat ⟨#[]⟩), v, ?_, ?_⟩
  · refine fn_intro Try.func177 rfl rfl rfl ?_
    refine And.intro (show fits _ _ by repeat' constructor) ?_
    refine callG [0] (cPickE hk) rfl (fun K hk => hk) ?_
    rintro rs τ' hl' ⟨rfl, rfl⟩
    refine And.intro ⟨h0, show k < ((6 : Nat) : Int) by omega⟩ (Exists.intro _ (And.intro (get_str (l := idL) h0 (show k < ((6 : Nat) : Int) by omega)) ?_))
    refine callA (cLeaf _ _) ?_
    exact ⟨cuB v, ⟨⟨⟨rfl, rfl, rfl, rfl, trivial⟩, trivial⟩, rfl⟩, rfl, rfl⟩
  · have := getD_le (l := idL) (b := 2) (by decide) k.toNat
    rw [wt_leaf]
    show 1 + 2 + _ ≤ 10
    omega
def numL : List ByteArray := [(⟨#[48]⟩ : ByteArray), (⟨#[49]⟩ : ByteArray), (⟨#[52, 50]⟩ : ByteArray), (⟨#[55]⟩ : ByteArray)]
def ynL : List ByteArray := [(⟨#[89, 101, 115]⟩ : ByteArray), (⟨#[78, 111]⟩ : ByteArray)]
def pow4 : Nat → Nat
  | 0 => 100
  | n + 1 => 4 * pow4 n
theorem pow4_pos : ∀ n, 100 ≤ pow4 n
  | 0 => Nat.le_refl _
  | n + 1 => by have := pow4_pos n; simp only [pow4]; omega
theorem cTerm0 (u : Cu) (z : Int) (hz : z ≤ 0) : DT 98 [.p (I z)] u 20 := by
  obtain ⟨k, v, hk, h0, h1⟩ := pick_cases (n := 6) (u := u)
  by_cases k0 : k = 0
  · subst k0
    obtain ⟨q, w, hq, q0, q1⟩ := pick_cases (n := 4) (u := v)
    refine ⟨mkLeaf (⟨#[78, 117, 109]⟩ : ByteArray) (numL.getD q.toNat ⟨#[]⟩), w, ?_, ?_⟩
    · refine fn_intro Try.func98 rfl rfl rfl ?_
      repeat' first | (exfalso; omega) | (refine And.intro (fun c => ?_) (fun c => ?_) <;> first | exact absurd c (by decide) | (cases c; done) | (simp only [decide_eq_true_eq, decide_eq_false_iff_not] at c) | skip) | (refine callG [0] (cPickE hk) rfl (fun K hk => hk) ?_; rintro rs τ' hl' ⟨rfl, rfl⟩) | fail
      refine And.intro (show fits _ _ by repeat' constructor) ?_
      refine callG [0] (cPickE hq) rfl (fun K hk => hk) ?_
      rintro rs τ' hl' ⟨rfl, rfl⟩
      refine And.intro ⟨q0, show q < ((4 : Nat) : Int) by omega⟩ (Exists.intro _ (And.intro (get_str (l := numL) q0 (show q < ((4 : Nat) : Int) by omega)) ?_))
      refine callA (cLeaf _ _) ?_
      exact ⟨cuB w, ⟨⟨⟨rfl, rfl, rfl, rfl, trivial⟩, trivial⟩, rfl⟩, rfl, rfl⟩
    · have := getD_le (l := numL) (b := 2) (by decide) q.toNat
      rw [wt_leaf]
      show 1 + 3 + _ ≤ 20
      omega
  by_cases k1 : k = 1
  · subst k1
    obtain ⟨q, w, hq, q0, q1⟩ := pick_cases (n := 2) (u := v)
    refine ⟨mkLeaf (ynL.getD q.toNat ⟨#[]⟩) ⟨#[]⟩, w, ?_, ?_⟩
    · refine fn_intro Try.func98 rfl rfl rfl ?_
      repeat' first | (exfalso; omega) | (refine And.intro (fun c => ?_) (fun c => ?_) <;> first | exact absurd c (by decide) | (cases c; done) | (simp only [decide_eq_true_eq, decide_eq_false_iff_not] at c) | skip) | (refine callG [0] (cPickE hk) rfl (fun K hk => hk) ?_; rintro rs τ' hl' ⟨rfl, rfl⟩) | fail
      refine And.intro (show fits _ _ by repeat' constructor) ?_
      refine callG [0] (cPickE hq) rfl (fun K hk => hk) ?_
      rintro rs τ' hl' ⟨rfl, rfl⟩
      refine And.intro ⟨q0, show q < ((2 : Nat) : Int) by omega⟩ (Exists.intro _ (And.intro (get_str (l := ynL) q0 (show q < ((2 : Nat) : Int) by omega)) ?_))
      refine callA (cLeaf _ _) ?_
      exact ⟨cuB w, ⟨⟨⟨rfl, rfl, rfl, rfl, trivial⟩, trivial⟩, rfl⟩, rfl, rfl⟩
    · have := getD_le (l := ynL) (b := 3) (by decide) q.toNat
      rw [wt_leaf]
      show 1 + _ + 0 ≤ 20
      omega
  · obtain ⟨t, w, ht, hw⟩ := cId v
    refine ⟨t, w, ?_, by omega⟩
    refine fn_intro Try.func98 rfl rfl rfl ?_
    repeat' first | (exfalso; omega) | (refine And.intro (fun c => ?_) (fun c => ?_) <;> first | exact absurd c (by decide) | (cases c; done) | (simp only [decide_eq_true_eq, decide_eq_false_iff_not] at c) | skip) | (refine callG [0] (cPickE hk) rfl (fun K hk => hk) ?_; rintro rs τ' hl' ⟨rfl, rfl⟩) | fail
    all_goals first | (exfalso; grind) | skip
    refine callG [0] ht rfl (fun K hk => hk) ?_
    rintro rs τ' hl' ⟨rfl, rfl⟩
    exact ⟨cuB w, ⟨⟨⟨rfl, rfl, rfl, rfl, trivial⟩, trivial⟩, rfl⟩, rfl, rfl⟩
theorem cTerm : ∀ (n : Nat) (hn : n ≤ 1000) (u : Cu), DT 98 [.p (I n)] u (pow4 n)
  | 0, hn, u => by
    obtain ⟨t, v, h, hw⟩ := cTerm0 u 0 (by omega)
    exact ⟨t, v, h, Nat.le_trans hw (by decide)⟩
  | n + 1, hn, u => by
    have ih : ∀ u, ∃ (t : Tree) (v : Cu), (∀ z : Int, z = n → Sy.Fn Try.prog 98 [.ptr 0 0, .p (I z)] (cuB u) (fun rs τ' => rs = [.p t.enc] ∧ τ' = cuB v)) ∧ wt t ≤ pow4 n := fun u => by
      obtain ⟨t, v, h, hw⟩ := cTerm n (by omega) u
      exact ⟨t, v, fun z hz => by rw [hz]; exact h, hw⟩
    obtain ⟨a, ua, ha, wa⟩ := ih u
    obtain ⟨k, v, hk, h0, h1⟩ := pick_cases (n := 8) (u := ua)
    have hlt : k = 0 ∨ k = 1 ∨ k = 2 ∨ k = 3 ∨ k = 4 ∨ k = 5 ∨ k = 6 ∨ k = 7 := by omega
    show ∃ t v, _ ∧ wt t ≤ 4 * pow4 n
    rcases hlt with hkk | hkk | hkk | hkk | hkk | hkk | hkk | hkk
    · subst hkk
      obtain ⟨i, ui, hi, wi⟩ := cId v
      refine ⟨mkNode (⟨#[76, 97, 109]⟩ : ByteArray) [i, a], ui, ?_, ?_⟩
      · refine fn_intro Try.func98 rfl rfl rfl ?_
        repeat' first | (exfalso; omega) | (refine And.intro (fun c => ?_) (fun c => ?_) <;> first | exact absurd c (by decide) | (cases c; done) | (simp only [decide_eq_true_eq, decide_eq_false_iff_not] at c) | skip) | fail
        refine callG [0] (ha _ (w64 (by omega) |>.trans (by omega))) rfl (fun K hk => hk) ?_
        rintro rs τ' hl' ⟨rfl, rfl⟩
        repeat' first | (refine And.intro (fun c => ?_) (fun c => ?_) <;> first | exact absurd c (by decide) | (cases c; done) | (simp only [decide_eq_true_eq, decide_eq_false_iff_not] at c) | skip) | (refine callG [0] (cPickE hk) rfl (fun K hk => hk) ?_; rintro rs τ' hl' ⟨rfl, rfl⟩) | fail
        refine ⟨[0, 2, 1, 3, 4, 1005], [0], by decide +kernel, ?_⟩
        refine callG [0] hi rfl (fun K hk => hk) ?_
        rintro rs τ' hl' ⟨rfl, rfl⟩
        refine And.intro (show fits _ _ from ⟨⟨rfl, rfl⟩, ⟨⟨rfl, rfl⟩, trivial⟩⟩) ?_
        refine callP (cNode (⟨#[76, 97, 109]⟩ : ByteArray) [i, a]) (fun K hk => Exists.intro (encM [i, a]) (And.intro (by rw [encM_two]; exact row_all' _ _) hk)) ?_
        exact ⟨cuB ui, ⟨⟨⟨rfl, rfl, rfl, rfl, trivial⟩, trivial⟩, rfl⟩, rfl, rfl⟩
      · rw [wt_node]; simp only [wtL]; show 1 + 3 + _ ≤ 4 * pow4 n; have := pow4_pos n; omega
    · subst hkk
      obtain ⟨i, ui, hi, wi⟩ := cId v
      refine ⟨mkNode (⟨#[76, 97, 109]⟩ : ByteArray) [i, a], ui, ?_, ?_⟩
      · refine fn_intro Try.func98 rfl rfl rfl ?_
        repeat' first | (exfalso; omega) | (refine And.intro (fun c => ?_) (fun c => ?_) <;> first | exact absurd c (by decide) | (cases c; done) | (simp only [decide_eq_true_eq, decide_eq_false_iff_not] at c) | skip) | fail
        refine callG [0] (ha _ (w64 (by omega) |>.trans (by omega))) rfl (fun K hk => hk) ?_
        rintro rs τ' hl' ⟨rfl, rfl⟩
        repeat' first | (refine And.intro (fun c => ?_) (fun c => ?_) <;> first | exact absurd c (by decide) | (cases c; done) | (simp only [decide_eq_true_eq, decide_eq_false_iff_not] at c) | skip) | (refine callG [0] (cPickE hk) rfl (fun K hk => hk) ?_; rintro rs τ' hl' ⟨rfl, rfl⟩) | fail
        refine ⟨[0, 2, 1, 3, 4, 1005], [0], by decide +kernel, ?_⟩
        refine callG [0] hi rfl (fun K hk => hk) ?_
        rintro rs τ' hl' ⟨rfl, rfl⟩
        refine And.intro (show fits _ _ from ⟨⟨rfl, rfl⟩, ⟨⟨rfl, rfl⟩, trivial⟩⟩) ?_
        refine callP (cNode (⟨#[76, 97, 109]⟩ : ByteArray) [i, a]) (fun K hk => Exists.intro (encM [i, a]) (And.intro (by rw [encM_two]; exact row_all' _ _) hk)) ?_
        exact ⟨cuB ui, ⟨⟨⟨rfl, rfl, rfl, rfl, trivial⟩, trivial⟩, rfl⟩, rfl, rfl⟩
      · rw [wt_node]; simp only [wtL]; show 1 + 3 + _ ≤ 4 * pow4 n; have := pow4_pos n; omega
    · subst hkk
      obtain ⟨b, ub, hb, wb⟩ := ih v
      refine ⟨mkNode (⟨#[65, 112, 112]⟩ : ByteArray) [a, b], ub, ?_, ?_⟩
      · refine fn_intro Try.func98 rfl rfl rfl ?_
        repeat' first | (exfalso; omega) | (refine And.intro (fun c => ?_) (fun c => ?_) <;> first | exact absurd c (by decide) | (cases c; done) | (simp only [decide_eq_true_eq, decide_eq_false_iff_not] at c) | skip) | fail
        refine callG [0] (ha _ (w64 (by omega) |>.trans (by omega))) rfl (fun K hk => hk) ?_
        rintro rs τ' hl' ⟨rfl, rfl⟩
        repeat' first | (refine And.intro (fun c => ?_) (fun c => ?_) <;> first | exact absurd c (by decide) | (cases c; done) | (simp only [decide_eq_true_eq, decide_eq_false_iff_not] at c) | skip) | (refine callG [0] (cPickE hk) rfl (fun K hk => hk) ?_; rintro rs τ' hl' ⟨rfl, rfl⟩) | fail
        refine ⟨[0, 1, 2, 3, 4, 5, 6, 1007], [0], by decide +kernel, ?_⟩
        refine callG [0] (hb _ (w64 (by omega) |>.trans (by omega))) rfl (fun K hk => hk) ?_
        rintro rs τ' hl' ⟨rfl, rfl⟩
        refine And.intro (show fits _ _ from ⟨⟨rfl, rfl⟩, ⟨⟨rfl, rfl⟩, trivial⟩⟩) ?_
        refine callP (cNode (⟨#[65, 112, 112]⟩ : ByteArray) [a, b]) (fun K hk => Exists.intro (encM [a, b]) (And.intro (by rw [encM_two]; exact row_all' _ _) hk)) ?_
        exact ⟨cuB ub, ⟨⟨⟨rfl, rfl, rfl, rfl, trivial⟩, trivial⟩, rfl⟩, rfl, rfl⟩
      · rw [wt_node]; simp only [wtL]; show 1 + 3 + _ ≤ 4 * pow4 n; have := pow4_pos n; omega
    · subst hkk
      obtain ⟨i, ui, hi, wi⟩ := cId v
      obtain ⟨b, ub, hb, wb⟩ := ih ui
      refine ⟨mkNode (⟨#[76, 101, 116]⟩ : ByteArray) [i, a, b], ub, ?_, ?_⟩
      · refine fn_intro Try.func98 rfl rfl rfl ?_
        repeat' first | (exfalso; omega) | (refine And.intro (fun c => ?_) (fun c => ?_) <;> first | exact absurd c (by decide) | (cases c; done) | (simp only [decide_eq_true_eq, decide_eq_false_iff_not] at c) | skip) | fail
        refine callG [0] (ha _ (w64 (by omega) |>.trans (by omega))) rfl (fun K hk => hk) ?_
        rintro rs τ' hl' ⟨rfl, rfl⟩
        repeat' first | (refine And.intro (fun c => ?_) (fun c => ?_) <;> first | exact absurd c (by decide) | (cases c; done) | (simp only [decide_eq_true_eq, decide_eq_false_iff_not] at c) | skip) | (refine callG [0] (cPickE hk) rfl (fun K hk => hk) ?_; rintro rs τ' hl' ⟨rfl, rfl⟩) | fail
        refine ⟨[0, 2, 3, 4, 5, 1, 6, 7, 8, 1009], [0], by decide +kernel, ?_⟩
        refine callG [0] hi rfl (fun K hk => hk) ?_
        rintro rs τ' hl' ⟨rfl, rfl⟩
        refine callG [0] (hb _ (w64 (by omega) |>.trans (by omega))) rfl (fun K hk => hk) ?_
        rintro rs τ' hl' ⟨rfl, rfl⟩
        refine And.intro (show fits _ _ from ⟨⟨rfl, rfl⟩, ⟨⟨rfl, rfl⟩, ⟨⟨rfl, rfl⟩, trivial⟩⟩⟩) ?_
        refine callP (cNode (⟨#[76, 101, 116]⟩ : ByteArray) [i, a, b]) (fun K hk => Exists.intro (encM [i, a, b]) (And.intro (by rw [encM_three]; exact row_all' _ _) hk)) ?_
        exact ⟨cuB ub, ⟨⟨⟨rfl, rfl, rfl, rfl, trivial⟩, trivial⟩, rfl⟩, rfl, rfl⟩
      · rw [wt_node]; simp only [wtL]; show 1 + 3 + _ ≤ 4 * pow4 n; have := pow4_pos n; omega
    · subst hkk
      obtain ⟨z, uz, hz, wz⟩ := cTerm0 v 0 (by omega)
      obtain ⟨b, ub, hb, wb⟩ := ih uz
      refine ⟨mkNode (⟨#[73, 102]⟩ : ByteArray) [z, a, b], ub, ?_, ?_⟩
      · refine fn_intro Try.func98 rfl rfl rfl ?_
        repeat' first | (exfalso; omega) | (refine And.intro (fun c => ?_) (fun c => ?_) <;> first | exact absurd c (by decide) | (cases c; done) | (simp only [decide_eq_true_eq, decide_eq_false_iff_not] at c) | skip) | fail
        refine callG [0] (ha _ (w64 (by omega) |>.trans (by omega))) rfl (fun K hk => hk) ?_
        rintro rs τ' hl' ⟨rfl, rfl⟩
        repeat' first | (refine And.intro (fun c => ?_) (fun c => ?_) <;> first | exact absurd c (by decide) | (cases c; done) | (simp only [decide_eq_true_eq, decide_eq_false_iff_not] at c) | skip) | (refine callG [0] (cPickE hk) rfl (fun K hk => hk) ?_; rintro rs τ' hl' ⟨rfl, rfl⟩) | fail
        refine ⟨[0, 2, 3, 4, 5, 1, 6, 7, 8, 1009], [0], by decide +kernel, ?_⟩
        refine callG [0] hz rfl (fun K hk => hk) ?_
        rintro rs τ' hl' ⟨rfl, rfl⟩
        refine callG [0] (hb _ (w64 (by omega) |>.trans (by omega))) rfl (fun K hk => hk) ?_
        rintro rs τ' hl' ⟨rfl, rfl⟩
        refine And.intro (show fits _ _ from ⟨⟨rfl, rfl⟩, ⟨⟨rfl, rfl⟩, ⟨⟨rfl, rfl⟩, trivial⟩⟩⟩) ?_
        refine callP (cNode (⟨#[73, 102]⟩ : ByteArray) [z, a, b]) (fun K hk => Exists.intro (encM [z, a, b]) (And.intro (by rw [encM_three]; exact row_all' _ _) hk)) ?_
        exact ⟨cuB ub, ⟨⟨⟨rfl, rfl, rfl, rfl, trivial⟩, trivial⟩, rfl⟩, rfl, rfl⟩
      · rw [wt_node]; simp only [wtL]; show 1 + 2 + _ ≤ 4 * pow4 n; have := pow4_pos n; omega
    · subst hkk
      obtain ⟨b, ub, hb, wb⟩ := ih v
      refine ⟨mkNode (⟨#[65, 100, 100]⟩ : ByteArray) [a, b], ub, ?_, ?_⟩
      · refine fn_intro Try.func98 rfl rfl rfl ?_
        repeat' first | (exfalso; omega) | (refine And.intro (fun c => ?_) (fun c => ?_) <;> first | exact absurd c (by decide) | (cases c; done) | (simp only [decide_eq_true_eq, decide_eq_false_iff_not] at c) | skip) | fail
        refine callG [0] (ha _ (w64 (by omega) |>.trans (by omega))) rfl (fun K hk => hk) ?_
        rintro rs τ' hl' ⟨rfl, rfl⟩
        repeat' first | (refine And.intro (fun c => ?_) (fun c => ?_) <;> first | exact absurd c (by decide) | (cases c; done) | (simp only [decide_eq_true_eq, decide_eq_false_iff_not] at c) | skip) | (refine callG [0] (cPickE hk) rfl (fun K hk => hk) ?_; rintro rs τ' hl' ⟨rfl, rfl⟩) | fail
        refine ⟨[0, 1, 2, 3, 4, 5, 6, 1007], [0], by decide +kernel, ?_⟩
        refine callG [0] (hb _ (w64 (by omega) |>.trans (by omega))) rfl (fun K hk => hk) ?_
        rintro rs τ' hl' ⟨rfl, rfl⟩
        refine And.intro (show fits _ _ from ⟨⟨rfl, rfl⟩, ⟨⟨rfl, rfl⟩, trivial⟩⟩) ?_
        refine callP (cNode (⟨#[65, 100, 100]⟩ : ByteArray) [a, b]) (fun K hk => Exists.intro (encM [a, b]) (And.intro (by rw [encM_two]; exact row_all' _ _) hk)) ?_
        exact ⟨cuB ub, ⟨⟨⟨rfl, rfl, rfl, rfl, trivial⟩, trivial⟩, rfl⟩, rfl, rfl⟩
      · rw [wt_node]; simp only [wtL]; show 1 + 3 + _ ≤ 4 * pow4 n; have := pow4_pos n; omega
    · subst hkk
      obtain ⟨z, uz, hz, wz⟩ := cTerm0 v 0 (by omega)
      refine ⟨mkNode (⟨#[69, 113]⟩ : ByteArray) [a, z], uz, ?_, ?_⟩
      · refine fn_intro Try.func98 rfl rfl rfl ?_
        repeat' first | (exfalso; omega) | (refine And.intro (fun c => ?_) (fun c => ?_) <;> first | exact absurd c (by decide) | (cases c; done) | (simp only [decide_eq_true_eq, decide_eq_false_iff_not] at c) | skip) | fail
        refine callG [0] (ha _ (w64 (by omega) |>.trans (by omega))) rfl (fun K hk => hk) ?_
        rintro rs τ' hl' ⟨rfl, rfl⟩
        repeat' first | (refine And.intro (fun c => ?_) (fun c => ?_) <;> first | exact absurd c (by decide) | (cases c; done) | (simp only [decide_eq_true_eq, decide_eq_false_iff_not] at c) | skip) | (refine callG [0] (cPickE hk) rfl (fun K hk => hk) ?_; rintro rs τ' hl' ⟨rfl, rfl⟩) | fail
        refine ⟨[0, 1, 2, 3, 4, 1005], [0], by decide +kernel, ?_⟩
        refine callG [0] hz rfl (fun K hk => hk) ?_
        rintro rs τ' hl' ⟨rfl, rfl⟩
        refine And.intro (show fits _ _ from ⟨⟨rfl, rfl⟩, ⟨⟨rfl, rfl⟩, trivial⟩⟩) ?_
        refine callP (cNode (⟨#[69, 113]⟩ : ByteArray) [a, z]) (fun K hk => Exists.intro (encM [a, z]) (And.intro (by rw [encM_two]; exact row_all' _ _) hk)) ?_
        exact ⟨cuB uz, ⟨⟨⟨rfl, rfl, rfl, rfl, trivial⟩, trivial⟩, rfl⟩, rfl, rfl⟩
      · rw [wt_node]; simp only [wtL]; show 1 + 2 + _ ≤ 4 * pow4 n; have := pow4_pos n; omega
    · subst hkk
      obtain ⟨z, uz, hz, wz⟩ := cTerm0 v 0 (by omega)
      refine ⟨z, uz, ?_, by have := pow4_pos n; omega⟩
      refine fn_intro Try.func98 rfl rfl rfl ?_
      repeat' first | (exfalso; omega) | (refine And.intro (fun c => ?_) (fun c => ?_) <;> first | exact absurd c (by decide) | (cases c; done) | (simp only [decide_eq_true_eq, decide_eq_false_iff_not] at c) | skip) | fail
      refine callG [0] (ha _ (w64 (by omega) |>.trans (by omega))) rfl (fun K hk => hk) ?_
      rintro rs τ' hl' ⟨rfl, rfl⟩
      repeat' first | (refine And.intro (fun c => ?_) (fun c => ?_) <;> first | exact absurd c (by decide) | (cases c; done) | (simp only [decide_eq_true_eq, decide_eq_false_iff_not] at c) | skip) | (refine callG [0] (cPickE hk) rfl (fun K hk => hk) ?_; rintro rs τ' hl' ⟨rfl, rfl⟩) | fail
      refine callG [0] hz rfl (fun K hk => hk) ?_
      rintro rs τ' hl' ⟨rfl, rfl⟩
      exact ⟨cuB uz, ⟨⟨⟨rfl, rfl, rfl, rfl, trivial⟩, trivial⟩, rfl⟩, rfl, rfl⟩
end Go.Proofs.Ytegpjjnedbbpjaa.Z
