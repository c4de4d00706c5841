/- Draws: any terms; what is asked for its scopes. -/
import Derived.Test.YtegpjjnedbbpjaaTnG
set_option linter.unusedVariables false
set_option linter.unusedSimpArgs false
namespace Go.Proofs.Ytegpjjnedbbpjaa.Z
open Go Go.RowKit Go.Proofs.Sy Go.Proofs
set_option maxRecDepth 100000
def badN : List ByteArray := [(⟨#[48, 49]⟩ : ByteArray), ⟨#[]⟩, (⟨#[49, 50, 51, 52, 53, 54, 55, 56, 57, 48]⟩ : ByteArray), (⟨#[97]⟩ : ByteArray)]
theorem cAnyTerm (u : Cu) : DT 108 [] u 2000000 := by
  have hs := sizeM_rng 4 u (by omega)
  have hsz := cSize 4 u (by omega)
  generalize sizeM 4 u = sz at hs hsz
  obtain ⟨s, us⟩ := sz
  simp only at hs hsz
  obtain ⟨t, ut, ht0, wt0⟩ := cTerm (1 + s).toNat (by omega) us
  have ht : ∀ z : Int, z = 1 + s → Sy.Fn Try.prog 98 [.ptr 0 0, .p (I z)] (cuB us) (fun rs τ' => rs = [.p t.enc] ∧ τ' = cuB ut) := fun z hz => by
    rw [hz, show (1 + s : Int) = ((1 + s).toNat : Int) by omega]; exact ht0
  have hwt : wt t ≤ 102400 := by
    refine Nat.le_trans wt0 ?_
    have : (1 + s).toNat = 1 ∨ (1 + s).toNat = 2 ∨ (1 + s).toNat = 3 ∨ (1 + s).toNat = 4 ∨ (1 + s).toNat = 5 := by omega
    rcases this with h | h | h | h | h <;> rw [h] <;> decide
  obtain ⟨k, v, hk, h0, h1⟩ := pick_cases (n := 20) (u := ut)
  by_cases k0 : k = 0
  · subst k0
    have hA := cAny v tree_hb
    refine ⟨(anyM v).1, (anyM v).2, ?_, ?_⟩
    · refine fn_intro Try.func108 rfl rfl rfl ?_
      refine callG [0] hsz rfl (fun K hk => hk) ?_
      rintro rs τ' hl' ⟨rfl, rfl⟩
      refine callG [0] (ht _ (w64 (by omega))) rfl (fun K hk => hk) ?_
      rintro rs τ' hl' ⟨rfl, rfl⟩
      refine callG [0] (cPickE hk) rfl (fun K hk => hk) ?_
      rintro rs τ' hl' ⟨rfl, rfl⟩
      repeat' first | (exfalso; omega) | (refine And.intro (fun c => ?_) (fun c => ?_) <;> first | exact absurd c (by decide) | (cases c; done) | (simp only [decide_eq_true_eq, decide_eq_false_iff_not] at c) | skip) | fail
      refine callG [0] hA rfl (fun K hk => hk) ?_
      rintro rs τ' hl' ⟨rfl, rfl⟩
      repeat' first | (exfalso; omega) | (refine And.intro (fun c => ?_) (fun c => ?_) <;> first | exact absurd c (by decide) | (cases c; done) | (simp only [decide_eq_true_eq, decide_eq_false_iff_not] at c) | skip) | fail
      exact ⟨cuB (anyM v).2, ⟨⟨⟨rfl, rfl, rfl, rfl, trivial⟩, trivial⟩, rfl⟩, rfl, rfl⟩
    · have := any_big v; omega
  by_cases k1 : k = 1
  · subst k1
    obtain ⟨q, w, hq, q0, q1⟩ := pick_cases (n := 4) (u := v)
    refine ⟨mkNode (⟨#[65, 100, 100]⟩ : ByteArray) [t, mkLeaf (⟨#[78, 117, 109]⟩ : ByteArray) (badN.getD q.toNat ⟨#[]⟩)], w, ?_, ?_⟩
    · refine fn_intro Try.func108 rfl rfl rfl ?_
      refine callG [0] hsz rfl (fun K hk => hk) ?_
      rintro rs τ' hl' ⟨rfl, rfl⟩
      refine callG [0] (ht _ (w64 (by omega))) rfl (fun K hk => hk) ?_
      rintro rs τ' hl' ⟨rfl, rfl⟩
      refine callG [0] (cPickE hk) rfl (fun K hk => hk) ?_
      rintro rs τ' hl' ⟨rfl, rfl⟩
      repeat' first | (exfalso; omega) | (refine And.intro (fun c => ?_) (fun c => ?_) <;> first | exact absurd c (by decide) | (cases c; done) | (simp only [decide_eq_true_eq, decide_eq_false_iff_not] at c) | skip) | fail
      refine ⟨[0, 2, 5000, 1, 3, 4, 5, 6, 7, 8, 1009, 3, 1, 4, 5, 6, 7, 8, 1009], [0], by decide +kernel, And.intro ?_ ?_⟩
      · refine And.intro (show fits _ _ by repeat' constructor) ?_
        refine callG [0] (cPickE hq) rfl (fun K hk => hk) ?_
        rintro rs τ' hl' ⟨rfl, rfl⟩
        refine And.intro ⟨q0, show q < ((4 : Nat) : Int) by omega⟩ (Exists.intro _ (And.intro (get_str (l := badN) q0 (show q < ((4 : Nat) : Int) by omega)) ?_))
        refine callA (cLeaf _ _) ?_
        refine And.intro (show fits _ _ from ⟨⟨rfl, rfl⟩, ⟨⟨rfl, rfl⟩, trivial⟩⟩) ?_
        refine callP (cNode (⟨#[65, 100, 100]⟩ : ByteArray) [t, (mkLeaf (⟨#[78, 117, 109]⟩ : ByteArray) (badN.getD q.toNat ⟨#[]⟩))]) (fun K hk => Exists.intro (encM [t, (mkLeaf (⟨#[78, 117, 109]⟩ : ByteArray) (badN.getD q.toNat ⟨#[]⟩))]) (And.intro (by rw [encM_two]; exact row_all' _ _) hk)) ?_
        repeat' first | (exfalso; omega) | (refine And.intro (fun c => ?_) (fun c => ?_) <;> first | exact absurd c (by decide) | (cases c; done) | (simp only [decide_eq_true_eq, decide_eq_false_iff_not] at c) | skip) | fail
        exact ⟨cuB w, ⟨⟨⟨rfl, rfl, rfl, rfl, trivial⟩, trivial⟩, rfl⟩, rfl, rfl⟩
      · refine callG [0] (cPickE hq) rfl (fun K hk => hk) ?_
        rintro rs τ' hl' ⟨rfl, rfl⟩
        refine And.intro (show fits _ _ by repeat' constructor) ?_
        refine And.intro ⟨q0, show q < ((4 : Nat) : Int) by omega⟩ (Exists.intro _ (And.intro (get_str (l := badN) q0 (show q < ((4 : Nat) : Int) by omega)) ?_))
        refine callA (cLeaf _ _) ?_
        refine And.intro (show fits _ _ from ⟨⟨rfl, rfl⟩, ⟨⟨rfl, rfl⟩, trivial⟩⟩) ?_
        refine callP (cNode (⟨#[65, 100, 100]⟩ : ByteArray) [t, (mkLeaf (⟨#[78, 117, 109]⟩ : ByteArray) (badN.getD q.toNat ⟨#[]⟩))]) (fun K hk => Exists.intro (encM [t, (mkLeaf (⟨#[78, 117, 109]⟩ : ByteArray) (badN.getD q.toNat ⟨#[]⟩))]) (And.intro (by rw [encM_two]; exact row_all' _ _) hk)) ?_
        repeat' first | (exfalso; omega) | (refine And.intro (fun c => ?_) (fun c => ?_) <;> first | exact absurd c (by decide) | (cases c; done) | (simp only [decide_eq_true_eq, decide_eq_false_iff_not] at c) | skip) | fail
        exact ⟨cuB w, ⟨⟨⟨rfl, rfl, rfl, rfl, trivial⟩, trivial⟩, rfl⟩, rfl, rfl⟩
    · have := getD_le (l := badN) (b := 10) (by decide) q.toNat; rw [wt_node]; simp only [wtL, wt_leaf]; show 1 + 3 + (_ + ((1 + 3 + _) + 0)) ≤ 2000000; omega
  by_cases k2 : k = 2
  · subst k2
    refine ⟨mkNode (⟨#[76, 97, 109]⟩ : ByteArray) [t, t], v, ?_, ?_⟩
    · refine fn_intro Try.func108 rfl rfl rfl ?_
      refine callG [0] hsz rfl (fun K hk => hk) ?_
      rintro rs τ' hl' ⟨rfl, rfl⟩
      refine callG [0] (ht _ (w64 (by omega))) rfl (fun K hk => hk) ?_
      rintro rs τ' hl' ⟨rfl, rfl⟩
      refine callG [0] (cPickE hk) rfl (fun K hk => hk) ?_
      rintro rs τ' hl' ⟨rfl, rfl⟩
      repeat' first | (exfalso; omega) | (refine And.intro (fun c => ?_) (fun c => ?_) <;> first | exact absurd c (by decide) | (cases c; done) | (simp only [decide_eq_true_eq, decide_eq_false_iff_not] at c) | skip) | fail
      refine And.intro (show fits _ _ from ⟨⟨rfl, rfl⟩, ⟨⟨rfl, rfl⟩, trivial⟩⟩) ?_
      refine callP (cNode (⟨#[76, 97, 109]⟩ : ByteArray) [t, t]) (fun K hk => Exists.intro (encM [t, t]) (And.intro (by rw [encM_two]; exact row_all' _ _) hk)) ?_
      repeat' first | (exfalso; omega) | (refine And.intro (fun c => ?_) (fun c => ?_) <;> first | exact absurd c (by decide) | (cases c; done) | (simp only [decide_eq_true_eq, decide_eq_false_iff_not] at c) | skip) | fail
      exact ⟨cuB v, ⟨⟨⟨rfl, rfl, rfl, rfl, trivial⟩, trivial⟩, rfl⟩, rfl, rfl⟩
    · rw [wt_node]; simp only [wtL]; show 1 + 3 + _ ≤ 2000000; omega
  by_cases k3 : k = 3
  · subst k3
    refine ⟨mkNode (⟨#[73, 102]⟩ : ByteArray) [t, t], v, ?_, ?_⟩
    · refine fn_intro Try.func108 rfl rfl rfl ?_
      refine callG [0] hsz rfl (fun K hk => hk) ?_
      rintro rs τ' hl' ⟨rfl, rfl⟩
      refine callG [0] (ht _ (w64 (by omega))) rfl (fun K hk => hk) ?_
      rintro rs τ' hl' ⟨rfl, rfl⟩
      refine callG [0] (cPickE hk) rfl (fun K hk => hk) ?_
      rintro rs τ' hl' ⟨rfl, rfl⟩
      repeat' first | (exfalso; omega) | (refine And.intro (fun c => ?_) (fun c => ?_) <;> first | exact absurd c (by decide) | (cases c; done) | (simp only [decide_eq_true_eq, decide_eq_false_iff_not] at c) | skip) | fail
      refine And.intro (show fits _ _ from ⟨⟨rfl, rfl⟩, ⟨⟨rfl, rfl⟩, trivial⟩⟩) ?_
      refine callP (cNode (⟨#[73, 102]⟩ : ByteArray) [t, t]) (fun K hk => Exists.intro (encM [t, t]) (And.intro (by rw [encM_two]; exact row_all' _ _) hk)) ?_
      repeat' first | (exfalso; omega) | (refine And.intro (fun c => ?_) (fun c => ?_) <;> first | exact absurd c (by decide) | (cases c; done) | (simp only [decide_eq_true_eq, decide_eq_false_iff_not] at c) | skip) | fail
      exact ⟨cuB v, ⟨⟨⟨rfl, rfl, rfl, rfl, trivial⟩, trivial⟩, rfl⟩, rfl, rfl⟩
    · rw [wt_node]; simp only [wtL]; show 1 + 2 + _ ≤ 2000000; omega
  · refine ⟨t, v, ?_, by omega⟩
    refine fn_intro Try.func108 rfl rfl rfl ?_
    refine callG [0] hsz rfl (fun K hk => hk) ?_
    rintro rs τ' hl' ⟨rfl, rfl⟩
    refine callG [0] (ht _ (w64 (by omega))) rfl (fun K hk => hk) ?_
    rintro rs τ' hl' ⟨rfl, rfl⟩
    refine callG [0] (cPickE hk) rfl (fun K hk => hk) ?_
    rintro rs τ' hl' ⟨rfl, rfl⟩
    repeat' first | (exfalso; omega) | (refine And.intro (fun c => ?_) (fun c => ?_) <;> first | exact absurd c (by decide) | (cases c; done) | (simp only [decide_eq_true_eq, decide_eq_false_iff_not] at c) | skip) | fail
    all_goals first | (exfalso; grind) | skip
    exact ⟨cuB v, ⟨⟨⟨rfl, rfl, rfl, rfl, trivial⟩, trivial⟩, rfl⟩, rfl, rfl⟩
end Go.Proofs.Ytegpjjnedbbpjaa.Z
