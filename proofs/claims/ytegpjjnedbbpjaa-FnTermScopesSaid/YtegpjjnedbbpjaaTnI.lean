/- Draws: what is asked for its scopes; the Ids of a term. -/
import Derived.Test.YtegpjjnedbbpjaaTnH
set_option linter.unusedVariables false
set_option linter.unusedSimpArgs false
namespace Go.Proofs.Ytegpjjnedbbpjaa.Z
open Go Go.RowKit Go.Proofs.Sy Go.Proofs
set_option maxRecDepth 100000
def cuZ (code : List UInt8) (h : code.length ≤ 2147483648) : Cu := ⟨code, 0, 17 + code.length, by omega⟩
def lamX : Tree := mkNode (⟨#[76, 97, 109]⟩ : ByteArray) [mkLeaf (⟨#[73, 100]⟩ : ByteArray) (⟨#[120]⟩ : ByteArray), mkLeaf (⟨#[73, 100]⟩ : ByteArray) (⟨#[120]⟩ : ByteArray)]
def lam2 : Tree := mkNode (⟨#[76, 97, 109]⟩ : ByteArray) [mkLeaf (⟨#[73, 100]⟩ : ByteArray) (⟨#[120]⟩ : ByteArray), mkLeaf (⟨#[78, 117, 109]⟩ : ByteArray) (⟨#[50]⟩ : ByteArray)]
def scF (x : Int × Tree) : Int × Tree := (x.1 + 1, if Int.tmod x.1 50 = 0 then lam2 else mkNode (⟨#[65, 100, 100]⟩ : ByteArray) [lamX, x.2])
def tB1 (u : Cu) (t : Tree) : Sto := [.box 31 [.dead, .dead, .dead, .dead], .box 213 [.p (.lst (bl u.code)), .p (I u.at_), .p (I u.seed)], .box 31 [.p (S t.nm), .p (S t.tx), .p (B t.lf), .p (.lst (encM t.ks))]]
theorem scF_big (n : Nat) (u : Cu) (t : Tree) (b : Nat) (hb : wt t ≤ b) : wt (lp 60 2 scF n 1 u (1, t)).1.2 ≤ b + 2000 := by
  have h := lp_inv (base := 60) (k := 2) (f := scF) (fun y j => y.1 = j ∧ 1 ≤ j ∧ (wt y.2 : Int) ≤ b + 100 + 20 * (j - 1)) (fun y j hj hy => by
    refine ⟨by show y.1 + 1 = j + 1; omega, by omega, ?_⟩
    show (wt (if Int.tmod y.1 50 = 0 then lam2 else mkNode (⟨#[65, 100, 100]⟩ : ByteArray) [lamX, y.2]) : Int) ≤ _
    split
    · have : wt lam2 = 13 := by decide
      rw [this]
      omega
    · rw [wt_node]
      have : wt lamX = 12 := by decide
      simp only [wtL, this]
      show ((1 + 3 + (12 + (wt y.2 + 0)) : Nat) : Int) ≤ _
      omega) (by omega) n 1 u (1, t) ⟨rfl, by omega, by show (wt t : Int) ≤ _; omega⟩
  obtain ⟨j, ⟨_, _, hj⟩, hj2⟩ := h
  omega
theorem cScopes (code : List UInt8) (h : code.length ≤ 2147483648) : ∃ t : Tree, FnP Try.prog 42 [.lst (bl code)] [t.enc] ∧ wt t ≤ 3000000 := by
  obtain ⟨t, ut, ht, hw⟩ := cAnyTerm (cuZ code h)
  obtain ⟨k, v, hk, h0, h1⟩ := pick_cases (n := 24) (u := ut)
  by_cases k0 : k = 0
  · subst k0
    have hz : wt (mkLeaf (⟨#[78, 117, 109]⟩ : ByteArray) (⟨#[49]⟩ : ByteArray)) ≤ 10 := by decide
    refine ⟨(lp 60 2 scF 61 1 v (1, mkLeaf (⟨#[78, 117, 109]⟩ : ByteArray) (⟨#[49]⟩ : ByteArray))).1.2, ?_, by have := scF_big 61 v _ 10 hz; omega⟩
    refine fn_intro Try.func42 rfl rfl rfl ?_
    refine callG [] (cCur code h) rfl (fun K hk => hk) ?_
    rintro rs τ' hl' ⟨rfl, rfl⟩
    refine callG [1] ht rfl (fun K hk => hk) ?_
    rintro rs τ' hl' ⟨rfl, rfl⟩
    refine callG [1] (cPickE hk) rfl (fun K hk => hk) ?_
    rintro rs τ' hl' ⟨rfl, rfl⟩
    repeat' first | (refine And.intro (fun c => ?_) (fun c => ?_) <;> first | exact absurd c (by decide) | (cases c; done) | (simp only [decide_eq_true_eq, decide_eq_false_iff_not] at c) | skip) | fail
    refine callA (cLeaf _ _) ?_
    generalize hR : lp 60 2 scF 61 1 v (1, mkLeaf (⟨#[78, 117, 109]⟩ : ByteArray) (⟨#[49]⟩ : ByteArray)) = R
    refine ⟨Nat × Int × Cu × Tree, fun x => ([(2, .ptr 0 0), (3, .ptr 1 0), (4, .ptr 2 0), (5, .p (I x.2.1))], tB1 x.2.2.1 x.2.2.2),
      fun x n => n = x.1 ∧ 1 ≤ x.2.1 ∧ x.2.1 ≤ 100 ∧ 62 ≤ x.2.1 + x.1 ∧ lp 60 2 scF x.1 x.2.1 x.2.2.1 (x.2.1, x.2.2.2) = R,
      ⟨(61, 1, v, mkLeaf (⟨#[78, 117, 109]⟩ : ByteArray) (⟨#[49]⟩ : ByteArray)), _, ⟨rfl, by simp, by simp, by simp, hR⟩, [], ⟨rfl, rfl, rfl, rfl, trivial⟩, ⟨⟨rfl, trivial, trivial, trivial, trivial, trivial⟩, ⟨rfl, rfl, rfl, rfl, trivial⟩, ⟨rfl, rfl, rfl, rfl, rfl, trivial⟩, trivial⟩, rfl⟩, ?_⟩
    rintro ⟨m, i, w, s⟩ n ⟨rfl, i1, i2, i3, hr⟩
    simp only at i1 i2 i3 hr
    have hp := pickM_rng 2 w
    refine callG [1] (cPick 2 w) rfl (fun K hk => hk) ?_
    rintro rs τ' hl' ⟨rfl, rfl⟩
    have hw1 : wr .i64 (60 + (pickM 2 w).1) = 60 + (pickM 2 w).1 := w64 (by omega)
    refine And.intro (fun ci => ?_) (fun ci => ?_) <;> simp only [decide_eq_true_eq, decide_eq_false_iff_not, hw1] at ci
    · obtain ⟨m', rfl, hg, hm⟩ := lp_go (base := 60) (k := 2) (f := scF) (x := (i, s)) (by omega) (n := n) (by omega) ci
      rw [hg] at hr
      refine ⟨[4, 0, 1, 2, 3, 5, 6, 1007], [], by decide +kernel, ?_⟩
      refine callA (cLeaf _ _) ?_
      refine callA (cLeaf _ _) ?_
      refine And.intro (show fits _ _ from ⟨⟨rfl, rfl⟩, ⟨⟨rfl, rfl⟩, trivial⟩⟩) ?_
      refine callP (cNode (⟨#[76, 97, 109]⟩ : ByteArray) [mkLeaf (⟨#[73, 100]⟩ : ByteArray) (⟨#[120]⟩ : ByteArray), mkLeaf (⟨#[73, 100]⟩ : ByteArray) (⟨#[120]⟩ : ByteArray)]) (fun K hk => Exists.intro (encM [mkLeaf (⟨#[73, 100]⟩ : ByteArray) (⟨#[120]⟩ : ByteArray), mkLeaf (⟨#[73, 100]⟩ : ByteArray) (⟨#[120]⟩ : ByteArray)]) (And.intro (by rw [encM_two]; exact row_all' _ _) hk)) ?_
      refine And.intro (show fits _ _ from ⟨⟨rfl, rfl⟩, ⟨⟨rfl, rfl⟩, trivial⟩⟩) ?_
      refine callP (cNode (⟨#[65, 100, 100]⟩ : ByteArray) [lamX, s]) (fun K hk => Exists.intro (encM [lamX, s]) (And.intro (by rw [encM_two]; exact row_all' _ _) hk)) ?_
      refine And.intro (show (50 : Int) ≠ 0 by decide) ?_
      refine And.intro (fun cm => ?_) (fun cm => ?_)
      · have hm0 : Int.tmod i 50 = 0 := by simpa using cm
        have hf : scF (i, s) = (i + 1, lam2) := by unfold scF; simp [hm0]
        rw [hf] at hr
        refine callA (cLeaf _ _) ?_
        refine callA (cLeaf _ _) ?_
        refine And.intro (show fits _ _ from ⟨⟨rfl, rfl⟩, ⟨⟨rfl, rfl⟩, trivial⟩⟩) ?_
        refine callP (cNode (⟨#[76, 97, 109]⟩ : ByteArray) [mkLeaf (⟨#[73, 100]⟩ : ByteArray) (⟨#[120]⟩ : ByteArray), mkLeaf (⟨#[78, 117, 109]⟩ : ByteArray) (⟨#[50]⟩ : ByteArray)]) (fun K hk => Exists.intro (encM [mkLeaf (⟨#[73, 100]⟩ : ByteArray) (⟨#[120]⟩ : ByteArray), mkLeaf (⟨#[78, 117, 109]⟩ : ByteArray) (⟨#[50]⟩ : ByteArray)]) (And.intro (by rw [encM_two]; exact row_all' _ _) hk)) ?_
        exact ⟨(m', i + 1, (pickM 2 w).2, lam2), _, ⟨rfl, by simp; omega, by simp; omega, by simp; omega, hr⟩, by simp, [], ⟨rfl, rfl, rfl, congrArg (fun x => AV.p (I x)) (show i + 1 = wr .i64 (i + 1) from (w64 (by omega)).symm), trivial⟩, ⟨⟨rfl, trivial, trivial, trivial, trivial, trivial⟩, ⟨rfl, rfl, rfl, rfl, trivial⟩, ⟨rfl, rfl, rfl, rfl, rfl, trivial⟩, trivial⟩, rfl⟩
      · have hm0 : ¬ Int.tmod i 50 = 0 := by simpa using cm
        have hf : scF (i, s) = (i + 1, mkNode (⟨#[65, 100, 100]⟩ : ByteArray) [lamX, s]) := by unfold scF; simp [hm0]
        rw [hf] at hr
        exact ⟨(m', i + 1, (pickM 2 w).2, mkNode (⟨#[65, 100, 100]⟩ : ByteArray) [lamX, s]), _, ⟨rfl, by simp; omega, by simp; omega, by simp; omega, hr⟩, by simp, [], ⟨rfl, rfl, rfl, congrArg (fun x => AV.p (I x)) (show i + 1 = wr .i64 (i + 1) from (w64 (by omega)).symm), trivial⟩, ⟨⟨rfl, trivial, trivial, trivial, trivial, trivial⟩, ⟨rfl, rfl, rfl, rfl, trivial⟩, ⟨rfl, rfl, rfl, rfl, rfl, trivial⟩, trivial⟩, rfl⟩
    · rw [lp_end (base := 60) (k := 2) (f := scF) (x := (i, s)) (n := n) ci] at hr
      rw [← hr]
      exact ⟨[], ⟨trivial, rfl⟩, rfl, rfl⟩
  · refine ⟨t, ?_, by omega⟩
    refine fn_intro Try.func42 rfl rfl rfl ?_
    refine callG [] (cCur code h) rfl (fun K hk => hk) ?_
    rintro rs τ' hl' ⟨rfl, rfl⟩
    refine callG [1] ht rfl (fun K hk => hk) ?_
    rintro rs τ' hl' ⟨rfl, rfl⟩
    refine callG [1] (cPickE hk) rfl (fun K hk => hk) ?_
    rintro rs τ' hl' ⟨rfl, rfl⟩
    repeat' first | (refine And.intro (fun c => ?_) (fun c => ?_) <;> first | exact absurd c (by decide) | (cases c; done) | (simp only [decide_eq_true_eq, decide_eq_false_iff_not] at c) | skip) | fail
    all_goals first | (exfalso; grind) | skip
    exact ⟨[], ⟨trivial, rfl⟩, rfl, rfl⟩
end Go.Proofs.Ytegpjjnedbbpjaa.Z
