/- Draws: trees. -/
import Derived.Test.YtegpjjnedbbpjaaTrM
set_option linter.unusedVariables false
set_option linter.unusedSimpArgs false
namespace Go.Proofs.Ytegpjjnedbbpjaa.Z
open Go Go.RowKit Go.Proofs.Sy Go.Proofs
set_option maxRecDepth 100000
def leafM (c : Cu) : Tree × Cu := (mkLeaf (nmM c).1 (txM (nmM c).2).1, (txM (nmM c).2).2)
def drawL (f : Cu → Tree × Cu) : Nat → Cu → List Tree → List Tree × Cu
  | 0, c, ks => (ks, c)
  | n + 1, c, ks => drawL f n (f c).2 (ks ++ [(f c).1])
def nodeM (c : Cu) (ks : List Tree) : Tree × Cu := (mkNode (nmM c).1 ks, (nmM c).2)
def drawTree : Nat → Cu → Tree × Cu
  | 0, c => leafM c
  | n + 1, c => if (pickM 3 c).1 = 0 then leafM (pickM 3 c).2 else
    nodeM (drawL (drawTree n) (pickM 4 (pickM 3 c).2).1.toNat (pickM 4 (pickM 3 c).2).2 []).2 (drawL (drawTree n) (pickM 4 (pickM 3 c).2).1.toNat (pickM 4 (pickM 3 c).2).2 []).1
def dB (c : Cu) (ks : List Tree) : Sto := [.box 213 [.p (.lst (bl c.code)), .p (I c.at_), .p (I c.seed)], .box 31 [.dead, .dead, .dead, .dead], .row 31 4 (encM ks)]
theorem encM_app (l r : List Tree) : encM (l ++ r) = encM l ++ encM r := by simp only [encM_eq, List.map_append]
theorem encM_one (t : Tree) : encM [t] = [t.enc] := by simp only [encM, enc0_eq]
theorem row_allT (l : List Tree) : 0 + l.length ≤ (encM l).length ∧ ((encM l).drop 0).take l.length = encM l := by
  rw [encM_len]
  exact ⟨by omega, List.take_of_length_le (by rw [List.length_drop, encM_len]; omega)⟩
theorem appfitT (n m : Nat) (h : n + m ≤ 1000000000000) : (n + m) * 64 ≤ 140737488355328 ∧ n + m ≤ 9223372036854775807 := ⟨by omega, by omega⟩
def tB (c : Cu) (ks : List Tree) : Sto := [.box 213 [.p (.lst (bl c.code)), .p (I c.at_), .p (I c.seed)], .dead, .row 31 4 (encM ks)]
/-- A drawn tree: its kids lie in a row of its own. -/
def treeP (r : Tree × Cu) (rs : List AV) (τ : Sto) : Prop :=
  if r.1.lf = true then r.1.ks = [] ∧ rs = [.agg [.p (S r.1.nm), .p (S r.1.tx), .p (B true), .tl []]] ∧ τ = cuB r.2
  else rs = [.agg [.p (S r.1.nm), .p (S r.1.tx), .p (B false), .row 2 4 0 r.1.ks.length]] ∧ τ = tB r.2 r.1.ks
theorem cLeafT (n t : ByteArray) : Sy.Fn Try.prog 109 [.p (S n), .p (S t)] [] (fun rs τ' => rs = [.agg [.p (S n), .p (S t), .p (B true), .tl []]] ∧ τ' = []) := by
  refine fn_intro Try.func109 rfl rfl rfl ?_
  exact .inr ⟨[], ⟨trivial, rfl⟩, rfl, rfl⟩
theorem cNodeR (n : ByteArray) (l : List PV) (k : Nat) : Sy.Fn Try.prog 110 [.p (S n), .row 0 4 0 k] [.row 31 4 l] (fun rs τ' => rs = [.agg [.p (S n), .p (S ⟨#[]⟩), .p (B false), .row 0 4 0 k]] ∧ τ' = [.row 31 4 l]) := by
  refine fn_intro Try.func110 rfl rfl rfl ?_
  exact .inr ⟨[.row 31 4 l], ⟨⟨rfl, trivial⟩, rfl⟩, rfl, rfl⟩
theorem treeP_leaf (u : Cu) : treeP (leafM u) [.agg [.p (S (leafM u).1.nm), .p (S (leafM u).1.tx), .p (B true), .tl []]] (cuB (leafM u).2) := by
  unfold treeP; rw [if_pos (show (leafM u).1.lf = true from rfl)]; exact ⟨rfl, rfl, rfl⟩
theorem treeP_node (u : Cu) (ks : List Tree) : treeP (nodeM u ks) [.agg [.p (S (nmM u).1), .p (S ⟨#[]⟩), .p (B false), .row 2 4 0 ks.length]] (tB (nmM u).2 ks) := by
  unfold treeP; rw [if_neg (by simp [nodeM, mkNode])]; exact ⟨rfl, rfl⟩
theorem cTree : ∀ (n : Nat) (hn : n ≤ 1000) (u : Cu), Sy.Fn Try.prog 159 [.ptr 0 0, .p (I n)] (cuB u) (treeP (drawTree n u)) := by
  intro n
  induction n with
  | zero =>
    intro hn u
    refine fn_intro Try.func159 rfl rfl rfl ?_
    repeat' first | (refine And.intro (fun c => ?_) (fun c => ?_) <;> first | exact absurd c (by decide) | (cases c; done) | (simp only [decide_eq_true_eq, decide_eq_false_iff_not] at c) | skip) | fail
    all_goals
      refine callG [0] (cName u) rfl (fun K hk => hk) ?_
      rintro rs τ' hl' ⟨rfl, rfl⟩
      refine callG [0] (cText (nmM u).2) rfl (fun K hk => hk) ?_
      rintro rs τ' hl' ⟨rfl, rfl⟩
      refine callG [] (cLeafT _ _) rfl (fun K hk => hk) ?_
      rintro rs τ' hl' ⟨rfl, rfl⟩
      exact .inr ⟨cuB _, ⟨⟨⟨rfl, rfl, rfl, rfl, trivial⟩, trivial⟩, rfl⟩, treeP_leaf u⟩
  | succ n ih =>
    intro hn u
    have hp := pickM_rng 3 u
    have hp4 := pickM_rng 4 (pickM 3 u).2
    refine fn_intro Try.func159 rfl rfl rfl ?_
    repeat' first
      | (refine And.intro (fun c => ?_) (fun c => ?_) <;> first | exact absurd c (by decide) | (cases c; done) | (simp only [decide_eq_true_eq, decide_eq_false_iff_not] at c) | skip)
      | (refine callG [0] (cPick 3 u) rfl (fun K hk => hk) ?_; rintro rs τ' hl' ⟨rfl, rfl⟩)
      | fail
    all_goals first | (exfalso; omega) | (exfalso; rename_i c; simp at c; omega) | skip
    · rename_i c
      have c0 : (pickM 3 u).1 = 0 := by simpa using c
      have hm : drawTree (n + 1) u = leafM (pickM 3 u).2 := by rw [drawTree, if_pos c0]
      rw [hm]
      refine callG [0] (cName _) rfl (fun K hk => hk) ?_
      rintro rs τ' hl' ⟨rfl, rfl⟩
      refine callG [0] (cText _) rfl (fun K hk => hk) ?_
      rintro rs τ' hl' ⟨rfl, rfl⟩
      refine callG [] (cLeafT _ _) rfl (fun K hk => hk) ?_
      rintro rs τ' hl' ⟨rfl, rfl⟩
      exact .inr ⟨cuB _, ⟨⟨⟨rfl, rfl, rfl, rfl, trivial⟩, trivial⟩, rfl⟩, treeP_leaf _⟩
    · rename_i c
      have c0 : ¬ (pickM 3 u).1 = 0 := by simpa using c
      have hm : drawTree (n + 1) u = nodeM (drawL (drawTree n) (pickM 4 (pickM 3 u).2).1.toNat (pickM 4 (pickM 3 u).2).2 []).2 (drawL (drawTree n) (pickM 4 (pickM 3 u).2).1.toNat (pickM 4 (pickM 3 u).2).2 []).1 := by rw [drawTree, if_neg c0]
      rw [hm]
      refine And.intro trivial ?_
      refine callG [0] (cPick 4 _) rfl (fun K hk => hk) ?_
      rintro rs τ' hl' ⟨rfl, rfl⟩
      generalize hqq : drawL (drawTree n) (pickM 4 (pickM 3 u).2).1.toNat (pickM 4 (pickM 3 u).2).2 [] = kk
      refine ⟨Int × Cu × List Tree, fun x => ([(0, .ptr 0 0), (1, .p (I (n + 1 : Nat))), (4, .ptr 1 0), (5, .row 2 4 0 x.2.2.length), (6, .p (I x.1))], dB x.2.1 x.2.2),
        fun x m => 0 ≤ x.1 ∧ x.1 + x.2.2.length ≤ 3 ∧ m = x.1.toNat ∧ drawL (drawTree n) x.1.toNat x.2.1 x.2.2 = kk,
        ⟨((pickM 4 (pickM 3 u).2).1, (pickM 4 (pickM 3 u).2).2, []), _, ⟨hp4.1, by simp; omega, rfl, hqq⟩, [], ⟨rfl, rfl, rfl, rfl, rfl, trivial⟩, ⟨⟨rfl, rfl, rfl, rfl, trivial⟩, ⟨rfl, trivial, trivial, trivial, trivial, trivial⟩, rfl, trivial⟩, rfl⟩, ?_⟩
      rintro ⟨i, v, ks⟩ m ⟨h0, h1, rfl, hr⟩
      simp only at h0 h1 hr
      refine And.intro (fun c => ?_) (fun c => ?_) <;> simp only [decide_eq_true_eq, decide_eq_false_iff_not] at c
      · have e1 : wr .i64 (((n + 1 : Nat) : Int) - 1) = (n : Int) := (w64 (by omega)).trans (by omega)
        have hcall : ∀ z : Int, z = n → Sy.Fn Try.prog 159 [.ptr 0 0, .p (I z)] (cuB v) (treeP (drawTree n v)) := fun z hz => by rw [hz]; exact ih (by omega) v
        have hi : i.toNat = (i - 1).toNat + 1 := by omega
        rw [hi, drawL] at hr
        refine callG [0] (hcall _ e1) rfl (fun K hk => hk) ?_
        intro rs τ' hl' hpost
        unfold treeP at hpost
        have he : ∀ ks2 lf2, (drawTree n v).1.ks = ks2 → (drawTree n v).1.lf = lf2 → (drawTree n v).1.enc = .agg [S (drawTree n v).1.nm, S (drawTree n v).1.tx, B lf2, .lst (encM ks2)] := fun ks2 lf2 e1 e2 => by rw [← e1, ← e2]; rfl
        split at hpost
        · rename_i hlf
          obtain ⟨hks, rfl, rfl⟩ := hpost
          refine And.intro (show fits _ _ from ⟨⟨rfl, rfl⟩, trivial⟩) ?_
          refine Exists.intro _ (And.intro ⟨show 0 + _ ≤ List.length _ from Nat.le_of_eq rfl, rfl⟩ ?_)
          refine Exists.intro (encM ks) ?_
          refine And.intro ⟨(row_allT ks).1, (row_allT ks).2, ⟨⟨rfl, rfl⟩, trivial⟩, appfitT ks.length 1 (by omega)⟩ ?_
          refine ⟨(i - 1, (drawTree n v).2, ks ++ [(drawTree n v).1]), _, ⟨by simp; omega, by simp; omega, rfl, hr⟩, by simp; omega, [], ⟨rfl, rfl, rfl, ?_, congrArg (fun x => AV.p (I x)) (w64 (by omega)).symm, trivial⟩, ⟨⟨rfl, rfl, rfl, rfl, trivial⟩, ⟨rfl, trivial, trivial, trivial, trivial, trivial⟩, ?_, trivial⟩, rfl⟩
          · exact congrArg (AV.row 2 4 0) (by rw [List.length_append]; rfl)
          · exact congrArg (Bk.row _ 4) (by rw [encM_app, encM_one, he [] true hks hlf]; rfl)
        · rename_i hlf
          have hlf : (drawTree n v).1.lf = false := by simpa using hlf
          obtain ⟨rfl, rfl⟩ := hpost
          refine Exists.intro _ (And.intro (row_allT _) ?_)
          refine And.intro (show fits _ _ from ⟨⟨rfl, rfl⟩, trivial⟩) ?_
          refine Exists.intro _ (And.intro ⟨show 0 + _ ≤ List.length _ from Nat.le_of_eq rfl, rfl⟩ ?_)
          refine Exists.intro (encM ks) ?_
          refine And.intro ⟨(row_allT ks).1, (row_allT ks).2, ⟨⟨rfl, rfl⟩, trivial⟩, appfitT ks.length 1 (by omega)⟩ ?_
          refine ⟨(i - 1, (drawTree n v).2, ks ++ [(drawTree n v).1]), _, ⟨by simp; omega, by simp; omega, rfl, hr⟩, by simp; omega, [], ⟨rfl, rfl, rfl, ?_, congrArg (fun x => AV.p (I x)) (w64 (by omega)).symm, trivial⟩, ⟨⟨rfl, rfl, rfl, rfl, trivial⟩, ⟨rfl, trivial, trivial, trivial, trivial, trivial⟩, ?_, trivial⟩, rfl⟩
          · exact congrArg (AV.row 2 4 0) (by rw [List.length_append]; rfl)
          · exact congrArg (Bk.row _ 4) (by rw [encM_app, encM_one, he _ false rfl hlf]; rfl)
      · have hi : i.toNat = 0 := by omega
        rw [hi, drawL] at hr
        subst hr
        refine callG [0] (cName _) rfl (fun K hk => hk) ?_
        rintro rs τ' hl' ⟨rfl, rfl⟩
        refine callG [2] (cNodeR (nmM v).1 (encM ks) ks.length) rfl (fun K hk => .inr hk) ?_
        rintro rs τ' hl' ⟨rfl, rfl⟩
        exact .inr ⟨tB (nmM v).2 ks, ⟨⟨⟨rfl, rfl, rfl, rfl, trivial⟩, trivial, rfl, trivial⟩, rfl⟩, treeP_node v ks⟩
end Go.Proofs.Ytegpjjnedbbpjaa.Z
