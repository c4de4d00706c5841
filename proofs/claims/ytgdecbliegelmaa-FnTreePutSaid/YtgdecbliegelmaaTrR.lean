/- Draws: trees to be put. -/
import Derived.Test.YtgdecbliegelmaaTrQ
set_option linter.unusedVariables false
set_option linter.unusedSimpArgs false
namespace Go.Proofs.Ytgdecbliegelmaa.Z
open Go Go.RowKit Go.Proofs.Sy Go.Proofs
set_option maxRecDepth 100000
def cu0 (code : List UInt8) (h : code.length ≤ 2147483648) : Cu := ⟨code, 0, 17 + code.length, by omega⟩
def putF (r : Tree × Cu) : Tree × List Int × Tree := (r.1, (pathM r.2 r.1).1, (anyM (pathM r.2 r.1).2).1)
def putS (r : Tree × Cu) : Tree × Cu := if (pickM 4 r.2).1 = 0 then anyM (pickM 4 r.2).2 else (r.1, (pickM 4 r.2).2)
def putM (code : List UInt8) (h : code.length ≤ 2147483648) : Tree × List Int × Tree := putF (putS (drawTree 3 (cu0 code h)))
theorem putS_big (u : Cu) : wt (putS (drawTree 3 u)).1 ≤ 1000000 := by
  have h := (tree_big 3 u).1
  unfold putS
  split
  · exact any_big _
  · show wt (drawTree 3 u).1 ≤ _
    omega
theorem cPutD (code : List UInt8) (h : code.length ≤ 2147483648) : FnP Try.prog 53 [.lst (bl code)] [(putM code h).1.enc, .lst (il (putM code h).2.1), (putM code h).2.2.enc] := by
  have hT := cTree 3 (by omega) (cu0 code h)
  have hbig := putS_big (cu0 code h)
  unfold putM
  generalize drawTree 3 (cu0 code h) = r at hT hbig ⊢
  obtain ⟨⟨nm, tx, lf, ks⟩, v⟩ := r
  refine fn_intro Try.func53 rfl rfl rfl ?_
  refine callG [] (cCur code h) rfl (fun K hk => hk) ?_
  rintro rs τ' hl' ⟨rfl, rfl⟩
  refine callG [2] hT rfl (fun K hk => hk) ?_
  intro rs τ' hl' hpost
  unfold treeP at hpost
  simp only at hpost
  split at hpost
  · rename_i hlf
    subst hlf
    obtain ⟨rfl, rfl, rfl⟩ := hpost
    refine callG [2] (cPick 4 v) rfl (fun K hk => hk) ?_
    rintro rs τ' hl' ⟨rfl, rfl⟩
    refine And.intro (fun c => ?_) (fun c => ?_)
    · have c0 : (pickM 4 v).1 = 0 := by simpa using c
      refine callG [2] (cAny _ tree_hb) rfl (fun K hk => hk) ?_
      rintro rs τ' hl' ⟨rfl, rfl⟩
      have hm : putS (⟨nm, tx, true, []⟩, v) = anyM (pickM 4 v).2 := by unfold putS; exact if_pos c0
      rw [hm] at hbig ⊢
      refine callF [2] (cPath _ _ (Nat.le_trans hbig (by decide))) (fun K hk => hk) rfl ?_
      rintro rs τ' hl' ⟨rfl, rfl⟩
      refine ⟨[0, 1, 2, 3, 4, 5, 6], [0, 1, 2], by decide +kernel, ?_⟩
      refine callG [2] (cAny _ tree_hb) rfl (fun K hk => hk) ?_
      rintro rs τ' hl' ⟨rfl, rfl⟩
      exact ⟨[], ⟨trivial, rfl⟩, rfl, rfl⟩
    · have c0 : ¬ (pickM 4 v).1 = 0 := by simpa using c
      have hm : putS (⟨nm, tx, true, []⟩, v) = (⟨nm, tx, true, []⟩, (pickM 4 v).2) := by unfold putS; exact if_neg c0
      rw [hm] at hbig ⊢
      refine callF [2] (cPath _ ⟨nm, tx, true, []⟩ (Nat.le_trans hbig (by decide))) (fun K hk => .inl hk) rfl ?_
      rintro rs τ' hl' ⟨rfl, rfl⟩
      refine ⟨[0, 1, 2, 3, 4, 5, 6], [0, 1, 2], by decide +kernel, ?_⟩
      refine callG [2] (cAny _ tree_hb) rfl (fun K hk => hk) ?_
      rintro rs τ' hl' ⟨rfl, rfl⟩
      exact .inl ⟨[], ⟨trivial, rfl⟩, rfl, rfl⟩
  · rename_i hlf
    have hlf : lf = false := by simpa using hlf
    subst hlf
    obtain ⟨rfl, rfl⟩ := hpost
    refine callG [2] (cPick 4 v) rfl (fun K hk => hk) ?_
    rintro rs τ' hl' ⟨rfl, rfl⟩
    refine And.intro (fun c => ?_) (fun c => ?_)
    · have c0 : (pickM 4 v).1 = 0 := by simpa using c
      refine callG [2] (cAny _ tree_hb) rfl (fun K hk => hk) ?_
      rintro rs τ' hl' ⟨rfl, rfl⟩
      have hm : putS (⟨nm, tx, false, ks⟩, v) = anyM (pickM 4 v).2 := by unfold putS; exact if_pos c0
      rw [hm] at hbig ⊢
      refine callF [2] (cPath _ _ (Nat.le_trans hbig (by decide))) (fun K hk => hk) rfl ?_
      rintro rs τ' hl' ⟨rfl, rfl⟩
      refine ⟨[0, 1, 2, 3, 4, 5, 6], [0, 1, 2], by decide +kernel, ?_⟩
      refine callG [2] (cAny _ tree_hb) rfl (fun K hk => hk) ?_
      rintro rs τ' hl' ⟨rfl, rfl⟩
      exact ⟨[], ⟨trivial, rfl⟩, rfl, rfl⟩
    · have c0 : ¬ (pickM 4 v).1 = 0 := by simpa using c
      have hm : putS (⟨nm, tx, false, ks⟩, v) = (⟨nm, tx, false, ks⟩, (pickM 4 v).2) := by unfold putS; exact if_neg c0
      rw [hm] at hbig ⊢
      refine callF [2] (cPath _ ⟨nm, tx, false, ks⟩ (Nat.le_trans hbig (by decide))) (fun K hk => .inl (Exists.intro (encM ks) (And.intro (row_allT ks) hk))) rfl ?_
      rintro rs τ' hl' ⟨rfl, rfl⟩
      refine ⟨[0, 1, 2, 3, 4, 5, 6], [0, 1, 2], by decide +kernel, ?_⟩
      refine callG [2] (cAny _ tree_hb) rfl (fun K hk => hk) ?_
      rintro rs τ' hl' ⟨rfl, rfl⟩
      exact .inl (Exists.intro (encM ks) (And.intro (row_allT ks) ⟨[], ⟨trivial, rfl⟩, rfl, rfl⟩))
end Go.Proofs.Ytgdecbliegelmaa.Z
