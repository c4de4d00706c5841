/- Draws: paths; trees to be put. -/
import Derived.Test.YtgdecbliegelmaaTrO
set_option linter.unusedVariables false
set_option linter.unusedSimpArgs false
namespace Go.Proofs.Ytgdecbliegelmaa.Z
open Go Go.RowKit Go.Proofs.Sy Go.Proofs
set_option maxRecDepth 100000
def il (p : List Int) : List PV := p.map I
theorem il_len (p : List Int) : (il p).length = p.length := List.length_map ..
theorem il_app (p q : List Int) : il (p ++ q) = il p ++ il q := List.map_append ..
theorem row_allI (p : List Int) : 0 + p.length ≤ (il p).length ∧ ((il p).drop 0).take p.length = il p := row_all' (il p) p.length (il_len p).symm
theorem appfitI (n m : Nat) (h : n + m ≤ 10000000000000) : (n + m) * 8 ≤ 140737488355328 ∧ n + m ≤ 9223372036854775807 := ⟨by omega, by omega⟩
def walkP : Nat → Cu → Tree → List Int → List Int × Cu
  | 0, u, t, p => (p, u)
  | n + 1, u, t, p => if 0 < t.ks.length then (if 0 < (pickM 4 u).1 then (match t.ks[(pickM t.ks.length (pickM 4 u).2).1.toNat]? with
      | some k => walkP n (pickM t.ks.length (pickM 4 u).2).2 k (p ++ [(pickM t.ks.length (pickM 4 u).2).1])
      | none => (p, u)) else (p, (pickM 4 u).2)) else (p, u)
def endP (w : List Int × Cu) : List Int × Cu := if (pickM 8 w.2).1 = 0 then (w.1 ++ [(pickM 3 (pickM 8 w.2).2).1 - 1], (pickM 3 (pickM 8 w.2).2).2) else (w.1, (pickM 8 w.2).2)
def pathM (u : Cu) (t : Tree) : List Int × Cu := endP (walkP (wt t) u t [])
def pB (u : Cu) (t : Tree) (p : List Int) : Sto := [.box 135 [.p (.lst (bl u.code)), .p (I u.at_), .p (I u.seed)], .box 53 [.p (S t.nm), .p (S t.tx), .p (B t.lf), .p (.lst (encM t.ks))], .row 3 1 (il p)]
theorem cPath (u : Cu) (t : Tree) (hw : wt t ≤ 1099511627776) : Sy.Fn Try.prog 94 [.ptr 0 0, .p t.enc] (cuB u) (fun rs τ' => rs = [.p (.lst (il (pathM u t).1))] ∧ τ' = cuB (pathM u t).2) := by
  unfold pathM
  generalize hR : walkP (wt t) u t [] = R
  refine fn_intro Try.func94 rfl rfl rfl ?_
  refine And.intro trivial ?_
  refine ⟨Cu × Tree × List Int, fun x => ([(0, .ptr 0 0), (3, .ptr 1 0), (5, .row 2 1 0 x.2.2.length)], pB x.1 x.2.1 x.2.2),
    fun x m => wt x.2.1 ≤ m ∧ m + x.2.2.length ≤ 1099511627776 ∧ walkP m x.1 x.2.1 x.2.2 = R,
    ⟨(u, t, []), wt t, ⟨Nat.le_refl _, by simp; omega, hR⟩, [], ⟨rfl, rfl, rfl, trivial⟩, ⟨⟨rfl, rfl, rfl, rfl, trivial⟩, ⟨rfl, rfl, rfl, rfl, rfl, trivial⟩, rfl, trivial⟩, rfl⟩, ?_⟩
  rintro ⟨v, t, p⟩ m ⟨g0, g1, hr⟩
  simp only at g0 g1 hr
  have hwp := wt_pos t
  have hwl := wt_len t
  obtain ⟨m, rfl⟩ : ∃ k, m = k + 1 := ⟨m - 1, by omega⟩
  have hp4 := pickM_rng 4 v
  have hpk := pickM_rng t.ks.length (pickM 4 v).2
  have hlen : (encM t.ks).length = t.ks.length := encM_len _
  have hcall : ∀ z : Int, z = t.ks.length → Sy.Fn Try.prog 71 [.ptr 0 0, .p (I z)] (cuB (pickM 4 v).2) (fun rs τ' => rs = [.p (I (pickM t.ks.length (pickM 4 v).2).1)] ∧ τ' = cuB (pickM t.ks.length (pickM 4 v).2).2) := fun z hz => by rw [hz]; exact cPick _ _
  repeat' first
    | (refine And.intro (fun c => ?_) (fun c => ?_) <;> first | exact absurd c (by decide) | (cases c; done) | (simp only [decide_eq_true_eq, decide_eq_false_iff_not] at c) | skip)
    | (refine callG [0] (cPick 4 v) rfl (fun K hk => hk) ?_; rintro rs τ' hl' ⟨rfl, rfl⟩)
    | fail
  · skip
    have h1 : 0 < t.ks.length := by omega
    have hq : (pickM t.ks.length (pickM 4 v).2).1 < t.ks.length := by omega
    obtain ⟨k, hk, hm, _⟩ := drop_cons hpk.1 hq
    have hwk := wt_kid hm
    rw [walkP, if_pos h1, if_pos (by omega), hk] at hr
    refine callG [0] (hcall _ (by rw [encM_len])) rfl (fun K hk => hk) ?_
    rintro rs τ' hl' ⟨rfl, rfl⟩
    refine And.intro (show fits _ _ from ⟨⟨rfl, rfl⟩, trivial⟩) ?_
    refine Exists.intro _ (And.intro ⟨show 0 + _ ≤ List.length _ from Nat.le_of_eq rfl, rfl⟩ ?_)
    refine Exists.intro (il p) ?_
    refine And.intro ⟨(row_allI p).1, (row_allI p).2, ⟨⟨rfl, rfl⟩, trivial⟩, appfitI p.length 1 (by omega)⟩ ?_
    refine And.intro hpk.1 (Exists.intro k.enc (And.intro (encM_get hk) (And.intro rfl ?_)))
    refine ⟨((pickM t.ks.length (pickM 4 v).2).2, k, p ++ [(pickM t.ks.length (pickM 4 v).2).1]), m, ⟨by simp; omega, by simp; omega, hr⟩, Nat.lt_succ_self _, [], ⟨rfl, rfl, ?_, trivial⟩, ⟨⟨rfl, rfl, rfl, rfl, trivial⟩, ⟨rfl, rfl, rfl, rfl, rfl, trivial⟩, ?_, trivial⟩, rfl⟩
    · exact congrArg (AV.row 2 1 0) (by rw [List.length_append]; rfl)
    · exact congrArg (Bk.row _ 1) (by rw [il_app]; rfl)
  · skip
    have h1 : 0 < t.ks.length := by omega
    rw [walkP, if_pos h1, if_neg (by omega)] at hr
    subst hr
    refine callG [0] (cPick 8 _) rfl (fun K hk => hk) ?_
    rintro rs τ' hl' ⟨rfl, rfl⟩
    refine And.intro (fun c8 => ?_) (fun c8 => ?_)
    · have h8 : (pickM 8 (pickM 4 v).2).1 = 0 := by simpa using c8
      have hp3 := pickM_rng 3 (pickM 8 (pickM 4 v).2).2
      have e3 : wr .i64 ((pickM 3 (pickM 8 (pickM 4 v).2).2).1 - 1) = (pickM 3 (pickM 8 (pickM 4 v).2).2).1 - 1 := w64 (by omega)
      have hm : endP (p, (pickM 4 v).2) = (p ++ [(pickM 3 (pickM 8 (pickM 4 v).2).2).1 - 1], (pickM 3 (pickM 8 (pickM 4 v).2).2).2) := by unfold endP; rw [if_pos h8]
      rw [hm]
      refine callG [0] (cPick 3 _) rfl (fun K hk => hk) ?_
      rintro rs τ' hl' ⟨rfl, rfl⟩
      refine And.intro (show fits _ _ from ⟨⟨rfl, rfl⟩, trivial⟩) ?_
      refine Exists.intro _ (And.intro ⟨show 0 + _ ≤ List.length _ from Nat.le_of_eq rfl, rfl⟩ ?_)
      refine Exists.intro (il p) ?_
      refine And.intro ⟨(row_allI p).1, (row_allI p).2, ⟨⟨rfl, rfl⟩, trivial⟩, appfitI p.length 1 (by omega)⟩ ?_
      refine .inl (Exists.intro (il (p ++ [(pickM 3 (pickM 8 (pickM 4 v).2).2).1 - 1])) (And.intro ?_ ⟨cuB _, ⟨⟨⟨rfl, rfl, rfl, rfl, trivial⟩, trivial⟩, rfl⟩, rfl, rfl⟩))
      rw [e3, il_app]; exact row_all' (il p ++ [I ((pickM 3 (pickM 8 (pickM 4 v).2).2).1 - 1)]) (p.length + 1) (by rw [List.length_append, il_len]; rfl)
    · have h8 : ¬ (pickM 8 (pickM 4 v).2).1 = 0 := by simpa using c8
      have hm : endP (p, (pickM 4 v).2) = (p, (pickM 8 (pickM 4 v).2).2) := by unfold endP; rw [if_neg h8]
      rw [hm]
      exact .inl (Exists.intro (il p) (And.intro (row_allI p) ⟨cuB _, ⟨⟨⟨rfl, rfl, rfl, rfl, trivial⟩, trivial⟩, rfl⟩, rfl, rfl⟩))
  · have h1 : ¬ 0 < t.ks.length := fun h => by
      rename_i c1 _ _ _
      have c2 := of_decide_eq_false (show decide (((encM t.ks).length : Int) > 0) = false from c1)
      omega
    rw [walkP, if_neg h1] at hr
    subst hr
    refine callG [0] (cPick 8 _) rfl (fun K hk => hk) ?_
    rintro rs τ' hl' ⟨rfl, rfl⟩
    refine And.intro (fun c8 => ?_) (fun c8 => ?_)
    · have h8 : (pickM 8 v).1 = 0 := by simpa using c8
      have hp3 := pickM_rng 3 (pickM 8 v).2
      have e3 : wr .i64 ((pickM 3 (pickM 8 v).2).1 - 1) = (pickM 3 (pickM 8 v).2).1 - 1 := w64 (by omega)
      have hm : endP (p, v) = (p ++ [(pickM 3 (pickM 8 v).2).1 - 1], (pickM 3 (pickM 8 v).2).2) := by unfold endP; rw [if_pos h8]
      rw [hm]
      refine callG [0] (cPick 3 _) rfl (fun K hk => hk) ?_
      rintro rs τ' hl' ⟨rfl, rfl⟩
      refine And.intro (show fits _ _ from ⟨⟨rfl, rfl⟩, trivial⟩) ?_
      refine Exists.intro _ (And.intro ⟨show 0 + _ ≤ List.length _ from Nat.le_of_eq rfl, rfl⟩ ?_)
      refine Exists.intro (il p) ?_
      refine And.intro ⟨(row_allI p).1, (row_allI p).2, ⟨⟨rfl, rfl⟩, trivial⟩, appfitI p.length 1 (by omega)⟩ ?_
      refine .inl (Exists.intro (il (p ++ [(pickM 3 (pickM 8 v).2).1 - 1])) (And.intro ?_ ⟨cuB _, ⟨⟨⟨rfl, rfl, rfl, rfl, trivial⟩, trivial⟩, rfl⟩, rfl, rfl⟩))
      rw [e3, il_app]; exact row_all' (il p ++ [I ((pickM 3 (pickM 8 v).2).1 - 1)]) (p.length + 1) (by rw [List.length_append, il_len]; rfl)
    · have h8 : ¬ (pickM 8 v).1 = 0 := by simpa using c8
      have hm : endP (p, v) = (p, (pickM 8 v).2) := by unfold endP; rw [if_neg h8]
      rw [hm]
      exact .inl (Exists.intro (il p) (And.intro (row_allI p) ⟨cuB _, ⟨⟨⟨rfl, rfl, rfl, rfl, trivial⟩, trivial⟩, rfl⟩, rfl, rfl⟩))
end Go.Proofs.Ytgdecbliegelmaa.Z
