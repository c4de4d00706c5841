/- J4: parts of the proof of FnExactPlaces, joined. -/
import Derived.Test.YtgdecbliegelmaaJ3
import Derived.Test.YtgdecbliegelmaaJ0
import Derived.Test.YtgdecbliegelmaaJ1
import Derived.Test.YtgdecbliegelmaaJ2
set_option linter.unnecessarySimpa false
set_option linter.unusedSimpArgs false
set_option linter.unusedVariables false
/- Patterns, plainly: matching and places. -/
namespace Go.Proofs.Ytgdecbliegelmaa.Q
open Go.RowKit Go.Proofs.YtgdecbliegelmaaW.PrintWords
set_option linter.unusedVariables false
theorem rd151 (l : List S151) (i : Nat) (h : i < l.length) : rd_T151 l (i : Int) = l[i] := by
 simp [rd_T151, List.getD_eq_getElem?_getD, List.getElem?_eq_getElem h]
/-- Both compare alike. -/
theorem same_both (u : S53) (hu : FitI u) : ∀ t : S53, ∃ b, Ev (fun k => spec_l01Same.f k t.f0 t.f1 t.f2 t.f3 u.f0 u.f1 u.f2 u.f3) b ∧ Ev (fun k => impl_same.f k t.f0 t.f1 t.f2 t.f3 u.f0 u.f1 u.f2 u.f3) b := by
 induction u using ind53 with
 | h u ih =>
 intro t
 obtain ⟨b3, bk⟩ := hu.inv
 have fs : Ev (fun k => spec_l01Same.j0 k true t.f0 t.f1 t.f2 t.f3 u.f0 u.f1 u.f2 u.f3) false := Ev.step (fun k => by rw [spec_l01Same.j0]) (Ev.pos rfl (Ev.now _))
 have fi : Ev (fun k => impl_same.j0 k true t.f0 t.f1 t.f2 t.f3 u.f0 u.f1 u.f2 u.f3) false := Ev.step (fun k => by rw [impl_same.j0]) (Ev.pos rfl (Ev.now _))
 by_cases c0 : t.f0.toList = u.f0.toList
 rotate_left
 ·exact ⟨false, Ev.step (fun k => by rw [spec_l01Same.f]) (Ev.neg c0 fs), Ev.step (fun k => by rw [impl_same.f]) (Ev.neg c0 fi)⟩
 by_cases c1 : t.f1.toList = u.f1.toList
 rotate_left
 ·exact ⟨false, Ev.step (fun k => by rw [spec_l01Same.f]) (Ev.pos c0 (Ev.neg c1 fs)), Ev.step (fun k => by rw [impl_same.f]) (Ev.pos c0 (Ev.neg c1 fi))⟩
 by_cases c2 : (t.f2 != u.f2) = true
 ·exact ⟨false, Ev.step (fun k => by rw [spec_l01Same.f]) (Ev.pos c0 (Ev.pos c1 (Ev.pos c2 fs))), Ev.step (fun k => by rw [impl_same.f]) (Ev.pos c0 (Ev.pos c1 (Ev.pos c2 fi)))⟩
 by_cases c3 : t.f3.length = u.f3.length
 rotate_left
 ·have c3b : ((t.f3.length : Int) != (u.f3.length : Int)) = true := bne_iff_ne.mpr (by omega)
  exact ⟨false, Ev.step (fun k => by rw [spec_l01Same.f]) (Ev.pos c0 (Ev.pos c1 (Ev.neg c2 (by rw [c3b];exact fs)))), Ev.step (fun k => by rw [impl_same.f]) (Ev.pos c0 (Ev.pos c1 (Ev.neg c2 (by rw [c3b];exact fi))))⟩
 have c3b : ((t.f3.length : Int) != (u.f3.length : Int)) = false := bne_eq_false_iff_eq.mpr (by omega)
 have loop : ∀ d i, i + d = t.f3.length → ∃ b, Ev (fun k => spec_l01Same.l0 k (i : Int) t.f0 t.f1 t.f2 t.f3 u.f0 u.f1 u.f2 u.f3) b ∧ Ev (fun k => impl_same.l0 k (t.f3.length : Int) (i : Int) t.f0 t.f1 t.f2 t.f3 u.f0 u.f1 u.f2 u.f3) b := by
  intro d
  induction d with
  | zero =>
   intro i hi
   exact ⟨true, Ev.step (fun k => by rw [spec_l01Same.l0]) (Ev.neg (by omega) (Ev.now _)), Ev.step (fun k => by rw [impl_same.l0]) (Ev.neg (by omega) (Ev.now _))⟩
  | succ d ihd =>
   intro i hi
   have h1 : i < t.f3.length := by omega
   have h2 : i < u.f3.length := by omega
   obtain ⟨b, hs, hm⟩ := ih u.f3[i] (List.getElem_mem h2) (bk _ (List.getElem_mem h2)) t.f3[i]
   cases b with
   | false =>
    refine ⟨false, Ev.step (fun k => by rw [spec_l01Same.l0]) (Ev.pos (by omega) (Ev.pos (by omega) (Ev.pos (by omega) ?_))), Ev.step (fun k => by rw [impl_same.l0]) (Ev.pos (by omega) (Ev.pos (by omega) (Ev.pos (by omega) (Ev.pos (by omega) ?_))))⟩
    ·rw [rd53 _ _ h1, rd53 _ _ h2]
     exact Ev.bind hs (Ev.neg (by simp) (Ev.now _))
    ·rw [rd53 _ _ h1, rd53 _ _ h2]
     exact Ev.bind hm (Ev.neg (by simp) (Ev.now _))
   | true =>
    obtain ⟨b2, hs2, hm2⟩ := ihd (i + 1) (by omega)
    refine ⟨b2, Ev.step (fun k => by rw [spec_l01Same.l0]) (Ev.pos (by omega) (Ev.pos (by omega) (Ev.pos (by omega) ?_))), Ev.step (fun k => by rw [impl_same.l0]) (Ev.pos (by omega) (Ev.pos (by omega) (Ev.pos (by omega) (Ev.pos (by omega) ?_))))⟩
    ·rw [rd53 _ _ h1, rd53 _ _ h2, pt_wrap (x := (i : Int) + 1) (by omega) (by omega)]
     exact Ev.bind hs (Ev.pos rfl hs2)
    ·rw [rd53 _ _ h1, rd53 _ _ h2, pt_wrap (x := (i : Int) + 1) (by omega) (by omega)]
     exact Ev.bind hm (Ev.pos rfl hm2)
 obtain ⟨b, hs, hm⟩ := loop t.f3.length 0 (by omega)
 refine ⟨b, Ev.step (fun k => by rw [spec_l01Same.f]) (Ev.pos c0 (Ev.pos c1 (Ev.neg c2 ?_))), Ev.step (fun k => by rw [impl_same.f]) (Ev.pos c0 (Ev.pos c1 (Ev.neg c2 ?_)))⟩
 ·rw [c3b]
  refine Ev.step (fun k => by rw [spec_l01Same.j0]) ?_
  refine Ev.neg (by simp) ?_
  exact hs
 ·rw [c3b]
  refine Ev.step (fun k => by rw [impl_same.j0]) ?_
  refine Ev.neg (by simp) ?_
  exact hm
/-- Both look a name up alike. -/
theorem find_both (bl : List S151) (x : ByteArray) (hl : bl.length ≤ 9223372036854775806) :
  (∃ j : Nat, ∃ h : j < bl.length, Ev (fun k => spec_l11Find.f k bl x) (j : Int) ∧ Ev (fun k => impl_bound.f k bl x) (bl[j].f1.f0, bl[j].f1.f1, bl[j].f1.f2, bl[j].f1.f3, true)) ∨
  (Ev (fun k => spec_l11Find.f k bl x) (-1) ∧ Ev (fun k => impl_bound.f k bl x) ((⟨#[]⟩ : ByteArray), (⟨#[]⟩ : ByteArray), false, ([] : List S53), false)) := by
 have loop : ∀ d i, i + d = bl.length →
   (∃ j : Nat, ∃ h : j < bl.length, Ev (fun k => spec_l11Find.l0 k bl x (i : Int)) (j : Int) ∧ Ev (fun k => impl_bound.l0 k x bl (bl.length : Int) (i : Int)) (bl[j].f1.f0, bl[j].f1.f1, bl[j].f1.f2, bl[j].f1.f3, true)) ∨
   (Ev (fun k => spec_l11Find.l0 k bl x (i : Int)) (-1) ∧ Ev (fun k => impl_bound.l0 k x bl (bl.length : Int) (i : Int)) ((⟨#[]⟩ : ByteArray), (⟨#[]⟩ : ByteArray), false, ([] : List S53), false)) := by
  intro d
  induction d with
  | zero =>
   intro i hi
   exact .inr ⟨Ev.step (fun k => by rw [spec_l11Find.l0]) (Ev.neg (by omega) (Ev.now _)), Ev.step (fun k => by rw [impl_bound.l0]) (Ev.neg (by omega) (Ev.now _))⟩
  | succ d ihd =>
   intro i hi
   have h1 : i < bl.length := by omega
   by_cases c : (rd_T151 bl (i : Int)).f0.toList = x.toList
   ·refine .inl ⟨i, h1, Ev.step (fun k => by rw [spec_l11Find.l0]) (Ev.pos (by omega) (Ev.pos (by omega) (Ev.pos c (Ev.now _)))), Ev.step (fun k => by rw [impl_bound.l0]) (Ev.pos (by omega) (Ev.pos (by omega) (Ev.pos (by omega) (Ev.pos c ?_))))⟩
    rw [rd151 _ _ h1]
    exact Ev.now _
   ·rcases ihd (i + 1) (by omega) with ⟨j, hj, hs, hm⟩|⟨hs, hm⟩
    ·refine .inl ⟨j, hj, Ev.step (fun k => by rw [spec_l11Find.l0]) (Ev.pos (by omega) (Ev.pos (by omega) (Ev.neg c ?_))), Ev.step (fun k => by rw [impl_bound.l0]) (Ev.pos (by omega) (Ev.pos (by omega) (Ev.pos (by omega) (Ev.neg c ?_))))⟩
     ·rw [pt_wrap (x := (i : Int) + 1) (by omega) (by omega)]
      exact hs
     ·rw [pt_wrap (x := (i : Int) + 1) (by omega) (by omega)]
      exact hm
    ·refine .inr ⟨Ev.step (fun k => by rw [spec_l11Find.l0]) (Ev.pos (by omega) (Ev.pos (by omega) (Ev.neg c ?_))), Ev.step (fun k => by rw [impl_bound.l0]) (Ev.pos (by omega) (Ev.pos (by omega) (Ev.pos (by omega) (Ev.neg c ?_))))⟩
     ·rw [pt_wrap (x := (i : Int) + 1) (by omega) (by omega)]
      exact hs
     ·rw [pt_wrap (x := (i : Int) + 1) (by omega) (by omega)]
      exact hm
 exact loop bl.length 0 (by omega)
/-- Both match alike. -/
theorem match_both (t : S53) (ht : FitI t) : ∀ (u : S53) (hu : FitI u) (bl : List S151), bl.length + Nn t ≤ 1000000 →
  ∃ rl b, Ev (fun k => spec_l11Match.f k t.f0 t.f1 t.f2 t.f3 u.f0 u.f1 u.f2 u.f3 bl) (rl, b) ∧ Ev (fun k => impl_match.f k t.f0 t.f1 t.f2 t.f3 u.f0 u.f1 u.f2 u.f3 bl) (rl, b) ∧ rl.length ≤ bl.length + Nn t := by
 induction t using ind53 with
 | h t ih =>
 intro u hu bl hn
 obtain ⟨b3, bk⟩ := ht.inv
 obtain ⟨b3u, bku⟩ := hu.inv
 cases hv : isV t with
 | true =>
  rcases find_both bl t.f1 (by omega) with ⟨j, hj, hs, hm⟩|⟨hs, hm⟩
  ·obtain ⟨b, ss, sm⟩ := same_both u hu bl[j].f1
   refine ⟨bl, b, Ev.step (fun k => by rw [spec_l11Match.f]) ?_, Ev.step (fun k => by rw [impl_match.f]) ?_, by omega⟩
   ·simp only [var_s, Option.bind_some, hv]
    refine Ev.pos trivial (Ev.bind hs (Ev.pos (by omega) (Ev.pos (by omega) ?_)))
    rw [rd151 _ _ hj]
    exact Ev.bind ss (Ev.now _)
   ·simp only [var_i, Option.bind_some, hv]
    exact Ev.pos trivial (Ev.bind hm (Ev.pos rfl (Ev.bind sm (Ev.now _))))
  ·have h1 := Nn_eq t
   refine ⟨bl ++ [⟨t.f1, ⟨u.f0, u.f1, u.f2, u.f3⟩⟩], true, Ev.step (fun k => by rw [spec_l11Match.f]) ?_, Ev.step (fun k => by rw [impl_match.f]) ?_, by simp;omega⟩
   ·simp only [var_s, Option.bind_some, hv]
    exact Ev.pos trivial (Ev.bind hs (Ev.neg (by omega) (Ev.pos (by omega) (Ev.now _))))
   ·simp only [var_i, Option.bind_some, hv]
    exact Ev.pos trivial (Ev.bind hm (Ev.neg (by simp) (Ev.pos (by omega) (Ev.now _))))
 | false =>
  have start : ∀ {r : List S151 × Bool}, Ev (fun k => if t.f0.toList = u.f0.toList then (if t.f2 = u.f2 then (if t.f1.toList = u.f1.toList then (if t.f3.length = u.f3.length then spec_l11Match.l0 k t.f3 u.f3 0 bl true else some (bl, false)) else some (bl, false)) else some (bl, false)) else some (bl, false)) r →
    Ev (fun k => spec_l11Match.f k t.f0 t.f1 t.f2 t.f3 u.f0 u.f1 u.f2 u.f3 bl) r := fun h => by
   refine Ev.step (fun k => by rw [spec_l11Match.f]) ?_
   simp only [var_s, Option.bind_some, hv]
   exact Ev.neg (by simp) h
  have starti : ∀ {r : List S151 × Bool}, Ev (fun k => if t.f0.toList = u.f0.toList then (if t.f1.toList = u.f1.toList then (if t.f2 = u.f2 then (if t.f3.length = u.f3.length then impl_match.l0 k t.f3 u.f3 0 bl else some (bl, false)) else some (bl, false)) else some (bl, false)) else some (bl, false)) r →
    Ev (fun k => impl_match.f k t.f0 t.f1 t.f2 t.f3 u.f0 u.f1 u.f2 u.f3 bl) r := fun h => by
   refine Ev.step (fun k => by rw [impl_match.f]) ?_
   simp only [var_i, Option.bind_some, hv]
   exact Ev.neg (by simp) h
  by_cases c0 : t.f0.toList = u.f0.toList
  rotate_left
  ·exact ⟨bl, false, start (Ev.neg c0 (Ev.now _)), starti (Ev.neg c0 (Ev.now _)), by omega⟩
  by_cases c1 : t.f1.toList = u.f1.toList
  rotate_left
  ·refine ⟨bl, false, start (Ev.pos c0 ?_), starti (Ev.pos c0 (Ev.neg c1 (Ev.now _))), by omega⟩
   by_cases c2 : t.f2 = u.f2
   ·exact Ev.pos c2 (Ev.neg c1 (Ev.now _))
   ·exact Ev.neg c2 (Ev.now _)
  by_cases c2 : t.f2 = u.f2
  rotate_left
  ·exact ⟨bl, false, start (Ev.pos c0 (Ev.neg c2 (Ev.now _))), starti (Ev.pos c0 (Ev.pos c1 (Ev.neg c2 (Ev.now _)))), by omega⟩
  by_cases c3 : t.f3.length = u.f3.length
  rotate_left
  ·exact ⟨bl, false, start (Ev.pos c0 (Ev.pos c2 (Ev.pos c1 (Ev.neg c3 (Ev.now _))))), starti (Ev.pos c0 (Ev.pos c1 (Ev.pos c2 (Ev.neg c3 (Ev.now _))))), by omega⟩
  have loop : ∀ d i (bl : List S151), i + d = t.f3.length → bl.length + ((t.f3.drop i).map Nn).sum ≤ 1000000 → ∃ rl b, Ev (fun k => spec_l11Match.l0 k t.f3 u.f3 (i : Int) bl true) (rl, b) ∧ Ev (fun k => impl_match.l0 k t.f3 u.f3 (i : Int) bl) (rl, b) ∧ rl.length ≤ bl.length + ((t.f3.drop i).map Nn).sum := by
   intro d
   induction d with
   | zero =>
    intro i bl hi hn
    exact ⟨bl, true, Ev.step (fun k => by rw [spec_l11Match.l0]) (Ev.neg (by omega) (Ev.now _)), Ev.step (fun k => by rw [impl_match.l0]) (Ev.neg (by omega) (Ev.now _)), by omega⟩
   | succ d ihd =>
    intro i bl hi hn
    have h1 : i < t.f3.length := by omega
    have h2 : i < u.f3.length := by omega
    rw [sum_drop_cons _ _ _ h1] at hn ⊢
    obtain ⟨rl, b, hs, hm, hl⟩ := ih t.f3[i] (List.getElem_mem h1) (bk _ (List.getElem_mem h1)) u.f3[i] (bku _ (List.getElem_mem h2)) bl (by omega)
    cases b with
    | false =>
     refine ⟨rl, false, Ev.step (fun k => by rw [spec_l11Match.l0]) (Ev.pos (by omega) (Ev.pos rfl (Ev.pos (by omega) (Ev.pos (by omega) ?_)))), Ev.step (fun k => by rw [impl_match.l0]) (Ev.pos (by omega) (Ev.pos (by omega) (Ev.pos (by omega) ?_))), by omega⟩
     ·rw [rd53 _ _ h1, rd53 _ _ h2]
      refine Ev.bind hs ?_
      refine Ev.step (fun k => by rw [spec_l11Match.l0]) ?_
      by_cases c : wrap64 ((i : Int) + 1) < (t.f3.length : Int)
      ·exact Ev.pos c (Ev.neg (by simp) (Ev.now _))
      ·exact Ev.neg c (Ev.now _)
     ·rw [rd53 _ _ h1, rd53 _ _ h2]
      exact Ev.bind hm (Ev.neg (by simp) (Ev.now _))
    | true =>
     obtain ⟨rl2, b2, hs2, hm2, hl2⟩ := ihd (i + 1) rl (by omega) (by omega)
     refine ⟨rl2, b2, Ev.step (fun k => by rw [spec_l11Match.l0]) (Ev.pos (by omega) (Ev.pos rfl (Ev.pos (by omega) (Ev.pos (by omega) ?_)))), Ev.step (fun k => by rw [impl_match.l0]) (Ev.pos (by omega) (Ev.pos (by omega) (Ev.pos (by omega) ?_))), by omega⟩
     ·rw [rd53 _ _ h1, rd53 _ _ h2, pt_wrap (x := (i : Int) + 1) (by omega) (by omega)]
      exact Ev.bind hs hs2
     ·rw [rd53 _ _ h1, rd53 _ _ h2, pt_wrap (x := (i : Int) + 1) (by omega) (by omega)]
      exact Ev.bind hm (Ev.pos rfl hm2)
  have h1 := Nn_eq t
  obtain ⟨rl, b, hs, hm, hl⟩ := loop t.f3.length 0 bl (by omega) (by simpa using (show bl.length + (t.f3.map Nn).sum ≤ 1000000 by omega))
  refine ⟨rl, b, start (Ev.pos c0 (Ev.pos c2 (Ev.pos c1 (Ev.pos c3 hs)))), starti (Ev.pos c0 (Ev.pos c1 (Ev.pos c2 (Ev.pos c3 hm)))), by simp at hl;omega⟩
theorem Nn_kid2 (l : List S53) (u : S53) (h : u ∈ l) : Nn u ≤ (l.map Nn).sum := by
 induction l with
 | nil => cases h
 | cons a l ih =>
  simp only [List.map_cons, List.sum_cons]
  rcases List.mem_cons.1 h with rfl|h
  ·omega
  ·have := ih h
   omega
/-- Both find the same places. -/
theorem places_both (p : S53) (hp : FitI p) (hpn : Nn p ≤ 1000) (t : S53) (ht : FitI t) : ∀ (pl : List Int), pl.length + Nn t ≤ 100000 → ∃ R : List (List Int),
  Ev (fun k => spec_l11Places.f k p.f0 p.f1 p.f2 p.f3 t.f0 t.f1 t.f2 t.f3 pl) R ∧ R.length ≤ Nn t ∧ (∀ r ∈ R, r.length ≤ pl.length + Nn t) ∧
  ∀ out : List (List Int), out.length + Nn t ≤ 100000 → Ev (fun k => impl_each.f k p.f0 p.f1 p.f2 p.f3 t.f0 t.f1 t.f2 t.f3 pl out) (out ++ R) := by
 induction t using ind53 with
 | h t ih =>
 intro pl hpl
 obtain ⟨b3, bk⟩ := ht.inv
 have hN := Nn_eq t
 rw [hN] at hpl ⊢
 have loop : ∀ d i, i + d = t.f3.length → ∃ R : List (List Int), R.length ≤ ((t.f3.drop i).map Nn).sum ∧ (∀ r ∈ R, r.length ≤ pl.length + (1 + (t.f3.map Nn).sum)) ∧
   (∀ out : List (List Int), out.length + ((t.f3.drop i).map Nn).sum ≤ 100000 → Ev (fun k => spec_l11Places.l0 k p.f0 p.f1 p.f2 p.f3 t.f3 pl (i : Int) out) (out ++ R)) ∧
   (∀ out : List (List Int), out.length + ((t.f3.drop i).map Nn).sum ≤ 100000 → Ev (fun k => impl_each.l0 k p.f0 p.f1 p.f2 p.f3 t.f3 pl (i : Int) out) (out ++ R)) := by
  intro d
  induction d with
  | zero =>
   intro i hi
   refine ⟨[], by simp, by simp, fun out _ => ?_, fun out _ => ?_⟩
   ·rw [List.append_nil]
    exact Ev.step (fun k => by rw [spec_l11Places.l0]) (Ev.neg (by omega) (Ev.now _))
   ·rw [List.append_nil]
    exact Ev.step (fun k => by rw [impl_each.l0]) (Ev.neg (by omega) (Ev.now _))
  | succ d ihd =>
   intro i hi
   have h1 : i < t.f3.length := by omega
   have hk := Nn_kid2 t.f3 t.f3[i] (List.getElem_mem h1)
   obtain ⟨R1, hs, hl, hr, hm⟩ := ih t.f3[i] (List.getElem_mem h1) (bk _ (List.getElem_mem h1)) (pl ++ [(i : Int)]) (by simp;omega)
   obtain ⟨R2, hl2, hr2, hs2, hm2⟩ := ihd (i + 1) (by omega)
   rw [sum_drop_cons _ _ _ h1]
   refine ⟨R1 ++ R2, by rw [List.length_append];omega, ?_, fun out ho => ?_, fun out ho => ?_⟩
   ·intro r hr0
    rcases List.mem_append.mp hr0 with h|h
    ·have := hr r h
     simp at this
     omega
    ·exact hr2 r h
   ·refine Ev.step (fun k => by rw [spec_l11Places.l0]) (Ev.pos (by omega) (Ev.pos (by omega) (Ev.pos (by omega) ?_)))
    rw [rd53 _ _ h1, pt_wrap (x := (i : Int) + 1) (by omega) (by omega)]
    refine Ev.bind hs (Ev.pos (by omega) ?_)
    rw [← List.append_assoc]
    exact hs2 (out ++ R1) (by rw [List.length_append];omega)
   ·refine Ev.step (fun k => by rw [impl_each.l0]) (Ev.pos (by omega) (Ev.pos (by omega) (Ev.pos (by omega) ?_)))
    rw [rd53 _ _ h1, pt_wrap (x := (i : Int) + 1) (by omega) (by omega)]
    refine Ev.bind (hm out (by omega)) ?_
    rw [← List.append_assoc]
    exact hm2 (out ++ R1) (by rw [List.length_append];omega)
 obtain ⟨R, hl, hr, hs, hm⟩ := loop t.f3.length 0 (by omega)
 rw [List.drop_zero] at hl
 simp only [List.drop_zero] at hs hm
 obtain ⟨rl, b, ms, mi, _⟩ := match_both p hp t ht [] (by simp;omega)
 cases b with
 | true =>
  refine ⟨[pl] ++ R, Ev.step (fun k => by rw [spec_l11Places.f]) (Ev.bind ms ?_), by simp;omega, ?_, fun out ho => ?_⟩
  ·exact hs [pl] (by simp;omega)
  ·intro r hr0
   rcases List.mem_append.mp hr0 with h|h
   ·simp at h
    subst h
    omega
   ·exact hr r h
  ·refine Ev.step (fun k => by rw [impl_each.f]) ?_
   refine Ev.bind (a := out ++ [pl]) ?_ ?_
   ·unfold impl_PlacesF.f
    exact Ev.bind mi (Ev.pos rfl (Ev.pos (by omega) (Ev.pos (by omega) (Ev.now _))))
   ·rw [← List.append_assoc]
    exact hm (out ++ [pl]) (by simp;omega)
 | false =>
  refine ⟨R, Ev.step (fun k => by rw [spec_l11Places.f]) (Ev.bind ms ?_), by omega, hr, fun out ho => ?_⟩
  ·exact hs [] (by simp;omega)
  ·refine Ev.step (fun k => by rw [impl_each.f]) ?_
   refine Ev.bind (a := out) ?_ ?_
   ·unfold impl_PlacesF.f
    exact Ev.bind mi (Ev.neg (by simp) (Ev.now _))
   ·exact hm out (by omega)
end Go.Proofs.Ytgdecbliegelmaa.Q

namespace Go.Proofs.Ytgdecbliegelmaa.Q
open Go.RowKit Go.Proofs.YtgdecbliegelmaaW.PrintWords Go.Proofs.YtgdecbliegelmaaW.PrintLast Go.Proofs.YtgdecbliegelmaaW.PrintMore
attribute [local go_sem] max2_int min2_int max_two min_two max_three min_three max_four min_four   -- for this text's walks alone
set_option linter.unusedVariables false
set_option linter.unusedSimpArgs false
/-! ### laws_markText: function 121 -/
def laws_markText.l0 : Nat → Int → ByteArray → Option (ByteArray)
  | 0, _, _ => none
  | k + 1, x0, x3 => if x0 > 0 then ((some (([(wrap64 (48 + (Int.tmod x0 10))) % 256] : List Int) : List Int)).bind fun y101 => (if (strOfNums y101).size + x3.size ≤ 9223372036854775807 then (laws_markText.l0 k (wrap64 (Int.tdiv x0 10)) ((strOfNums y101) ++ x3)) else (none))) else (if 1 + x3.size ≤ 9223372036854775807 then (some ((⟨#[109]⟩ : ByteArray) ++ x3)) else (none))
def laws_markText.f (k : Nat) (a0 : Int) : Option (ByteArray) := if a0 ≤ 0 then (some (⟨#[109, 48]⟩ : ByteArray)) else (laws_markText.l0 k a0 (⟨#[]⟩ : ByteArray))
theorem laws_markText.mono_l : ∀ k, (∀ y0 y1, LeO (laws_markText.l0 k y0 y1) (laws_markText.l0 (k + 1) y0 y1))
 | 0 => fun _ _ r h => by simp [laws_markText.l0] at h
 | k + 1 => by
  have ih0 := laws_markText.mono_l k
  ·intro y0 y1
   unfold laws_markText.l0
   repeat' first
   | (with_reducible exact ih0 _ _)
   | (with_reducible exact LeO.refl _)
   | (with_reducible exact LeO.none _)
   | (with_reducible refine LeO.ite ?_ ?_)
   | (with_reducible refine LeO.bind ?_ (fun _ => ?_))
   | exact ih0 _ _
   | exact LeO.none _
   | refine LeO.ite ?_ ?_
   | refine LeO.bind ?_ (fun _ => ?_)
theorem laws_markText.mono : ∀ a0 k, LeO (laws_markText.f k a0) (laws_markText.f (k + 1) a0) := by
 intro a0 k
 have ih0 := laws_markText.mono_l k
 unfold laws_markText.f
 repeat' first
   | (with_reducible exact ih0 _ _)
   | (with_reducible exact LeO.refl _)
   | (with_reducible exact LeO.none _)
   | (with_reducible refine LeO.ite ?_ ?_)
   | (with_reducible refine LeO.bind ?_ (fun _ => ?_))
   | exact ih0 _ _
   | exact LeO.none _
   | refine LeO.ite ?_ ?_
   | refine LeO.bind ?_ (fun _ => ?_)
set_option maxHeartbeats 8000000 in
set_option maxRecDepth 100000 in
theorem laws_markText.calls (k : Nat) (a0 : Int) (r : ByteArray) (w : World) (h : laws_markText.f k a0 = some r) :
  Calls Try.prog 121 #[.int .i64 a0] w fun e w' => e = .returned (.string r) ∧ Below w.heap.size w w' := by
 have HB := Aside0.mk (Below.refl w.heap.size w)
 have H : (if a0 ≤ 0 then (some (⟨#[109, 48]⟩ : ByteArray)) else (laws_markText.l0 k a0 (⟨#[]⟩ : ByteArray))) = some r := h
 clear h
 by_cases c2 : a0 ≤ 0
 ·rw [if_pos c2] at H
  have c2b0 : decide (a0 ≤ 0) = true := decide_eq_true c2
  clear c2
  obtain rfl := Option.some.inj H
  go_enter Try.func121, Try.ntmps121
  go_wp2
  go_ret
  exact ⟨by first|rfl|(simp [errW_none, errW_some] <;> rfl)|(simp [*, errW_none, errW_some] <;> rfl), by repeat (first|(with_reducible first|exact HB.out|apply below_alloc|apply pw_below_drewN|apply below_drew1)|exact HB.out)⟩
 ·rw [if_neg c2] at H
  have c2b0 : decide (a0 ≤ 0) = false := decide_eq_false c2
  clear c2
  have H' := Aside0.mk H
  clear H
  go_enter Try.func121, Try.ntmps121
  go_wp2
  go_loopg [0, 3] k (fun kq v0 v3 w' => ∃ (x0_1 : Int) (x3_1 : ByteArray), v0 = .int .i64 x0_1 ∧ v3 = .string x3_1 ∧ Aside0 (laws_markText.l0 kq x0_1 x3_1 = some r) ∧ Aside0 (kq ≤ k) ∧ Aside0 (Below w.heap.size w w'))
  case atStart => exact ⟨(a0), ((⟨#[]⟩ : ByteArray)), (by first|rfl|(simp;done)|(simp [*];done)), (by first|rfl|(simp;done)|(simp [*];done)), H', ⟨Nat.le_refl _⟩, ⟨by repeat (first|(with_reducible first|exact HB.out|apply below_alloc|apply pw_below_drewN|apply below_drew1)|exact HB.out)⟩⟩
  case round =>
   clear H'
   try clear c1
   try clear c2
   try clear c2b0
   try clear p2
   obtain ⟨x0_1, x3_1, rfl, rfl, HA, HK1, HB⟩ := hrel
   cases gk with
   | zero => exact absurd HA.out (by simp [laws_markText.l0])
   | succ k1 =>
    have H := HA.out
    clear HA
    simp only [laws_markText.l0] at H
    by_cases c3 : x0_1 > 0
    ·rw [if_pos c3] at H
     have c3b0 : decide (0 < x0_1) = true := decide_eq_true c3
     clear c3
     obtain ⟨y101, hy101⟩ : ∃ y_ : List Int, y_ = (([(wrap64 (48 + (Int.tmod x0_1 10))) % 256] : List Int)) := ⟨_, rfl⟩
     replace H : (if (strOfNums y101).size + x3_1.size ≤ 9223372036854775807 then (laws_markText.l0 k1 (wrap64 (Int.tdiv x0_1 10)) ((strOfNums y101) ++ x3_1)) else (none)) = some r := by first|(rw [hy101];with_reducible exact H)|(have H2_ := (Option.bind_some _ _).symm.trans H;rw [hy101];with_reducible exact H2_)|(have H2_ := (Option.bind_some _ _).symm.trans H;with_reducible exact H2_)|with_reducible exact H|(rw [hy101];exact H)|exact H
     have Ny101 := Aside0.mk hy101
     clear hy101
     by_cases c4 : (strOfNums y101).size + x3_1.size ≤ 9223372036854775807
     ·rw [if_pos c4] at H
      have c4b0 := eq_true c4
      have c4b1 : decide ((strOfNums y101).size + x3_1.size ≤ 9223372036854775807) = true := decide_eq_true c4
      try have c4b2 : (9223372036854775807 < (strOfNums y101).size + x3_1.size) = False := eq_false (Nat.not_lt.2 c4)
      have H' := Aside0.mk H
      clear H
      go_wp2_with (first|((with_reducible refine gate_dst (N := 12) rfl ?_);refine Kd.R_lit (Kd.int .u8) _ 5 ?hg (N := 12) ?hd (xs := ([(wrap64 (48 + (Int.tmod x0_1 10))) % 256] : List Int)) (inner := [.int .u8 ((wrap64 (48 + (Int.tmod x0_1 10))) % 256)]) (ok := fun _ => True) (okp := fun _ => True) ?hr ?hp (fun _ hk => hk) trivial (Below.refl _ _) (Nat.le_refl _) (by simp) ?_;(case hd => rfl);(case hg => rfl);(case hr => first|(go_simp;done)|(go_simp;rfl));(case hp => exact (Reps.one (show Kd.M (Kd.int .u8) _ _ _ ((wrap64 (48 + (Int.tmod x0_1 10))) % 256) [.int .u8 ((wrap64 (48 + (Int.tmod x0_1 10))) % 256)] from rfl) (Reps.none _ _)));intro v102 w5 ho6 hb hg_ hnew_;clear hg_ hnew_;(first|rw [← Ny101.out] at ho6|(simp only [Int.reduceToNat] at ho6;rw [← Ny101.out] at ho6));have n0_ := Aside0.mk (Kd.R_lower ho6 (below_size (by repeat (first|(with_reducible first|exact HB.out|apply below_alloc|apply pw_below_drewN|apply below_drew1)|exact HB.out))));have n1_ := Aside0.mk (below_step (by repeat (first|(with_reducible first|exact HB.out|apply below_alloc|apply pw_below_drewN|apply below_drew1)|exact HB.out)) hb);clear HB;have HO103 := n0_;have HB := n1_;clear n0_ n1_;clear hb ho6;have hcv7 := own_string (P := Try.prog) Try.underlying40 Try.underlying5 Try.underlying9 (Kd.own_of_R HO103.out)))
      go_roundg k1
      case measure => have := HK1.out;omega
      case rel => exact ⟨(wrap64 (Int.tdiv x0_1 10)), ((strOfNums y101) ++ x3_1), (by first|rfl|(simp;done)|(simp [*];done)), (by first|rfl|(simp;done)|(simp [*];done)), H', ⟨by have := HK1.out;omega⟩, ⟨by repeat (first|(with_reducible first|exact HB.out|apply below_alloc|apply pw_below_drewN|apply below_drew1)|exact HB.out)⟩⟩
     ·rw [if_neg c4] at H
      exact absurd H (by simp)
    ·rw [if_neg c3] at H
     have c3b0 : decide (0 < x0_1) = false := decide_eq_false c3
     clear c3
     by_cases c8 : 1 + x3_1.size ≤ 9223372036854775807
     ·rw [if_pos c8] at H
      have c8b0 := eq_true c8
      have c8b1 : decide (1 + x3_1.size ≤ 9223372036854775807) = true := decide_eq_true c8
      try have c8b2 : (9223372036854775807 < 1 + x3_1.size) = False := eq_false (Nat.not_lt.2 c8)
      obtain rfl := Option.some.inj H
      go_wp2
      go_ret
      exact ⟨by first|rfl|(simp [errW_none, errW_some] <;> rfl)|(simp [*, errW_none, errW_some] <;> rfl), by repeat (first|(with_reducible first|exact HB.out|apply below_alloc|apply pw_below_drewN|apply below_drew1)|exact HB.out)⟩
     ·rw [if_neg c8] at H
      exact absurd H (by simp)
end Go.Proofs.Ytgdecbliegelmaa.Q

/- Marks. -/
namespace Go.Proofs.Ytgdecbliegelmaa.Q
open Go.RowKit Go.Proofs.YtgdecbliegelmaaW.PrintWords Go.Proofs.YtgdecbliegelmaaW.PrintLast Go.Proofs.YtgdecbliegelmaaW.PrintMore
attribute [local go_sem] max2_int min2_int max_two min_two max_three min_three max_four min_four
set_option linter.unusedVariables false
set_option linter.unusedSimpArgs false
/-- What marks may change: blocks of trees, but no row of kids in them. -/
def Ag (base top : Nat) (w w' : World) : Prop := Below base w w' ∧ (∀ k, top ≤ k → k < w.heap.size → w'.heap[k]? = w.heap[k]?) ∧ ∀ g cs, base ≤ g → w.heap[g]? = some (.cells cs 53 (0, 0)) → ∃ cs', w'.heap[g]? = some (.cells cs' 53 (0, 0)) ∧ cs'.size = cs.size ∧ ∀ i : Nat, cs'[i * 4 + 3]? = cs[i * 4 + 3]?
section
variable {base top : Nat} {w w1 w2 : World}
theorem Ag.refl (base top : Nat) (w : World) : Ag base top w w := ⟨Below.refl _ _, fun _ _ _ => rfl, fun g cs _ h => ⟨cs, h, rfl, fun _ => rfl⟩⟩
theorem Ag.trans (h : Ag base top w w1) (k : Ag base top w1 w2) : Ag base top w w2 := by
 refine ⟨h.1.trans k.1, fun i ht hi => (k.2.1 i ht (Nat.lt_of_lt_of_le hi h.1.size)).trans (h.2.1 i ht hi), fun g cs hg hc => ?_⟩
 obtain ⟨cs1, h1, h2, h3⟩ := h.2.2 g cs hg hc
 obtain ⟨cs2, k1, k2, k3⟩ := k.2.2 g cs1 hg h1
 exact ⟨cs2, k1, k2.trans h2, fun i => (k3 i).trans (h3 i)⟩
theorem Ag.of_below (hb : Below w.heap.size w w1) (hs : base ≤ w.heap.size) : Ag base top w w1 := ⟨hb.mono hs, fun i _ hi => hb.block i hi, fun g cs _ hc => ⟨cs, blk_below hc hb, rfl, fun _ => rfl⟩⟩
theorem Ag.set {g i j : Nat} {cs : Array Value} (hg : base ≤ g ∧ g < top) (hb : w.heap[g]? = some (.cells cs 53 (0, 0))) (hj : j < 3) (u : Value) : Ag base top w (w.setCell ⟨g, i * 4 + j, none⟩ u) := by
 refine ⟨(Below.refl _ _).setCell hg.1 _, fun k hk _ => Below.heap_setCell w ⟨g, i * 4 + j, none⟩ u k (fun e => by have := hg.2;simp at e;omega), fun g2 cs2 _ hc => ?_⟩
 by_cases e : g2 = g
 ·subst e
  rw [hb] at hc
  injection hc with hc
  injection hc with e1 _
  subst e1
  refine ⟨_, blk_set hb (i * 4 + j) u, by simp, fun i2 => ?_⟩
  rw [Array.getElem?_setIfInBounds, if_neg (by omega)]
 ·exact ⟨cs2, blk_far hc (p := ⟨g, i * 4 + j, none⟩) e u, rfl, fun _ => rfl⟩
/-- Where the rows of kids of a tree lie. -/
def ShAt : Nat → Nat → Nat → World → Value → List S53 → Prop
  | 0, _, _, _, _, _ => False
  | n + 1, base, top, w, v, xs => ∃ A c, v = .slice A xs.length c ∧ (0 < xs.length → ∃ g cs, A = some ⟨g, 0, none⟩ ∧ (base ≤ g ∧ g < top) ∧ w.heap[g]? = some (.cells cs 53 (0, 0)) ∧ xs.length * 4 ≤ cs.size ∧ ∀ i x, xs[i]? = some x → ∃ vk, cs[i * 4 + 3]? = some vk ∧ ShAt n base top w vk x.f3)
theorem ShAt.ag : ∀ (n : Nat) {v : Value} {xs : List S53}, ShAt n base top w v xs → Ag base top w w1 → ShAt n base top w1 v xs
 | 0, _, _, h, _ => h.elim
 | n + 1, v, xs, h, ha => by
  obtain ⟨A, c, rfl, h⟩ := h
  refine ⟨A, c, rfl, fun hp => ?_⟩
  obtain ⟨g, cs, rfl, hg, hb, hl, hk⟩ := h hp
  obtain ⟨cs', h1, h2, h3⟩ := ha.2.2 g cs hg.1 hb
  refine ⟨g, cs', rfl, hg, h1, by omega, fun i x hx => ?_⟩
  obtain ⟨vk, hv, hs⟩ := hk i x hx
  exact ⟨vk, (h3 i).trans hv, ShAt.ag n hs ha⟩
end
mutual
def laws_markTreeS.l0 : Nat → List S53 → Int → Int → Option Int
  | 0, _, _, _ => none
  | k + 1, l, c, i => if i < (l.length : Int) then (if 0 ≤ i then ((laws_markText.f k c).bind fun _ => (laws_markText.f k (wrap64 (c + 1))).bind fun _ => (laws_markTreeS.f k (rd_T53 l i).f3 (wrap64 (wrap64 (wrap64 (c + 1) + 1) + 1))).bind fun c2 => laws_markTreeS.l0 k l c2 (wrap64 (i + 1))) else none) else some c
def laws_markTreeS.f : Nat → List S53 → Int → Option Int
  | 0, _, _ => none
  | k + 1, l, c => laws_markTreeS.l0 k l c 0
end
theorem laws_markTreeS.mono_l : ∀ k, (∀ y0 y1, LeO (laws_markTreeS.f k y0 y1) (laws_markTreeS.f (k + 1) y0 y1)) ∧ (∀ y0 y1 y2, LeO (laws_markTreeS.l0 k y0 y1 y2) (laws_markTreeS.l0 (k + 1) y0 y1 y2))
 | 0 => ⟨fun _ _ r h => by simp [laws_markTreeS.f] at h, fun _ _ _ r h => by simp [laws_markTreeS.l0] at h⟩
 | k + 1 => by
  obtain ⟨ih0, ih1⟩ := laws_markTreeS.mono_l k
  refine ⟨?_, ?_⟩
  ·intro y0 y1
   unfold laws_markTreeS.f
   exact ih1 _ _ _
  ·intro y0 y1 y2
   unfold laws_markTreeS.l0
   exact LeO.ite (LeO.ite (LeO.bind (laws_markText.mono _ _) (fun _ => LeO.bind (laws_markText.mono _ _) (fun _ => LeO.bind (ih0 _ _) (fun _ => ih1 _ _ _)))) (LeO.refl _)) (LeO.refl _)
theorem laws_markTreeS.mono (a0 : List S53) (a1 : Int) (k : Nat) : LeO (laws_markTreeS.f k a0 a1) (laws_markTreeS.f (k + 1) a0 a1) := (laws_markTreeS.mono_l k).1 a0 a1
set_option maxHeartbeats 16000000 in
set_option maxRecDepth 100000 in
theorem laws_markTreeS.calls (k : Nat) : ∀ (v : Value) (l : List S53) (c r : Int) (base top n : Nat) (w : World) (hs : ShAt n base top w v l) (hb : base ≤ w.heap.size) (h : laws_markTreeS.f k l c = some r),
  Calls Try.prog 91 #[v, .int .i64 c] w fun e w' => e = .returned (.int .i64 r) ∧ Ag base top w w' := by
 induction k using Nat.strongRecOn with
 | _ k ih =>
 intro v l c r base top n w hs hb h
 cases k with
 | zero => exact absurd h (by simp [laws_markTreeS.f])
 | succ k =>
 simp only [laws_markTreeS.f] at h
 cases n with
 | zero => exact hs.elim
 | succ n =>
 have hu53 := Try.underlying53
 obtain ⟨A, cp, rfl, hs⟩ := hs
 have HS := Aside0.mk hs
 have HBS := Aside0.mk hb
 have H' := Aside0.mk h
 clear hs hb h
 go_enter Try.func91, Try.ntmps91
 go_wp2
 go_loopg [1, 5] k (fun kq v1 v5 w' => ∃ (i ci : Int), v5 = .int .i64 i ∧ v1 = .int .i64 ci ∧ Aside0 (laws_markTreeS.l0 kq l ci i = some r) ∧ Aside0 (kq ≤ k) ∧ Aside0 (Ag base top w w'))
 case atStart => exact ⟨0, c, rfl, rfl, H', ⟨Nat.le_refl _⟩, ⟨Ag.refl _ _ _⟩⟩
 case round =>
  clear H'
  obtain ⟨i, ci, rfl, rfl, HA, HK1, HG⟩ := hrel
  cases gk with
  | zero => exact absurd HA.out (by simp [laws_markTreeS.l0])
  | succ k1 =>
   have H := HA.out
   clear HA
   simp only [laws_markTreeS.l0] at H
   by_cases c5 : i < (l.length : Int)
   ·rw [if_pos c5] at H
    have c5b : decide (i < (l.length : Int)) = true := decide_eq_true c5
    by_cases c6 : 0 ≤ i
    ·rw [if_pos c6] at H
     obtain ⟨s1, hs1, H⟩ := Option.bind_eq_some_iff.mp H
     obtain ⟨s2, hs2, H⟩ := Option.bind_eq_some_iff.mp H
     obtain ⟨c2, ht, H⟩ := Option.bind_eq_some_iff.mp H
     have HS1 := Aside0.mk hs1
     have HS2 := Aside0.mk hs2
     have HT2 := Aside0.mk ht
     have H' := Aside0.mk H
     clear hs1 hs2 ht H
     obtain ⟨g, cs0, e, hg, hb0, hl0, hk0⟩ := HS.out (by omega)
     cases e
     obtain ⟨vk, hvk, hsk⟩ := hk0 i.toNat (rd_T53 l i) (by rw [rd_T53, List.getD_eq_getElem?_getD, List.getElem?_eq_getElem (by omega)];rfl)
     obtain ⟨cs, hbw, hsz, hcs⟩ := HG.out.2.2 g cs0 hg.1 hb0
     have hvk2 : cs[i.toNat * 4 + 3]? = some vk := (hcs _).trans hvk
     have HBW := Aside0.mk hbw
     have HGE := Aside0.mk hg
     have HSK := Aside0.mk (ShAt.ag n hsk HG.out)
     have HSZ := Aside0.mk (show i.toNat * 4 + 3 < cs.size by omega)
     have HBZ := Aside0.mk (Nat.le_trans HBS.out HG.out.1.size)
     obtain ⟨q0, hq0⟩ : ∃ q, cs[i.toNat * 4]? = some q := ⟨_, Array.getElem?_eq_getElem (by omega)⟩
     obtain ⟨q1, hq1⟩ : ∃ q, cs[i.toNat * 4 + 1]? = some q := ⟨_, Array.getElem?_eq_getElem (by omega)⟩
     obtain ⟨q2, hq2⟩ : ∃ q, cs[i.toNat * 4 + 2]? = some q := ⟨_, Array.getElem?_eq_getElem (by omega)⟩
     have Q0 := Aside0.mk hq0
     have Q1 := Aside0.mk hq1
     have Q2 := Aside0.mk hq2
     have Q3 := Aside0.mk hvk2
     have p0 := eq_true c6
     have p1 := eq_true c5
     have C5 := Aside0.mk c5
     clear hb0 hl0 hk0 hvk hsk hbw hsz hcs hvk2 hg hq0 hq1 hq2 c5 c6
     go_wp2_with (first
      | (go_at_call 121;(with_reducible refine (laws_markText.calls k1 ci s1 _ HS1.out).mono ?_);rintro e w2 ⟨rfl, hb2⟩;have HB2 := Aside0.mk hb2;have HBW2 := Aside0.mk (blk_below HBW.out hb2);have hx0 : w2.cell? ⟨g, i.toNat * 4, none⟩ = some q0 := (blk_cell HBW2.out _).trans Q0.out;have hf0 : w2.frozen? ⟨g, i.toNat * 4, none⟩ = false := blk_frozen HBW2.out _;clear hb2)
      | (go_at_call 121;(with_reducible refine (laws_markText.calls k1 (wrap64 (ci + 1)) s2 _ HS2.out).mono ?_);rintro e w3 ⟨rfl, hb3⟩;have HB3 := Aside0.mk hb3;have HBW3 := Aside0.mk (blk_below (blk_set HBW2.out (i.toNat * 4) (.string s1)) hb3);have hx1 : w3.cell? ⟨g, i.toNat * 4 + 1, none⟩ = some q1 := (blk_cell HBW3.out _).trans (by rw [Array.getElem?_setIfInBounds, if_neg (by omega)];exact Q1.out);have hf1 : w3.frozen? ⟨g, i.toNat * 4 + 1, none⟩ = false := blk_frozen HBW3.out _;have hx2 : w3.cell? ⟨g, i.toNat * 4 + 2, none⟩ = some q2 := (blk_cell HBW3.out _).trans (by rw [Array.getElem?_setIfInBounds, if_neg (by omega)];exact Q2.out);have hf2 : w3.frozen? ⟨g, i.toNat * 4 + 2, none⟩ = false := blk_frozen HBW3.out _;have hx3 : w3.cell? ⟨g, i.toNat * 4 + 3, none⟩ = some vk := (blk_cell HBW3.out _).trans (by rw [Array.getElem?_setIfInBounds, if_neg (by omega)];exact Q3.out);clear hb3)
      | (go_at_call 91;(have HA2 : Aside0 (Ag base top _ (w2.setCell ⟨g, i.toNat * 4, none⟩ (.string s1))) := ⟨(Ag.of_below HB2.out HBZ.out).trans (Ag.set (j := 0) HGE.out HBW2.out (by decide) (.string s1))⟩);(have HA3 : Aside0 (Ag base top _ w3) := ⟨HA2.out.trans (Ag.of_below HB3.out (Nat.le_trans HBZ.out HA2.out.1.size))⟩);(have HA4 : Aside0 (Ag base top _ ((w3.setCell ⟨g, i.toNat * 4 + 1, none⟩ (.string s2)).setCell ⟨g, i.toNat * 4 + 2, none⟩ (.bool ((wrap64 (wrap64 (ci + 1) + 1)).tmod 3 == 0)))) := ⟨(HA3.out.trans (Ag.set (j := 1) HGE.out HBW3.out (by decide) (.string s2))).trans (Ag.set (j := 2) HGE.out (blk_set HBW3.out (i.toNat * 4 + 1) (.string s2)) (by decide) (.bool ((wrap64 (wrap64 (ci + 1) + 1)).tmod 3 == 0)))⟩);(with_reducible refine (ih k1 (by have := HK1.out;omega) vk (rd_T53 l i).f3 _ c2 base top n _ ?sh ?bs HT2.out).mono ?_);(case sh => exact ShAt.ag n HSK.out HA4.out);(case bs => exact Nat.le_trans HBZ.out HA4.out.1.size);rintro e w5 ⟨rfl, ha5⟩;have HA5 := Aside0.mk ha5;clear ha5))
     go_roundg k1
     case measure => have := HK1.out;omega
     case rel => exact ⟨wrap64 (i + 1), c2, rfl, rfl, H', ⟨by have := HK1.out;omega⟩, ⟨HG.out.trans (HA4.out.trans HA5.out)⟩⟩
    ·rw [if_neg c6] at H
     exact absurd H (by simp)
   ·rw [if_neg c5] at H
    have c5b : decide (i < (l.length : Int)) = false := decide_eq_false c5
    simp only [Option.some.injEq] at H
    obtain rfl := H
    clear c5
    go_wp2
    go_ret
    exact ⟨rfl, HG.out⟩
end Go.Proofs.Ytgdecbliegelmaa.Q

namespace Go.Proofs.Ytgdecbliegelmaa.Q
open Go.RowKit Go.Proofs.YtgdecbliegelmaaW.PrintWords Go.Proofs.YtgdecbliegelmaaW.PrintLast Go.Proofs.YtgdecbliegelmaaW.PrintMore
attribute [local go_sem] max2_int min2_int max_two min_two max_three min_three max_four min_four   -- for this text's walks alone
set_option linter.unusedVariables false
set_option linter.unusedSimpArgs false
/-! ### laws_markIntS: function 45 -/
def laws_markIntS.l0 : Nat → List Int → Int → Int → Option (Int × List Int)
  | 0, _, _, _ => none
  | k + 1, x0, x1, x5 => if x5 < (x0.length : Int) then (if 0 ≤ x5 then (laws_markIntS.l0 k (x0.set (x5 : Int).toNat x1) (wrap64 (x1 + 1)) (wrap64 (x5 + 1))) else (none)) else (some (x1, x0))
def laws_markIntS.f (k : Nat) (l0 : List Int) (a1 : Int) : Option (Int × List Int) := laws_markIntS.l0 k l0 a1 0
theorem laws_markIntS.mono_l : ∀ k, (∀ y0 y1 y2, LeO (laws_markIntS.l0 k y0 y1 y2) (laws_markIntS.l0 (k + 1) y0 y1 y2))
 | 0 => fun _ _ _ r h => by simp [laws_markIntS.l0] at h
 | k + 1 => by
  have ih0 := laws_markIntS.mono_l k
  ·intro y0 y1 y2
   unfold laws_markIntS.l0
   repeat' first
   | (with_reducible exact ih0 _ _ _)
   | (with_reducible exact LeO.refl _)
   | (with_reducible exact LeO.none _)
   | (with_reducible refine LeO.ite ?_ ?_)
   | (with_reducible refine LeO.bind ?_ (fun _ => ?_))
   | exact ih0 _ _ _
   | exact LeO.none _
   | refine LeO.ite ?_ ?_
   | refine LeO.bind ?_ (fun _ => ?_)
theorem laws_markIntS.mono : ∀ a0 a1 k, LeO (laws_markIntS.f k a0 a1) (laws_markIntS.f (k + 1) a0 a1) := by
 intro a0 a1 k
 have ih0 := laws_markIntS.mono_l k
 unfold laws_markIntS.f
 repeat' first
   | (with_reducible exact ih0 _ _ _)
   | (with_reducible exact LeO.refl _)
   | (with_reducible exact LeO.none _)
   | (with_reducible refine LeO.ite ?_ ?_)
   | (with_reducible refine LeO.bind ?_ (fun _ => ?_))
   | exact ih0 _ _ _
   | exact LeO.none _
   | refine LeO.ite ?_ ?_
   | refine LeO.bind ?_ (fun _ => ?_)
set_option maxHeartbeats 8000000 in
set_option maxRecDepth 100000 in
theorem laws_markIntS.calls (k : Nat) (P0_ : Nat → Prop) (u9000_ : Value) (l0 : List Int) (a1 : Int) (r1 : Int) (r2 : List Int) (w0 w : World) (hB : Below w0.heap.size w0 w) (ho0 : Kd.R (Kd.int .i64) 3 w w0.heap.size P0_ u9000_ l0) (h : laws_markIntS.f k l0 a1 = some (r1, r2)) :
  Calls Try.prog 45 #[u9000_, .int .i64 a1] w fun e w' => e = .returned (.int .i64 r1) ∧ Kd.R (Kd.int .i64) 3 w' w0.heap.size (fun k_ => (P0_ k_ ∨ w.heap.size ≤ k_)) u9000_ r2 ∧ Below w0.heap.size w0 w' ∧ Kept w w' (fun k_ => P0_ k_) := by
 have HO0 := Aside0.mk (show Kd.R (Kd.int .i64) 3 w w0.heap.size (fun k_ => (P0_ k_ ∨ w.heap.size ≤ k_)) u9000_ l0 from Kd.R_mono ho0 (fun k_ hk => (.inl hk)))
 have HK := Aside0.mk (Kept.refl w (fun k_ => P0_ k_))
 have HW0 := Aside0.mk hB.size
 have HB := Aside0.mk hB
 clear hB
 have H : (laws_markIntS.l0 k l0 a1 0) = some (r1, r2) := h
 clear h
 have H' := Aside0.mk H
 clear H
 go_enter Try.func45, Try.ntmps45
 go_wp2
 go_loopg [1, 5] k (fun kq v1 v5 w' => ∃ (x0_1 : List Int) (x1_1 : Int) (x5_1 : Int), v1 = .int .i64 x1_1 ∧ v5 = .int .i64 x5_1 ∧ Aside0 (laws_markIntS.l0 kq x0_1 x1_1 x5_1 = some (r1, r2)) ∧ Aside0 (kq ≤ k) ∧ Aside0 (Kd.R (Kd.int .i64) 3 w' w0.heap.size (fun k_ => (P0_ k_ ∨ w.heap.size ≤ k_)) u9000_ x0_1) ∧ Aside0 (Kept w w' (fun k_ => P0_ k_)) ∧ Aside0 (Below w0.heap.size w0 w'))
 case atStart => exact ⟨(l0), (a1), (0), (by first|rfl|(simp;done)|(simp [*];done)), (by first|rfl|(simp;done)|(simp [*];done)), H', ⟨Nat.le_refl _⟩, ⟨by (with_reducible repeat (first|apply Kd.R_alloc|apply Kd.R_drewN|apply Kd.R_drew));exact HO0.out⟩, ⟨by repeat (first|(with_reducible first|exact HK.out|apply Kept.alloc|apply Kept.drewN|apply Kept.drew)|exact HK.out)⟩, ⟨by repeat (first|(with_reducible first|exact HB.out|apply below_alloc|apply pw_below_drewN|apply below_drew1)|exact HB.out)⟩⟩
 case round =>
  clear H'
  try clear p2
  obtain ⟨x0_1, x1_1, x5_1, rfl, rfl, HA, HK1, HO_0, HK, HB⟩ := hrel
  cases gk with
  | zero => exact absurd HA.out (by simp [laws_markIntS.l0])
  | succ k1 =>
   have H := HA.out
   clear HA
   simp only [laws_markIntS.l0] at H
   by_cases c3 : x5_1 < (x0_1.length : Int)
   ·rw [if_pos c3] at H
    have c3b0 : decide (x5_1 < (x0_1.length : Int)) = true := decide_eq_true c3
    clear c3
    by_cases c4 : 0 ≤ x5_1
    ·rw [if_pos c4] at H
     have c4b0 : decide (0 ≤ x5_1) = true := decide_eq_true c4
     clear c4
     obtain ⟨y101, hy101⟩ : ∃ y_ : List Int, y_ = (x0_1.set (x5_1 : Int).toNat x1_1) := ⟨_, rfl⟩
     replace H : (laws_markIntS.l0 k1 y101 (wrap64 (x1_1 + 1)) (wrap64 (x5_1 + 1))) = some (r1, r2) := by first|(rw [hy101];with_reducible exact H)|(have H2_ := (Option.bind_some _ _).symm.trans H;rw [hy101];with_reducible exact H2_)|(have H2_ := (Option.bind_some _ _).symm.trans H;with_reducible exact H2_)|with_reducible exact H|(rw [hy101];exact H)|exact H
     have Ny101 := Aside0.mk hy101
     clear hy101
     have H' := Aside0.mk H
     clear H
     obtain ⟨Ao6, co6, eo6⟩ := Kd.R_slice HO_0.out
     subst eo6
     have p5 : 0 ≤ (x5_1 : Int) := of_decide_eq_true (by first|(with_reducible assumption)|assumption)
     have q5 : (x5_1 : Int) < ((x0_1.length : Int) : Int) := of_decide_eq_true (by first|(with_reducible assumption)|assumption)
     obtain ⟨go5, co5, eo5, gb5, gl5, cl5, HG5⟩ := Kd.R_form HO_0.out (by omega)
     (first|cases eo5|(injection eo5 with ea_ en_ ec_;(first|subst ea_|(injection ea_ with ea_;subst ea_));subst ec_;clear en_))
     have GB5 := Aside0.mk gb5
     have GG5 := Aside0.mk HG5
     clear gb5 gl5 HG5
     have HMgo5 := Aside0.mk (show (P0_ go5 ∨ w.heap.size ≤ go5) from (HO_0.out.1 _ rfl))
     obtain ⟨hx5_0, hf5_0⟩ := Kd.R_celln 0 HO_0.out (x5_1 : Int) p5 q5
     replace p5 := eq_true p5
     replace q5 := eq_true q5
     have HP7 := Kd.R_putg HO_0.out (x5_1 : Int) x1_1
     go_wp2_with (first|((with_reducible refine gate_store (t := 3) (p := 15) rfl ?_);refine store_event (t := 3) (p := 15) (v := ?vo_w8) (w1 := (wr.setCell ⟨go5, (x5_1 : Int).toNat, none⟩ (.int .i64 x1_1))) ?hg ?ho ?hn ?hr ?_;(case ho => rfl);(case hg => rfl);(case hn => rfl);(case hr => first|(go_simp;done)|(go_simp;rfl));intro w8 hw;have hg : wr.grownBy w8 (some go5) := (by rw [hw];exact HP7.2);have hp_ : Kd.R (Kd.int .i64) 3 w8 w0.heap.size (fun k_ => (P0_ k_ ∨ w.heap.size ≤ k_)) (.slice (some ⟨go5, 0, none⟩) x0_1.length co6) y101 := (by rw [hw, Ny101.out];exact HP7.1);clear HP7;have n0_ := Aside0.mk (hp_);have n1_ := Aside0.mk ((by rw [hw];exact below_set (HB.out) GB5.out : Below w0.heap.size w0 w8));have n2_ := Aside0.mk (Kept.of_grown (S := (fun k_ => P0_ k_)) hg (by repeat (first|(with_reducible first|exact HK.out|apply Kept.alloc|apply Kept.drewN|apply Kept.drew)|exact HK.out)) (fun k_ e_ => (HO_0.out.1 k_ e_)));clear HO_0;clear HB;clear HK;have HO_0 := n0_;have HB := n1_;have HK := n2_;clear n0_ n1_ n2_;clear hg hw hp_))
     go_roundg k1
     case measure => have := HK1.out;omega
     case rel => exact ⟨(y101), (wrap64 (x1_1 + 1)), (wrap64 (x5_1 + 1)), (by first|rfl|(simp;done)|(simp [*];done)), (by first|rfl|(simp;done)|(simp [*];done)), H', ⟨by have := HK1.out;omega⟩, ⟨by (with_reducible repeat (first|apply Kd.R_alloc|apply Kd.R_drewN|apply Kd.R_drew));exact HO_0.out⟩, ⟨by repeat (first|(with_reducible first|exact HK.out|apply Kept.alloc|apply Kept.drewN|apply Kept.drew)|exact HK.out)⟩, ⟨by repeat (first|(with_reducible first|exact HB.out|apply below_alloc|apply pw_below_drewN|apply below_drew1)|exact HB.out)⟩⟩
    ·rw [if_neg c4] at H
     exact absurd H (by simp)
   ·rw [if_neg c3] at H
    have c3b0 : decide (x5_1 < (x0_1.length : Int)) = false := decide_eq_false c3
    clear c3
    simp only [Option.some.injEq, Prod.mk.injEq] at H
    obtain ⟨rfl, rfl⟩ := H
    obtain ⟨Ao9, co9, eo9⟩ := Kd.R_slice HO_0.out
    subst eo9
    go_wp2
    go_ret
    exact ⟨by first|rfl|(simp [errW_none, errW_some] <;> rfl)|(simp [*, errW_none, errW_some] <;> rfl), by (with_reducible repeat (first|apply Kd.R_alloc|apply Kd.R_drewN|apply Kd.R_drew));exact HO_0.out, by repeat (first|(with_reducible first|exact HB.out|apply below_alloc|apply pw_below_drewN|apply below_drew1)|exact HB.out), by repeat (first|(with_reducible first|exact HK.out|apply Kept.alloc|apply Kept.drewN|apply Kept.drew)|exact HK.out)⟩
end Go.Proofs.Ytgdecbliegelmaa.Q

/- Marks. -/
namespace Go.Proofs.Ytgdecbliegelmaa.Q
open Go.RowKit Go.Proofs.YtgdecbliegelmaaW.PrintWords Go.Proofs.YtgdecbliegelmaaW.PrintLast Go.Proofs.YtgdecbliegelmaaW.PrintMore
attribute [local go_sem] max2_int min2_int max_two min_two max_three min_three max_four min_four
set_option linter.unusedVariables false
set_option linter.unusedSimpArgs false
theorem shAt_of_R : ∀ (n : Nat) {base : Nat} {ok : Nat → Prop} {w : World} {v : Value} {xs : List S53}, SizeOf.sizeOf xs < n → Kd.R k53 53 w base ok v xs → ShAt n base w.heap.size w v xs
 | 0, _, _, _, _, _, h, _ => absurd h (by omega)
 | n + 1, base, ok, w, v, xs, h, hR => by
  obtain ⟨A, c, rfl⟩ := Kd.R_slice hR
  refine ⟨A, c, rfl, fun hp => ?_⟩
  obtain ⟨g, cap, e, hg, hl, cs, hb⟩ := Kd.R_form hR hp
  injection e with e1 _ _
  subst e1
  have key : ∀ i x, xs[i]? = some x → ∃ vk, cs[i * 4 + 3]? = some vk ∧ ShAt n base w.heap.size w vk x.f3 := by
   intro i x hx
   obtain ⟨hi, hx2⟩ := List.getElem?_eq_some_iff.mp hx
   obtain ⟨c2, hcl, hM, hcc, _⟩ := Kd.R_elem hR x (i : Int) (by omega) (by omega)
   have he : xs.getD ((i : Int).toNat) x = x := by rw [Int.toNat_natCast, List.getD_eq_getElem?_getD, hx];rfl
   rw [he] at hM
   obtain ⟨v3, rfl, hR3⟩ := k53_openM hM
   have h3 := hcc 3 v3 rfl
   rw [blk_cell hb] at h3
   have hsz : SizeOf.sizeOf x < SizeOf.sizeOf xs := List.sizeOf_lt_of_mem (hx2 ▸ List.getElem_mem hi)
   have hsz3 : SizeOf.sizeOf x.f3 < SizeOf.sizeOf x := by cases x;simp
   exact ⟨v3, h3, shAt_of_R n (by omega) hR3⟩
  refine ⟨g, cs, rfl, ⟨hg, hl⟩, hb, ?_, key⟩
  obtain ⟨vk, hvk, _⟩ := key (xs.length - 1) (xs[xs.length - 1]'(by omega)) (List.getElem?_eq_getElem _)
  have := (Array.getElem?_eq_some_iff.mp hvk).1
  omega
set_option maxHeartbeats 16000000 in
set_option maxRecDepth 100000 in
theorem laws_markTree.calls (k : Nat) (s0 s1 : ByteArray) (b : Bool) (v : Value) (l : List S53) (c r : Int) (base top n : Nat) (w : World) (hs : ShAt n base top w v l) (hb : base ≤ w.heap.size) (h : laws_markTreeS.f k l c = some r) :
  Calls Try.prog 50 #[.agg #[.string s0, .string s1, .bool b, v], .int .i64 c] w fun e w' => e = .returned (.int .i64 r) ∧ Ag base top w w' := by
 have hu53 := Try.underlying53
 obtain ⟨n', rfl⟩ : ∃ n', n = n' + 1 := by cases n with
  | zero => exact hs.elim
  | succ n => exact ⟨n, rfl⟩
 have HS := Aside0.mk hs
 have HB0 := Aside0.mk hb
 have hv : ∃ A c, v = .slice A l.length c := by obtain ⟨A, c, e, _⟩ := hs;exact ⟨A, c, e⟩
 obtain ⟨A, cp, rfl⟩ := hv
 have H' := Aside0.mk h
 clear hs hb h
 go_enter Try.func50, Try.ntmps50
 go_wp2_with (first
  | (go_at_call 91;(with_reducible refine (laws_markTreeS.calls k _ l c r base top _ _ (ShAt.ag _ HS.out (Ag.of_below (below_alloc (Below.refl _ _) _) HB0.out)) (Nat.le_trans HB0.out (below_alloc (Below.refl _ _) _).size) H'.out).mono ?_);rintro e w2 ⟨rfl, ha⟩;have HA := Aside0.mk ha;clear ha))
 go_ret
 exact ⟨rfl, (Ag.of_below (below_alloc (Below.refl _ _) _) HB0.out).trans HA.out⟩
def laws_markIntSS.l0 : Nat → List (List Int) → Int → Int → Option (Int × List (List Int))
  | 0, _, _, _ => none
  | k + 1, x0, x1, x5 => if x5 < (x0.length : Int) then (if 0 ≤ x5 then ((laws_markIntS.f k (rd_L6 x0 x5) x1).bind fun t => laws_markIntSS.l0 k (x0.set x5.toNat t.2) t.1 (wrap64 (x5 + 1))) else none) else some (x1, x0)
def laws_markIntSS.f (k : Nat) (l0 : List (List Int)) (a1 : Int) : Option (Int × List (List Int)) := laws_markIntSS.l0 k l0 a1 0
theorem laws_markIntSS.mono_l : ∀ k y0 y1 y2, LeO (laws_markIntSS.l0 k y0 y1 y2) (laws_markIntSS.l0 (k + 1) y0 y1 y2)
 | 0 => fun _ _ _ r h => by simp [laws_markIntSS.l0] at h
 | k + 1 => by
  intro y0 y1 y2
  unfold laws_markIntSS.l0
  exact LeO.ite (LeO.ite (LeO.bind (laws_markIntS.mono _ _ _) (fun _ => laws_markIntSS.mono_l k _ _ _)) (LeO.refl _)) (LeO.refl _)
theorem laws_markIntSS.mono (a0 : List (List Int)) (a1 : Int) (k : Nat) : LeO (laws_markIntSS.f k a0 a1) (laws_markIntSS.f (k + 1) a0 a1) := laws_markIntSS.mono_l k a0 a1 0
set_option maxHeartbeats 16000000 in
set_option maxRecDepth 100000 in
theorem laws_markIntSS.calls (k : Nat) (v : Value) (l : List (List Int)) (c r1 : Int) (r2 : List (List Int)) (w0 w : World) (hB : Below w0.heap.size w0 w) (hs : Kd.S (Kd.slice 3 (Kd.int .i64)) 62 w w0.heap.size (fun _ => True) v l) (h : laws_markIntSS.f k l c = some (r1, r2)) :
  Calls Try.prog 51 #[v, .int .i64 c] w fun e w' => e = .returned (.int .i64 r1) ∧ Kd.S (Kd.slice 3 (Kd.int .i64)) 62 w' w0.heap.size (fun _ => True) v r2 ∧ Below w0.heap.size w0 w' ∧ w.heap.size ≤ w'.heap.size := by
 have HS := Aside0.mk hs
 have HB := Aside0.mk hB
 have H' := Aside0.mk h
 clear hs hB h
 go_enter Try.func51, Try.ntmps51
 go_wp2
 go_loopg [1, 5] k (fun kq v1 v5 w' => ∃ (xs : List (List Int)) (ci i : Int), v5 = .int .i64 i ∧ v1 = .int .i64 ci ∧ Aside0 (laws_markIntSS.l0 kq xs ci i = some (r1, r2)) ∧ Aside0 (kq ≤ k) ∧ Aside0 (Kd.S (Kd.slice 3 (Kd.int .i64)) 62 w' w0.heap.size (fun _ => True) v xs) ∧ Aside0 (Below w0.heap.size w0 w') ∧ Aside0 (w.heap.size ≤ w'.heap.size))
 case atStart => exact ⟨l, c, 0, rfl, rfl, H', ⟨Nat.le_refl _⟩, HS, HB, ⟨Nat.le_refl _⟩⟩
 case round =>
  clear H' HS HB
  obtain ⟨xs, ci, i, rfl, rfl, HA, HK1, HS, HB, HZ⟩ := hrel
  obtain ⟨A, cp, rfl⟩ := Kd.R_slice (Kd.S_R HS.out)
  cases gk with
  | zero => exact absurd HA.out (by simp [laws_markIntSS.l0])
  | succ k1 =>
   have H := HA.out
   clear HA
   simp only [laws_markIntSS.l0] at H
   by_cases c5 : i < (xs.length : Int)
   ·rw [if_pos c5] at H
    have c5b : decide (i < (xs.length : Int)) = true := decide_eq_true c5
    by_cases c6 : 0 ≤ i
    ·rw [if_pos c6] at H
     obtain ⟨⟨t1, t2⟩, ht, H⟩ := Option.bind_eq_some_iff.mp H
     obtain ⟨x0, hx0⟩ : ∃ x0, rd_L6 xs i = x0 := ⟨_, rfl⟩
     rw [hx0] at ht
     have HT := Aside0.mk ht
     have H' := Aside0.mk H
     clear ht H
     obtain ⟨g, cp2, e, hg, hl, cs0, hb0⟩ := Kd.R_form (Kd.S_R HS.out) (by omega)
     injection e with e1 _ e3
     subst e1 e3
     obtain ⟨oki, c2, hcl, hM, hcc, hoki, hH⟩ := Kd.S_lend HS.out ([] : List Int) i c6 c5
     obtain ⟨vk, rfl, hRk⟩ := hM
     have hx : _ = some vk := hcc 0 vk rfl
     simp only [Kd.slice, Nat.mul_one, Nat.add_zero] at hx
     have hRk2 : (Kd.int .i64).R 3 wr w0.heap.size oki vk x0 := by rw [← hx0];exact hRk
     have HM := Aside0.mk hRk2
     have HH := Aside0.mk hH
     have p0 := eq_true c6
     have p1 := eq_true c5
     obtain ⟨Ak, ck, rfl⟩ := Kd.R_slice hRk2
     clear hx0 hRk2 hg hl hb0 hcl hcc hoki hH c5 c6 hRk
     go_wp2_with (first
      | (go_at_call 45;(with_reducible refine (laws_markIntS.calls k1 oki _ _ ci t1 t2 w0 _ HB.out HM.out HT.out).mono ?_);rintro e w2 ⟨rfl, hr2, hb2, hk2⟩;have HR2 := Aside0.mk hr2;have HB2 := Aside0.mk hb2;have HK2 := Aside0.mk hk2;clear hr2 hb2 hk2))
     go_roundg k1
     case measure => have := HK1.out;omega
     case rel => exact ⟨_, t1, wrap64 (i + 1), rfl, rfl, H', ⟨by have := HK1.out;omega⟩, ⟨Kd.H_back (Kd.H_step (Kd.H_widen HH.out) (fun j _ hn hlt => HK2.out.2 j hlt (fun hp => hn (.inl hp)))) ⟨_, rfl, HR2.out⟩ (fun j hj => hj.elim .inl (fun h2 => .inr ⟨trivial, h2⟩))⟩, HB2, ⟨Nat.le_trans HZ.out HK2.out.1⟩⟩
    ·rw [if_neg c6] at H
     exact absurd H (by simp)
   ·rw [if_neg c5] at H
    have c5b : decide (i < (xs.length : Int)) = false := decide_eq_false c5
    simp only [Option.some.injEq, Prod.mk.injEq] at H
    obtain ⟨rfl, rfl⟩ := H
    clear c5
    go_wp2
    go_ret
    exact ⟨rfl, HS.out, HB.out, HZ.out⟩
end Go.Proofs.Ytgdecbliegelmaa.Q

namespace Go.Proofs.Ytgdecbliegelmaa.Q
open Go.RowKit Go.Proofs.YtgdecbliegelmaaW.PrintWords Go.Proofs.YtgdecbliegelmaaW.PrintLast Go.Proofs.YtgdecbliegelmaaW.PrintMore
attribute [local go_sem] max2_int min2_int max_two min_two max_three min_three max_four min_four   -- for this text's walks alone
set_option linter.unusedVariables false
set_option linter.unusedSimpArgs false
/-! ### laws_heldIntS: function 46 -/
def laws_heldIntS.l0 : Nat → List Int → Int → Int → Option (Int)
  | 0, _, _, _ => none
  | k + 1, x0, x1, x5 => if x5 < (x0.length : Int) then (if 0 ≤ x5 then (if (rd x0 x5) = x1 then (laws_heldIntS.l0 k x0 (wrap64 (x1 + 1)) (wrap64 (x5 + 1))) else (some (-1))) else (none)) else (some x1)
def laws_heldIntS.f (k : Nat) (l0 : List Int) (a1 : Int) : Option (Int) := laws_heldIntS.l0 k l0 a1 0
theorem laws_heldIntS.mono_l : ∀ k, (∀ y0 y1 y2, LeO (laws_heldIntS.l0 k y0 y1 y2) (laws_heldIntS.l0 (k + 1) y0 y1 y2))
 | 0 => fun _ _ _ r h => by simp [laws_heldIntS.l0] at h
 | k + 1 => by
  have ih0 := laws_heldIntS.mono_l k
  ·intro y0 y1 y2
   unfold laws_heldIntS.l0
   repeat' first
   | (with_reducible exact ih0 _ _ _)
   | (with_reducible exact LeO.refl _)
   | (with_reducible exact LeO.none _)
   | (with_reducible refine LeO.ite ?_ ?_)
   | (with_reducible refine LeO.bind ?_ (fun _ => ?_))
   | exact ih0 _ _ _
   | exact LeO.none _
   | refine LeO.ite ?_ ?_
   | refine LeO.bind ?_ (fun _ => ?_)
theorem laws_heldIntS.mono : ∀ a0 a1 k, LeO (laws_heldIntS.f k a0 a1) (laws_heldIntS.f (k + 1) a0 a1) := by
 intro a0 a1 k
 have ih0 := laws_heldIntS.mono_l k
 unfold laws_heldIntS.f
 repeat' first
   | (with_reducible exact ih0 _ _ _)
   | (with_reducible exact LeO.refl _)
   | (with_reducible exact LeO.none _)
   | (with_reducible refine LeO.ite ?_ ?_)
   | (with_reducible refine LeO.bind ?_ (fun _ => ?_))
   | exact ih0 _ _ _
   | exact LeO.none _
   | refine LeO.ite ?_ ?_
   | refine LeO.bind ?_ (fun _ => ?_)
set_option maxHeartbeats 8000000 in
set_option maxRecDepth 100000 in
theorem laws_heldIntS.calls (k : Nat) (A0 : Option Addr) (c0 : Nat) (l0 : List Int) (a1 : Int) (r : Int) (w : World) (hr0 : Kd.C (Kd.int .i64) w A0 l0.length l0) (hc0 : l0.length ≤ c0) (h : laws_heldIntS.f k l0 a1 = some r) :
  Calls Try.prog 46 #[.slice A0 l0.length c0, .int .i64 a1] w fun e w' => e = .returned (.int .i64 r) ∧ Drawn0 w w' := by
 have HR0 := Aside0.mk hr0
 have HC0 := Aside0.mk hc0
 clear hr0 hc0
 have H : (laws_heldIntS.l0 k l0 a1 0) = some r := h
 clear h
 have H' := Aside0.mk H
 clear H
 go_enter Try.func46, Try.ntmps46
 go_wp2
 go_loopg [1, 5] k (fun kq v1 v5 w' => ∃ (x1_1 : Int) (x5_1 : Int), v1 = .int .i64 x1_1 ∧ v5 = .int .i64 x5_1 ∧ Aside0 (laws_heldIntS.l0 kq l0 x1_1 x5_1 = some r) ∧ Aside0 (kq ≤ k) ∧ Drawn0 w w')
 case atStart => exact ⟨(a1), (0), (by first|rfl|(simp;done)|(simp [*];done)), (by first|rfl|(simp;done)|(simp [*];done)), H', ⟨Nat.le_refl _⟩, by repeat (first|exact Drawn0.refl _|apply Drawn0.step)⟩
 case round =>
  clear H'
  try clear p2
  obtain ⟨x1_1, x5_1, rfl, rfl, HA, HK1, ⟨m1, rfl⟩⟩ := hrel
  cases gk with
  | zero => exact absurd HA.out (by simp [laws_heldIntS.l0])
  | succ k1 =>
   have H := HA.out
   clear HA
   simp only [laws_heldIntS.l0] at H
   by_cases c3 : x5_1 < (l0.length : Int)
   ·rw [if_pos c3] at H
    have c3b0 : decide (x5_1 < (l0.length : Int)) = true := decide_eq_true c3
    clear c3
    by_cases c4 : 0 ≤ x5_1
    ·rw [if_pos c4] at H
     have c4b0 : decide (0 ≤ x5_1) = true := decide_eq_true c4
     clear c4
     by_cases c5 : (rd l0 x5_1) = x1_1
     ·rw [if_pos c5] at H
      have c5b0 : ((rd l0 x5_1) == x1_1) = true := beq_iff_eq.mpr c5
      have c5b1 : ((rd l0 x5_1) != x1_1) = false := bne_eq_false_iff_eq.mpr c5
      clear c5
      have H' := Aside0.mk H
      clear H
      have p101 : 0 ≤ (x5_1 : Int) := of_decide_eq_true (by first|(with_reducible assumption)|assumption)
      have q101 : x5_1 < (l0.length : Int) := of_decide_eq_true (by first|(with_reducible assumption)|assumption)
      obtain ⟨ad101, e101, hx101_0⟩ := Kd.at_int HR0.out x5_1 p101 q101
      cases e101
      replace p101 := eq_true p101
      replace q101 := eq_true q101
      go_wp2
      go_roundg k1
      case measure => have := HK1.out;omega
      case rel => exact ⟨(wrap64 (x1_1 + 1)), (wrap64 (x5_1 + 1)), (by first|rfl|(simp;done)|(simp [*];done)), (by first|rfl|(simp;done)|(simp [*];done)), H', ⟨by have := HK1.out;omega⟩, by repeat (first|exact Drawn0.refl _|apply Drawn0.step)⟩
     ·rw [if_neg c5] at H
      have c5b0 : ((rd l0 x5_1) == x1_1) = false := beq_eq_false_iff_ne.mpr c5
      have c5b1 : ((rd l0 x5_1) != x1_1) = true := bne_iff_ne.mpr c5
      obtain rfl := Option.some.inj H
      have p101 : 0 ≤ (x5_1 : Int) := of_decide_eq_true (by first|(with_reducible assumption)|assumption)
      have q101 : x5_1 < (l0.length : Int) := of_decide_eq_true (by first|(with_reducible assumption)|assumption)
      obtain ⟨ad101, e101, hx101_0⟩ := Kd.at_int HR0.out x5_1 p101 q101
      cases e101
      replace p101 := eq_true p101
      replace q101 := eq_true q101
      go_wp2
      go_ret
      exact ⟨by first|rfl|(simp;done)|(simp [*];done), by repeat (first|exact Drawn0.refl _|apply Drawn0.step)⟩
    ·rw [if_neg c4] at H
     exact absurd H (by simp)
   ·rw [if_neg c3] at H
    have c3b0 : decide (x5_1 < (l0.length : Int)) = false := decide_eq_false c3
    clear c3
    obtain rfl := Option.some.inj H
    go_wp2
    go_ret
    exact ⟨by first|rfl|(simp;done)|(simp [*];done), by repeat (first|exact Drawn0.refl _|apply Drawn0.step)⟩
end Go.Proofs.Ytgdecbliegelmaa.Q

namespace Go.Proofs.Ytgdecbliegelmaa.Q
open Go.RowKit Go.Proofs.YtgdecbliegelmaaW.PrintWords Go.Proofs.YtgdecbliegelmaaW.PrintLast Go.Proofs.YtgdecbliegelmaaW.PrintMore
attribute [local go_sem] max2_int min2_int max_two min_two max_three min_three max_four min_four   -- for this text's walks alone
set_option linter.unusedVariables false
set_option linter.unusedSimpArgs false
/-! ### laws_heldIntSS: function 52 -/
def laws_heldIntSS.l0 : Nat → List (List Int) → Int → Int → Option (Int)
  | 0, _, _, _ => none
  | k + 1, x0, x1, x5 => if x5 < (x0.length : Int) then (if 0 ≤ x5 then ((laws_heldIntS.f k (rd_L6 x0 x5) x1).bind fun t102 => (if t102 < 0 then (some (-1)) else (laws_heldIntSS.l0 k x0 t102 (wrap64 (x5 + 1))))) else (none)) else (some x1)
def laws_heldIntSS.f (k : Nat) (l0 : List (List Int)) (a1 : Int) : Option (Int) := laws_heldIntSS.l0 k l0 a1 0
theorem laws_heldIntSS.mono_l : ∀ k, (∀ y0 y1 y2, LeO (laws_heldIntSS.l0 k y0 y1 y2) (laws_heldIntSS.l0 (k + 1) y0 y1 y2))
 | 0 => fun _ _ _ r h => by simp [laws_heldIntSS.l0] at h
 | k + 1 => by
  have ih0 := laws_heldIntSS.mono_l k
  ·intro y0 y1 y2
   unfold laws_heldIntSS.l0
   repeat' first
   | (with_reducible exact ih0 _ _ _)
   | (with_reducible exact laws_heldIntS.mono _ _ _)
   | (with_reducible exact LeO.refl _)
   | (with_reducible exact LeO.none _)
   | (with_reducible refine LeO.ite ?_ ?_)
   | (with_reducible refine LeO.bind ?_ (fun _ => ?_))
   | exact ih0 _ _ _
   | exact laws_heldIntS.mono _ _ _
   | exact LeO.none _
   | refine LeO.ite ?_ ?_
   | refine LeO.bind ?_ (fun _ => ?_)
theorem laws_heldIntSS.mono : ∀ a0 a1 k, LeO (laws_heldIntSS.f k a0 a1) (laws_heldIntSS.f (k + 1) a0 a1) := by
 intro a0 a1 k
 have ih0 := laws_heldIntSS.mono_l k
 unfold laws_heldIntSS.f
 repeat' first
   | (with_reducible exact ih0 _ _ _)
   | (with_reducible exact laws_heldIntS.mono _ _ _)
   | (with_reducible exact LeO.refl _)
   | (with_reducible exact LeO.none _)
   | (with_reducible refine LeO.ite ?_ ?_)
   | (with_reducible refine LeO.bind ?_ (fun _ => ?_))
   | exact ih0 _ _ _
   | exact laws_heldIntS.mono _ _ _
   | exact LeO.none _
   | refine LeO.ite ?_ ?_
   | refine LeO.bind ?_ (fun _ => ?_)
set_option maxHeartbeats 8000000 in
set_option maxRecDepth 100000 in
theorem laws_heldIntSS.calls (k : Nat) (A0 : Option Addr) (c0 : Nat) (l0 : List (List Int)) (a1 : Int) (r : Int) (w : World) (hr0 : Kd.C (Kd.slice 3 (Kd.int .i64)) w A0 l0.length l0) (hc0 : l0.length ≤ c0) (h : laws_heldIntSS.f k l0 a1 = some r) :
  Calls Try.prog 52 #[.slice A0 l0.length c0, .int .i64 a1] w fun e w' => e = .returned (.int .i64 r) ∧ Drawn0 w w' := by
 have HR0 := Aside0.mk hr0
 have HC0 := Aside0.mk hc0
 clear hr0 hc0
 have H : (laws_heldIntSS.l0 k l0 a1 0) = some r := h
 clear h
 have H' := Aside0.mk H
 clear H
 go_enter Try.func52, Try.ntmps52
 go_wp2
 go_loopg [1, 5] k (fun kq v1 v5 w' => ∃ (x1_1 : Int) (x5_1 : Int), v1 = .int .i64 x1_1 ∧ v5 = .int .i64 x5_1 ∧ Aside0 (laws_heldIntSS.l0 kq l0 x1_1 x5_1 = some r) ∧ Aside0 (kq ≤ k) ∧ Drawn0 w w')
 case atStart => exact ⟨(a1), (0), (by first|rfl|(simp;done)|(simp [*];done)), (by first|rfl|(simp;done)|(simp [*];done)), H', ⟨Nat.le_refl _⟩, by repeat (first|exact Drawn0.refl _|apply Drawn0.step)⟩
 case round =>
  clear H'
  try clear p2
  obtain ⟨x1_1, x5_1, rfl, rfl, HA, HK1, ⟨m1, rfl⟩⟩ := hrel
  cases gk with
  | zero => exact absurd HA.out (by simp [laws_heldIntSS.l0])
  | succ k1 =>
   have H := HA.out
   clear HA
   simp only [laws_heldIntSS.l0] at H
   by_cases c3 : x5_1 < (l0.length : Int)
   ·rw [if_pos c3] at H
    have c3b0 : decide (x5_1 < (l0.length : Int)) = true := decide_eq_true c3
    clear c3
    by_cases c4 : 0 ≤ x5_1
    ·rw [if_pos c4] at H
     have c4b0 : decide (0 ≤ x5_1) = true := decide_eq_true c4
     clear c4
     replace H := Option.bind_eq_some_iff.mp H
     obtain ⟨t102, A50, H⟩ := H
     replace H : (if t102 < 0 then (some (-1)) else (laws_heldIntSS.l0 k1 l0 t102 (wrap64 (x5_1 + 1)))) = some r := H
     have A5 := Aside0.mk A50
     clear A50
     by_cases c6 : t102 < 0
     ·rw [if_pos c6] at H
      have c6b0 : decide (t102 < 0) = true := decide_eq_true c6
      clear c6
      obtain rfl := Option.some.inj H
      have p101 : 0 ≤ (x5_1 : Int) := of_decide_eq_true (by first|(with_reducible assumption)|assumption)
      have q101 : x5_1 < (l0.length : Int) := of_decide_eq_true (by first|(with_reducible assumption)|assumption)
      obtain ⟨ad101, A101_0, c101_0, e101, hx101_0, hl101_0, hi101_0⟩ := at_L6 HR0.out x5_1 p101 q101
      cases e101
      have HR101_0 := Aside0.mk hi101_0
      have HC101_0 := Aside0.mk hl101_0
      clear hi101_0 hl101_0
      replace p101 := eq_true p101
      replace q101 := eq_true q101
      go_wp2_with (first|((with_reducible refine gate_callee (f := 46) rfl ?_);refine goesL_ (some 17) rfl rfl Try.func46 (by kernel_rfl) rfl #[.slice A101_0 (rd_L6 l0 x5_1).length c101_0, .int .i64 x1_1] rfl (by (try simp only [List.map_toArray, List.map_cons, List.map_nil]);first|done|rfl|(simp only [List.length_drop, List.length_take];rfl)) ?_;(with_reducible refine (laws_heldIntS.calls k1 _ _ (rd_L6 l0 x5_1) x1_1 t102 _ ?side1 ?side2 A5.out).mono ?_);(case side1 => repeat (first|exact HR101_0.out|(with_reducible refine Kd.C_alloc ?_ _)|(with_reducible refine Kd.C_drewN ?_ _)|(with_reducible refine Kd.C_drew ?_)));(case side2 => exact HC101_0.out);rintro e w' ⟨rfl, ⟨nd, rfl⟩⟩;refine ⟨_, rfl, ?_⟩))
      go_ret
      exact ⟨by first|rfl|(simp;done)|(simp [*];done), by repeat (first|exact Drawn0.refl _|apply Drawn0.step)⟩
     ·rw [if_neg c6] at H
      have c6b0 : decide (t102 < 0) = false := decide_eq_false c6
      clear c6
      have H' := Aside0.mk H
      clear H
      have p101 : 0 ≤ (x5_1 : Int) := of_decide_eq_true (by first|(with_reducible assumption)|assumption)
      have q101 : x5_1 < (l0.length : Int) := of_decide_eq_true (by first|(with_reducible assumption)|assumption)
      obtain ⟨ad101, A101_0, c101_0, e101, hx101_0, hl101_0, hi101_0⟩ := at_L6 HR0.out x5_1 p101 q101
      cases e101
      have HR101_0 := Aside0.mk hi101_0
      have HC101_0 := Aside0.mk hl101_0
      clear hi101_0 hl101_0
      replace p101 := eq_true p101
      replace q101 := eq_true q101
      go_wp2_with (first|((with_reducible refine gate_callee (f := 46) rfl ?_);refine goesL_ (some 17) rfl rfl Try.func46 (by kernel_rfl) rfl #[.slice A101_0 (rd_L6 l0 x5_1).length c101_0, .int .i64 x1_1] rfl (by (try simp only [List.map_toArray, List.map_cons, List.map_nil]);first|done|rfl|(simp only [List.length_drop, List.length_take];rfl)) ?_;(with_reducible refine (laws_heldIntS.calls k1 _ _ (rd_L6 l0 x5_1) x1_1 t102 _ ?side1 ?side2 A5.out).mono ?_);(case side1 => repeat (first|exact HR101_0.out|(with_reducible refine Kd.C_alloc ?_ _)|(with_reducible refine Kd.C_drewN ?_ _)|(with_reducible refine Kd.C_drew ?_)));(case side2 => exact HC101_0.out);rintro e w' ⟨rfl, ⟨nd, rfl⟩⟩;refine ⟨_, rfl, ?_⟩))
      go_roundg k1
      case measure => have := HK1.out;omega
      case rel => exact ⟨(t102), (wrap64 (x5_1 + 1)), (by first|rfl|(simp;done)|(simp [*];done)), (by first|rfl|(simp;done)|(simp [*];done)), H', ⟨by have := HK1.out;omega⟩, by repeat (first|exact Drawn0.refl _|apply Drawn0.step)⟩
    ·rw [if_neg c4] at H
     exact absurd H (by simp)
   ·rw [if_neg c3] at H
    have c3b0 : decide (x5_1 < (l0.length : Int)) = false := decide_eq_false c3
    clear c3
    obtain rfl := Option.some.inj H
    go_wp2
    go_ret
    exact ⟨by first|rfl|(simp;done)|(simp [*];done), by repeat (first|exact Drawn0.refl _|apply Drawn0.step)⟩
end Go.Proofs.Ytgdecbliegelmaa.Q

namespace Go.Proofs.Ytgdecbliegelmaa.Q
open Go.RowKit Go.Proofs.YtgdecbliegelmaaW.PrintWords Go.Proofs.YtgdecbliegelmaaW.PrintLast Go.Proofs.YtgdecbliegelmaaW.PrintMore
attribute [local go_sem] max2_int min2_int max_two min_two max_three min_three max_four min_four   -- for this text's walks alone
set_option linter.unusedVariables false
set_option linter.unusedSimpArgs false
/-! ### laws_eqIntS: function 44 -/
def laws_eqIntS.l0 : Nat → List Int → List Int → Int → Option (Bool)
  | 0, _, _, _ => none
  | k + 1, x0, x1, x5 => if x5 < (x0.length : Int) then (if 0 ≤ x5 then (if x5 < (x1.length : Int) then (if (rd x0 x5) = (rd x1 x5) then (laws_eqIntS.l0 k x0 x1 (wrap64 (x5 + 1))) else (some false)) else (none)) else (none)) else (some true)
def laws_eqIntS.f (k : Nat) (l0 : List Int) (l1 : List Int) : Option (Bool) := if (l0.length : Int) = (l1.length : Int) then (laws_eqIntS.l0 k l0 l1 0) else (some false)
theorem laws_eqIntS.mono_l : ∀ k, (∀ y0 y1 y2, LeO (laws_eqIntS.l0 k y0 y1 y2) (laws_eqIntS.l0 (k + 1) y0 y1 y2))
 | 0 => fun _ _ _ r h => by simp [laws_eqIntS.l0] at h
 | k + 1 => by
  have ih0 := laws_eqIntS.mono_l k
  ·intro y0 y1 y2
   unfold laws_eqIntS.l0
   repeat' first
   | (with_reducible exact ih0 _ _ _)
   | (with_reducible exact LeO.refl _)
   | (with_reducible exact LeO.none _)
   | (with_reducible refine LeO.ite ?_ ?_)
   | (with_reducible refine LeO.bind ?_ (fun _ => ?_))
   | exact ih0 _ _ _
   | exact LeO.none _
   | refine LeO.ite ?_ ?_
   | refine LeO.bind ?_ (fun _ => ?_)
theorem laws_eqIntS.mono : ∀ a0 a1 k, LeO (laws_eqIntS.f k a0 a1) (laws_eqIntS.f (k + 1) a0 a1) := by
 intro a0 a1 k
 have ih0 := laws_eqIntS.mono_l k
 unfold laws_eqIntS.f
 repeat' first
   | (with_reducible exact ih0 _ _ _)
   | (with_reducible exact LeO.refl _)
   | (with_reducible exact LeO.none _)
   | (with_reducible refine LeO.ite ?_ ?_)
   | (with_reducible refine LeO.bind ?_ (fun _ => ?_))
   | exact ih0 _ _ _
   | exact LeO.none _
   | refine LeO.ite ?_ ?_
   | refine LeO.bind ?_ (fun _ => ?_)
set_option maxHeartbeats 8000000 in
set_option maxRecDepth 100000 in
theorem laws_eqIntS.calls (k : Nat) (A0 : Option Addr) (c0 : Nat) (l0 : List Int) (A1 : Option Addr) (c1 : Nat) (l1 : List Int) (r : Bool) (w : World) (hr0 : Kd.C (Kd.int .i64) w A0 l0.length l0) (hc0 : l0.length ≤ c0) (hr1 : Kd.C (Kd.int .i64) w A1 l1.length l1) (hc1 : l1.length ≤ c1) (h : laws_eqIntS.f k l0 l1 = some r) :
  Calls Try.prog 44 #[.slice A0 l0.length c0, .slice A1 l1.length c1] w fun e w' => e = .returned (.bool r) ∧ Drawn0 w w' := by
 have HR0 := Aside0.mk hr0
 have HC0 := Aside0.mk hc0
 clear hr0 hc0
 have HR1 := Aside0.mk hr1
 have HC1 := Aside0.mk hc1
 clear hr1 hc1
 have H : (if (l0.length : Int) = (l1.length : Int) then (laws_eqIntS.l0 k l0 l1 0) else (some false)) = some r := h
 clear h
 by_cases c3 : (l0.length : Int) = (l1.length : Int)
 ·rw [if_pos c3] at H
  have c3b0 : ((l0.length : Int) == (l1.length : Int)) = true := beq_iff_eq.mpr c3
  have c3b1 : ((l0.length : Int) != (l1.length : Int)) = false := bne_eq_false_iff_eq.mpr c3
  have c3b2 : (l0.length == l1.length) = true := by first|simpa using c3|(simp at c3 ⊢;omega)
  clear c3
  have H' := Aside0.mk H
  clear H
  go_enter Try.func44, Try.ntmps44
  go_wp2
  repeat (go_quiet (fail);try go_wp2)
  go_loopg [5] k (fun kq v5 w' => ∃ (x5_1 : Int), v5 = .int .i64 x5_1 ∧ Aside0 (laws_eqIntS.l0 kq l0 l1 x5_1 = some r) ∧ Aside0 (kq ≤ k) ∧ Drawn0 w w')
  case atStart => exact ⟨(0), (by first|rfl|(simp;done)|(simp [*];done)), H', ⟨Nat.le_refl _⟩, by repeat (first|exact Drawn0.refl _|apply Drawn0.step)⟩
  case round =>
   clear H'
   try clear c1
   try clear p2
   try clear c3
   try clear c3b0
   try clear c3b1
   try clear c3b2
   obtain ⟨x5_1, rfl, HA, HK1, ⟨m1, rfl⟩⟩ := hrel
   cases gk with
   | zero => exact absurd HA.out (by simp [laws_eqIntS.l0])
   | succ k1 =>
    have H := HA.out
    clear HA
    simp only [laws_eqIntS.l0] at H
    by_cases c4 : x5_1 < (l0.length : Int)
    ·rw [if_pos c4] at H
     have c4b0 : decide (x5_1 < (l0.length : Int)) = true := decide_eq_true c4
     clear c4
     by_cases c5 : 0 ≤ x5_1
     ·rw [if_pos c5] at H
      have c5b0 : decide (0 ≤ x5_1) = true := decide_eq_true c5
      clear c5
      by_cases c6 : x5_1 < (l1.length : Int)
      ·rw [if_pos c6] at H
       have c6b0 : decide (x5_1 < (l1.length : Int)) = true := decide_eq_true c6
       clear c6
       by_cases c7 : (rd l0 x5_1) = (rd l1 x5_1)
       ·rw [if_pos c7] at H
        have c7b0 : ((rd l0 x5_1) == (rd l1 x5_1)) = true := beq_iff_eq.mpr c7
        have c7b1 : ((rd l0 x5_1) != (rd l1 x5_1)) = false := bne_eq_false_iff_eq.mpr c7
        clear c7
        have H' := Aside0.mk H
        clear H
        have p101 : 0 ≤ (x5_1 : Int) := of_decide_eq_true (by first|(with_reducible assumption)|assumption)
        have q101 : x5_1 < (l0.length : Int) := of_decide_eq_true (by first|(with_reducible assumption)|assumption)
        obtain ⟨ad101, e101, hx101_0⟩ := Kd.at_int HR0.out x5_1 p101 q101
        cases e101
        replace p101 := eq_true p101
        replace q101 := eq_true q101
        have p102 : 0 ≤ (x5_1 : Int) := of_decide_eq_true (by first|(with_reducible assumption)|assumption)
        have q102 : x5_1 < (l1.length : Int) := of_decide_eq_true (by first|(with_reducible assumption)|assumption)
        obtain ⟨ad102, e102, hx102_0⟩ := Kd.at_int HR1.out x5_1 p102 q102
        cases e102
        replace p102 := eq_true p102
        replace q102 := eq_true q102
        go_wp2
        repeat (go_quiet (fail);try go_wp2)
        go_roundg k1
        case measure => have := HK1.out;omega
        case rel => exact ⟨(wrap64 (x5_1 + 1)), (by first|rfl|(simp;done)|(simp [*];done)), H', ⟨by have := HK1.out;omega⟩, by repeat (first|exact Drawn0.refl _|apply Drawn0.step)⟩
       ·rw [if_neg c7] at H
        have c7b0 : ((rd l0 x5_1) == (rd l1 x5_1)) = false := beq_eq_false_iff_ne.mpr c7
        have c7b1 : ((rd l0 x5_1) != (rd l1 x5_1)) = true := bne_iff_ne.mpr c7
        obtain rfl := Option.some.inj H
        have p101 : 0 ≤ (x5_1 : Int) := of_decide_eq_true (by first|(with_reducible assumption)|assumption)
        have q101 : x5_1 < (l0.length : Int) := of_decide_eq_true (by first|(with_reducible assumption)|assumption)
        obtain ⟨ad101, e101, hx101_0⟩ := Kd.at_int HR0.out x5_1 p101 q101
        cases e101
        replace p101 := eq_true p101
        replace q101 := eq_true q101
        have p102 : 0 ≤ (x5_1 : Int) := of_decide_eq_true (by first|(with_reducible assumption)|assumption)
        have q102 : x5_1 < (l1.length : Int) := of_decide_eq_true (by first|(with_reducible assumption)|assumption)
        obtain ⟨ad102, e102, hx102_0⟩ := Kd.at_int HR1.out x5_1 p102 q102
        cases e102
        replace p102 := eq_true p102
        replace q102 := eq_true q102
        go_wp2
        repeat (go_quiet (fail);try go_wp2)
        go_ret
        exact ⟨by first|rfl|(simp;done)|(simp [*];done), by repeat (first|exact Drawn0.refl _|apply Drawn0.step)⟩
      ·rw [if_neg c6] at H
       exact absurd H (by simp)
     ·rw [if_neg c5] at H
      exact absurd H (by simp)
    ·rw [if_neg c4] at H
     have c4b0 : decide (x5_1 < (l0.length : Int)) = false := decide_eq_false c4
     clear c4
     obtain rfl := Option.some.inj H
     go_wp2
     repeat (go_quiet (fail);try go_wp2)
     go_ret
     exact ⟨by first|rfl|(simp;done)|(simp [*];done), by repeat (first|exact Drawn0.refl _|apply Drawn0.step)⟩
 ·rw [if_neg c3] at H
  have c3b0 : ((l0.length : Int) == (l1.length : Int)) = false := beq_eq_false_iff_ne.mpr c3
  have c3b1 : ((l0.length : Int) != (l1.length : Int)) = true := bne_iff_ne.mpr c3
  have c3b2 : (l0.length == l1.length) = false := by first|simpa using c3|(simp at c3 ⊢;omega)
  obtain rfl := Option.some.inj H
  go_enter Try.func44, Try.ntmps44
  go_wp2
  repeat (go_quiet (fail);try go_wp2)
  go_ret
  exact ⟨by first|rfl|(simp;done)|(simp [*];done), by repeat (first|exact Drawn0.refl _|apply Drawn0.step)⟩
end Go.Proofs.Ytgdecbliegelmaa.Q

namespace Go.Proofs.Ytgdecbliegelmaa.Q
open Go.RowKit Go.Proofs.YtgdecbliegelmaaW.PrintWords Go.Proofs.YtgdecbliegelmaaW.PrintLast Go.Proofs.YtgdecbliegelmaaW.PrintMore
attribute [local go_sem] max2_int min2_int max_two min_two max_three min_three max_four min_four   -- for this text's walks alone
set_option linter.unusedVariables false
set_option linter.unusedSimpArgs false
/-! ### laws_eqIntSS: function 49 -/
def laws_eqIntSS.l0 : Nat → List (List Int) → List (List Int) → Int → Option (Bool)
  | 0, _, _, _ => none
  | k + 1, x0, x1, x5 => if x5 < (x0.length : Int) then (if 0 ≤ x5 then (if x5 < (x1.length : Int) then ((laws_eqIntS.f k (rd_L6 x0 x5) (rd_L6 x1 x5)).bind fun t103 => (if t103 = true then (laws_eqIntSS.l0 k x0 x1 (wrap64 (x5 + 1))) else (some false))) else (none)) else (none)) else (some true)
def laws_eqIntSS.f (k : Nat) (l0 : List (List Int)) (l1 : List (List Int)) : Option (Bool) := if (l0.length : Int) = (l1.length : Int) then (laws_eqIntSS.l0 k l0 l1 0) else (some false)
theorem laws_eqIntSS.mono_l : ∀ k, (∀ y0 y1 y2, LeO (laws_eqIntSS.l0 k y0 y1 y2) (laws_eqIntSS.l0 (k + 1) y0 y1 y2))
 | 0 => fun _ _ _ r h => by simp [laws_eqIntSS.l0] at h
 | k + 1 => by
  have ih0 := laws_eqIntSS.mono_l k
  ·intro y0 y1 y2
   unfold laws_eqIntSS.l0
   repeat' first
   | (with_reducible exact ih0 _ _ _)
   | (with_reducible exact laws_eqIntS.mono _ _ _)
   | (with_reducible exact LeO.refl _)
   | (with_reducible exact LeO.none _)
   | (with_reducible refine LeO.ite ?_ ?_)
   | (with_reducible refine LeO.bind ?_ (fun _ => ?_))
   | exact ih0 _ _ _
   | exact laws_eqIntS.mono _ _ _
   | exact LeO.none _
   | refine LeO.ite ?_ ?_
   | refine LeO.bind ?_ (fun _ => ?_)
theorem laws_eqIntSS.mono : ∀ a0 a1 k, LeO (laws_eqIntSS.f k a0 a1) (laws_eqIntSS.f (k + 1) a0 a1) := by
 intro a0 a1 k
 have ih0 := laws_eqIntSS.mono_l k
 unfold laws_eqIntSS.f
 repeat' first
   | (with_reducible exact ih0 _ _ _)
   | (with_reducible exact laws_eqIntS.mono _ _ _)
   | (with_reducible exact LeO.refl _)
   | (with_reducible exact LeO.none _)
   | (with_reducible refine LeO.ite ?_ ?_)
   | (with_reducible refine LeO.bind ?_ (fun _ => ?_))
   | exact ih0 _ _ _
   | exact laws_eqIntS.mono _ _ _
   | exact LeO.none _
   | refine LeO.ite ?_ ?_
   | refine LeO.bind ?_ (fun _ => ?_)
set_option maxHeartbeats 8000000 in
set_option maxRecDepth 100000 in
theorem laws_eqIntSS.calls (k : Nat) (A0 : Option Addr) (c0 : Nat) (l0 : List (List Int)) (A1 : Option Addr) (c1 : Nat) (l1 : List (List Int)) (r : Bool) (w : World) (hr0 : Kd.C (Kd.slice 3 (Kd.int .i64)) w A0 l0.length l0) (hc0 : l0.length ≤ c0) (hr1 : Kd.C (Kd.slice 3 (Kd.int .i64)) w A1 l1.length l1) (hc1 : l1.length ≤ c1) (h : laws_eqIntSS.f k l0 l1 = some r) :
  Calls Try.prog 49 #[.slice A0 l0.length c0, .slice A1 l1.length c1] w fun e w' => e = .returned (.bool r) ∧ Drawn0 w w' := by
 have HR0 := Aside0.mk hr0
 have HC0 := Aside0.mk hc0
 clear hr0 hc0
 have HR1 := Aside0.mk hr1
 have HC1 := Aside0.mk hc1
 clear hr1 hc1
 have H : (if (l0.length : Int) = (l1.length : Int) then (laws_eqIntSS.l0 k l0 l1 0) else (some false)) = some r := h
 clear h
 by_cases c3 : (l0.length : Int) = (l1.length : Int)
 ·rw [if_pos c3] at H
  have c3b0 : ((l0.length : Int) == (l1.length : Int)) = true := beq_iff_eq.mpr c3
  have c3b1 : ((l0.length : Int) != (l1.length : Int)) = false := bne_eq_false_iff_eq.mpr c3
  have c3b2 : (l0.length == l1.length) = true := by first|simpa using c3|(simp at c3 ⊢;omega)
  clear c3
  have H' := Aside0.mk H
  clear H
  go_enter Try.func49, Try.ntmps49
  go_wp2
  repeat (go_quiet (fail);try go_wp2)
  go_loopg [5] k (fun kq v5 w' => ∃ (x5_1 : Int), v5 = .int .i64 x5_1 ∧ Aside0 (laws_eqIntSS.l0 kq l0 l1 x5_1 = some r) ∧ Aside0 (kq ≤ k) ∧ Drawn0 w w')
  case atStart => exact ⟨(0), (by first|rfl|(simp;done)|(simp [*];done)), H', ⟨Nat.le_refl _⟩, by repeat (first|exact Drawn0.refl _|apply Drawn0.step)⟩
  case round =>
   clear H'
   try clear c1
   try clear p2
   try clear c3
   try clear c3b0
   try clear c3b1
   try clear c3b2
   obtain ⟨x5_1, rfl, HA, HK1, ⟨m1, rfl⟩⟩ := hrel
   cases gk with
   | zero => exact absurd HA.out (by simp [laws_eqIntSS.l0])
   | succ k1 =>
    have H := HA.out
    clear HA
    simp only [laws_eqIntSS.l0] at H
    by_cases c4 : x5_1 < (l0.length : Int)
    ·rw [if_pos c4] at H
     have c4b0 : decide (x5_1 < (l0.length : Int)) = true := decide_eq_true c4
     clear c4
     by_cases c5 : 0 ≤ x5_1
     ·rw [if_pos c5] at H
      have c5b0 : decide (0 ≤ x5_1) = true := decide_eq_true c5
      clear c5
      by_cases c6 : x5_1 < (l1.length : Int)
      ·rw [if_pos c6] at H
       have c6b0 : decide (x5_1 < (l1.length : Int)) = true := decide_eq_true c6
       clear c6
       replace H := Option.bind_eq_some_iff.mp H
       obtain ⟨t103, A70, H⟩ := H
       replace H : (if t103 = true then (laws_eqIntSS.l0 k1 l0 l1 (wrap64 (x5_1 + 1))) else (some false)) = some r := H
       have A7 := Aside0.mk A70
       clear A70
       by_cases c8 : t103 = true
       ·subst c8
        have H1 : (laws_eqIntSS.l0 k1 l0 l1 (wrap64 (x5_1 + 1))) = some r := by rw [if_pos rfl] at H;exact H
        clear H
        have H := H1
        clear H1
        have H' := Aside0.mk H
        clear H
        have p101 : 0 ≤ (x5_1 : Int) := of_decide_eq_true (by first|(with_reducible assumption)|assumption)
        have q101 : x5_1 < (l0.length : Int) := of_decide_eq_true (by first|(with_reducible assumption)|assumption)
        obtain ⟨ad101, A101_0, c101_0, e101, hx101_0, hl101_0, hi101_0⟩ := at_L6 HR0.out x5_1 p101 q101
        cases e101
        have HR101_0 := Aside0.mk hi101_0
        have HC101_0 := Aside0.mk hl101_0
        clear hi101_0 hl101_0
        replace p101 := eq_true p101
        replace q101 := eq_true q101
        have p102 : 0 ≤ (x5_1 : Int) := of_decide_eq_true (by first|(with_reducible assumption)|assumption)
        have q102 : x5_1 < (l1.length : Int) := of_decide_eq_true (by first|(with_reducible assumption)|assumption)
        obtain ⟨ad102, A102_0, c102_0, e102, hx102_0, hl102_0, hi102_0⟩ := at_L6 HR1.out x5_1 p102 q102
        cases e102
        have HR102_0 := Aside0.mk hi102_0
        have HC102_0 := Aside0.mk hl102_0
        clear hi102_0 hl102_0
        replace p102 := eq_true p102
        replace q102 := eq_true q102
        go_wp2_with (first|(go_at_call 44;(with_reducible refine (laws_eqIntS.calls k1 _ _ (rd_L6 l0 x5_1) _ _ (rd_L6 l1 x5_1) true _ ?side1 ?side2 ?side3 ?side4 A7.out).mono ?_);(case side1 => repeat (first|exact HR101_0.out|(with_reducible refine Kd.C_alloc ?_ _)|(with_reducible refine Kd.C_drewN ?_ _)|(with_reducible refine Kd.C_drew ?_)));(case side2 => exact HC101_0.out);(case side3 => repeat (first|exact HR102_0.out|(with_reducible refine Kd.C_alloc ?_ _)|(with_reducible refine Kd.C_drewN ?_ _)|(with_reducible refine Kd.C_drew ?_)));(case side4 => exact HC102_0.out);rintro e w' ⟨rfl, ⟨nd, rfl⟩⟩;(try first|exact ⟨rfl, _, World.drewN_drewN _ _ _⟩|exact ⟨rfl, _, Eq.trans (World.drewN_drewN _ _ _) (congrArg (World.drewN _) (Nat.add_assoc _ _ _))⟩)))
        repeat (go_quiet (first|(go_at_call 44;(with_reducible refine (laws_eqIntS.calls k1 _ _ (rd_L6 l0 x5_1) _ _ (rd_L6 l1 x5_1) true _ ?side1 ?side2 ?side3 ?side4 A7.out).mono ?_);(case side1 => repeat (first|exact HR101_0.out|(with_reducible refine Kd.C_alloc ?_ _)|(with_reducible refine Kd.C_drewN ?_ _)|(with_reducible refine Kd.C_drew ?_)));(case side2 => exact HC101_0.out);(case side3 => repeat (first|exact HR102_0.out|(with_reducible refine Kd.C_alloc ?_ _)|(with_reducible refine Kd.C_drewN ?_ _)|(with_reducible refine Kd.C_drew ?_)));(case side4 => exact HC102_0.out);rintro e w' ⟨rfl, ⟨nd, rfl⟩⟩;(try first|exact ⟨rfl, _, World.drewN_drewN _ _ _⟩|exact ⟨rfl, _, Eq.trans (World.drewN_drewN _ _ _) (congrArg (World.drewN _) (Nat.add_assoc _ _ _))⟩)));try go_wp2_with (first|(go_at_call 44;(with_reducible refine (laws_eqIntS.calls k1 _ _ (rd_L6 l0 x5_1) _ _ (rd_L6 l1 x5_1) true _ ?side1 ?side2 ?side3 ?side4 A7.out).mono ?_);(case side1 => repeat (first|exact HR101_0.out|(with_reducible refine Kd.C_alloc ?_ _)|(with_reducible refine Kd.C_drewN ?_ _)|(with_reducible refine Kd.C_drew ?_)));(case side2 => exact HC101_0.out);(case side3 => repeat (first|exact HR102_0.out|(with_reducible refine Kd.C_alloc ?_ _)|(with_reducible refine Kd.C_drewN ?_ _)|(with_reducible refine Kd.C_drew ?_)));(case side4 => exact HC102_0.out);rintro e w' ⟨rfl, ⟨nd, rfl⟩⟩;(try first|exact ⟨rfl, _, World.drewN_drewN _ _ _⟩|exact ⟨rfl, _, Eq.trans (World.drewN_drewN _ _ _) (congrArg (World.drewN _) (Nat.add_assoc _ _ _))⟩))))
        go_roundg k1
        case measure => have := HK1.out;omega
        case rel => exact ⟨(wrap64 (x5_1 + 1)), (by first|rfl|(simp;done)|(simp [*];done)), H', ⟨by have := HK1.out;omega⟩, by repeat (first|exact Drawn0.refl _|apply Drawn0.step)⟩
       ·replace c8 := Bool.eq_false_iff.mpr c8
        subst c8
        have H1 : (some false) = some r := by rw [if_neg (show ¬ (false = true) by decide)] at H;exact H
        clear H
        have H := H1
        clear H1
        obtain rfl := Option.some.inj H
        have p101 : 0 ≤ (x5_1 : Int) := of_decide_eq_true (by first|(with_reducible assumption)|assumption)
        have q101 : x5_1 < (l0.length : Int) := of_decide_eq_true (by first|(with_reducible assumption)|assumption)
        obtain ⟨ad101, A101_0, c101_0, e101, hx101_0, hl101_0, hi101_0⟩ := at_L6 HR0.out x5_1 p101 q101
        cases e101
        have HR101_0 := Aside0.mk hi101_0
        have HC101_0 := Aside0.mk hl101_0
        clear hi101_0 hl101_0
        replace p101 := eq_true p101
        replace q101 := eq_true q101
        have p102 : 0 ≤ (x5_1 : Int) := of_decide_eq_true (by first|(with_reducible assumption)|assumption)
        have q102 : x5_1 < (l1.length : Int) := of_decide_eq_true (by first|(with_reducible assumption)|assumption)
        obtain ⟨ad102, A102_0, c102_0, e102, hx102_0, hl102_0, hi102_0⟩ := at_L6 HR1.out x5_1 p102 q102
        cases e102
        have HR102_0 := Aside0.mk hi102_0
        have HC102_0 := Aside0.mk hl102_0
        clear hi102_0 hl102_0
        replace p102 := eq_true p102
        replace q102 := eq_true q102
        go_wp2_with (first|(go_at_call 44;(with_reducible refine (laws_eqIntS.calls k1 _ _ (rd_L6 l0 x5_1) _ _ (rd_L6 l1 x5_1) false _ ?side1 ?side2 ?side3 ?side4 A7.out).mono ?_);(case side1 => repeat (first|exact HR101_0.out|(with_reducible refine Kd.C_alloc ?_ _)|(with_reducible refine Kd.C_drewN ?_ _)|(with_reducible refine Kd.C_drew ?_)));(case side2 => exact HC101_0.out);(case side3 => repeat (first|exact HR102_0.out|(with_reducible refine Kd.C_alloc ?_ _)|(with_reducible refine Kd.C_drewN ?_ _)|(with_reducible refine Kd.C_drew ?_)));(case side4 => exact HC102_0.out);rintro e w' ⟨rfl, ⟨nd, rfl⟩⟩;(try first|exact ⟨rfl, _, World.drewN_drewN _ _ _⟩|exact ⟨rfl, _, Eq.trans (World.drewN_drewN _ _ _) (congrArg (World.drewN _) (Nat.add_assoc _ _ _))⟩)))
        repeat (go_quiet (first|(go_at_call 44;(with_reducible refine (laws_eqIntS.calls k1 _ _ (rd_L6 l0 x5_1) _ _ (rd_L6 l1 x5_1) false _ ?side1 ?side2 ?side3 ?side4 A7.out).mono ?_);(case side1 => repeat (first|exact HR101_0.out|(with_reducible refine Kd.C_alloc ?_ _)|(with_reducible refine Kd.C_drewN ?_ _)|(with_reducible refine Kd.C_drew ?_)));(case side2 => exact HC101_0.out);(case side3 => repeat (first|exact HR102_0.out|(with_reducible refine Kd.C_alloc ?_ _)|(with_reducible refine Kd.C_drewN ?_ _)|(with_reducible refine Kd.C_drew ?_)));(case side4 => exact HC102_0.out);rintro e w' ⟨rfl, ⟨nd, rfl⟩⟩;(try first|exact ⟨rfl, _, World.drewN_drewN _ _ _⟩|exact ⟨rfl, _, Eq.trans (World.drewN_drewN _ _ _) (congrArg (World.drewN _) (Nat.add_assoc _ _ _))⟩)));try go_wp2_with (first|(go_at_call 44;(with_reducible refine (laws_eqIntS.calls k1 _ _ (rd_L6 l0 x5_1) _ _ (rd_L6 l1 x5_1) false _ ?side1 ?side2 ?side3 ?side4 A7.out).mono ?_);(case side1 => repeat (first|exact HR101_0.out|(with_reducible refine Kd.C_alloc ?_ _)|(with_reducible refine Kd.C_drewN ?_ _)|(with_reducible refine Kd.C_drew ?_)));(case side2 => exact HC101_0.out);(case side3 => repeat (first|exact HR102_0.out|(with_reducible refine Kd.C_alloc ?_ _)|(with_reducible refine Kd.C_drewN ?_ _)|(with_reducible refine Kd.C_drew ?_)));(case side4 => exact HC102_0.out);rintro e w' ⟨rfl, ⟨nd, rfl⟩⟩;(try first|exact ⟨rfl, _, World.drewN_drewN _ _ _⟩|exact ⟨rfl, _, Eq.trans (World.drewN_drewN _ _ _) (congrArg (World.drewN _) (Nat.add_assoc _ _ _))⟩))))
        go_ret
        exact ⟨by first|rfl|(simp;done)|(simp [*];done), by repeat (first|exact Drawn0.refl _|apply Drawn0.step)⟩
      ·rw [if_neg c6] at H
       exact absurd H (by simp)
     ·rw [if_neg c5] at H
      exact absurd H (by simp)
    ·rw [if_neg c4] at H
     have c4b0 : decide (x5_1 < (l0.length : Int)) = false := decide_eq_false c4
     clear c4
     obtain rfl := Option.some.inj H
     go_wp2
     repeat (go_quiet (fail);try go_wp2)
     go_ret
     exact ⟨by first|rfl|(simp;done)|(simp [*];done), by repeat (first|exact Drawn0.refl _|apply Drawn0.step)⟩
 ·rw [if_neg c3] at H
  have c3b0 : ((l0.length : Int) == (l1.length : Int)) = false := beq_eq_false_iff_ne.mpr c3
  have c3b1 : ((l0.length : Int) != (l1.length : Int)) = true := bne_iff_ne.mpr c3
  have c3b2 : (l0.length == l1.length) = false := by first|simpa using c3|(simp at c3 ⊢;omega)
  obtain rfl := Option.some.inj H
  go_enter Try.func49, Try.ntmps49
  go_wp2
  repeat (go_quiet (fail);try go_wp2)
  go_ret
  exact ⟨by first|rfl|(simp;done)|(simp [*];done), by repeat (first|exact Drawn0.refl _|apply Drawn0.step)⟩
end Go.Proofs.Ytgdecbliegelmaa.Q

/- Marks, plainly. -/
namespace Go.Proofs.Ytgdecbliegelmaa.Q
open Go.RowKit Go.Proofs.YtgdecbliegelmaaW.PrintWords
set_option linter.unusedVariables false
theorem son_one (x : Int) : (strOfNums [x]).size = 1 := by simp [strOfNums, ByteArray.size]
theorem text_l (n : Nat) : ∀ (c : Int) (s : ByteArray), 0 ≤ c → c.toNat ≤ n → n + s.size ≤ 1000000000000000 → ∃ r, Ev (fun k => laws_markText.l0 k c s) r := by
 induction n with
 | zero =>
  intro c s h0 hn hs
  exact ⟨_, Ev.step (fun k => by rw [laws_markText.l0]) (Ev.neg (by omega) (Ev.pos (by omega) (Ev.now _)))⟩
 | succ n ih =>
  intro c s h0 hn hs
  by_cases hc : c > 0
  ·have hd : Int.tdiv c 10 = c / 10 := Int.tdiv_eq_ediv_of_nonneg h0
   obtain ⟨r, hr⟩ := ih (c / 10) (strOfNums [(wrap64 (48 + (Int.tmod c 10))) % 256] ++ s) (by omega) (by omega) (by rw [ByteArray.size_append, son_one];omega)
   refine ⟨r, Ev.step (fun k => by rw [laws_markText.l0]) (Ev.pos hc ?_)⟩
   simp only [Option.bind_some]
   refine Ev.pos (by rw [son_one];omega) ?_
   rw [hd, pt_wrap (x := c / 10) (by omega) (by omega)]
   exact hr
  ·exact ⟨_, Ev.step (fun k => by rw [laws_markText.l0]) (Ev.neg hc (Ev.pos (by omega) (Ev.now _)))⟩
theorem text_ev (c : Int) (h0 : 0 ≤ c) (h1 : c ≤ 1000000000) : ∃ r, Ev (fun k => laws_markText.f k c) r := by
 unfold laws_markText.f
 by_cases h : c ≤ 0
 ·exact ⟨_, Ev.pos h (Ev.now _)⟩
 ·obtain ⟨r, hr⟩ := text_l c.toNat c (⟨#[]⟩ : ByteArray) h0 (Nat.le_refl _) (by simp [ByteArray.size];omega)
  exact ⟨r, Ev.neg h hr⟩
/-- How many trees lie below. -/
def Kn : S53 → Nat
  | ⟨a, b, c, l⟩ => (l.attach.map fun x => 1 + Kn x.1).sum
termination_by t => SizeOf.sizeOf t
decreasing_by
  have := List.sizeOf_lt_of_mem x.2
  simp
  omega
theorem Kn_eq (t : S53) : Kn t = (t.f3.map fun x => 1 + Kn x).sum := by
 obtain ⟨a, b, c, l⟩ := t
 conv => lhs;unfold Kn
 rw [List.attach_map_val (f := fun x => 1 + Kn x)]
theorem mark_tree (t : S53) (ht : FitI t) : ∀ c : Int, 0 ≤ c → c + 3 * Kn t ≤ 1000000000 → Ev (fun k => laws_markTreeS.f k t.f3 c) (c + 3 * Kn t) := by
 induction t using ind53 with
 | h t ih =>
 intro c h0 h1
 obtain ⟨b3, bk⟩ := ht.inv
 have loop : ∀ d i (c : Int), i + d = t.f3.length → 0 ≤ c → c + 3 * ((t.f3.drop i).map fun x => 1 + Kn x).sum ≤ 1000000000 → Ev (fun k => laws_markTreeS.l0 k t.f3 c (i : Int)) (c + 3 * ((t.f3.drop i).map fun x => 1 + Kn x).sum) := by
  intro d
  induction d with
  | zero =>
   intro i c hi h0 h1
   rw [List.drop_eq_nil_of_le (by omega)]
   refine Ev.step (fun k => by rw [laws_markTreeS.l0]) ?_
   refine Ev.neg (by omega) ?_
   simp only [List.map_nil, List.sum_nil]
   rw [show c + 3 * ((0 : Nat) : Int) = c by omega]
   exact Ev.now _
  | succ d ihd =>
   intro i c hi h0 h1
   have hlt : i < t.f3.length := by omega
   rw [sum_drop_cons _ _ _ hlt] at h1 ⊢
   obtain ⟨r1, hr1⟩ := text_ev c h0 (by omega)
   obtain ⟨r2, hr2⟩ := text_ev (c + 1) (by omega) (by omega)
   have hk := ih t.f3[i] (List.getElem_mem hlt) (bk _ (List.getElem_mem hlt)) (c + 1 + 1 + 1) (by omega) (by omega)
   refine Ev.step (fun k => by rw [laws_markTreeS.l0]) ?_
   refine Ev.pos (by omega) (Ev.pos (by omega) ?_)
   rw [rd53 _ _ hlt, pt_wrap (x := (i : Int) + 1) (by omega) (by omega), pt_wrap (x := c + 1) (by omega) (by omega), pt_wrap (x := c + 1 + 1) (by omega) (by omega), pt_wrap (x := c + 1 + 1 + 1) (by omega) (by omega)]
   refine Ev.bind hr1 (Ev.bind hr2 (Ev.bind hk ?_))
   have hz := ihd (i + 1) (c + 1 + 1 + 1 + 3 * Kn t.f3[i]) (by omega) (by omega) (by omega)
   rw [show c + 3 * ((1 + Kn t.f3[i] + ((t.f3.drop (i + 1)).map fun x => 1 + Kn x).sum : Nat) : Int) = c + 1 + 1 + 1 + 3 * Kn t.f3[i] + 3 * (((t.f3.drop (i + 1)).map fun x => 1 + Kn x).sum : Nat) by omega]
   exact hz
 rw [Kn_eq] at h1 ⊢
 refine Ev.step (fun k => by rw [laws_markTreeS.f]) ?_
 have := loop t.f3.length 0 c (by omega) h0 (by rw [List.drop_zero];exact h1)
 rw [List.drop_zero] at this
 exact this
theorem Kn_conv (t : S48) : Kn (conv t) ≤ Sz t := by
 induction t using ind48 with
 | h t ih =>
 rw [Kn_eq, conv_eq, Sz_eq]
 simp only [SzL, List.map_map]
 have : ∀ l : List S48, (∀ u ∈ l, Kn (conv u) ≤ Sz u) → (l.map ((fun x => 1 + Kn x) ∘ conv)).sum ≤ l.length + (l.map Sz).sum := by
  intro l
  induction l with
  | nil => intro _;simp
  | cons a l ihl =>
   intro h
   have h1 := h a (by simp)
   have h2 := ihl (fun u hu => h u (by simp [hu]))
   simp only [List.map_cons, List.sum_cons, List.length_cons, Function.comp_apply]
   omega
 have := this t.f3 ih
 omega
/-- Numbers in a row. -/
def nums : Int → Nat → List Int
  | _, 0 => []
  | c, n + 1 => c :: nums (c + 1) n
theorem nums_len : ∀ (n : Nat) (c : Int), (nums c n).length = n
 | 0, _ => rfl
 | n + 1, c => by simp [nums, nums_len n]
theorem mark_row (d : Nat) : ∀ (x : List Int) (i : Nat) (c : Int), i + d = x.length → x.length ≤ 1000000000000 → 0 ≤ c → c + d ≤ 1000000000000 → Ev (fun k => laws_markIntS.l0 k x c (i : Int)) (c + d, x.take i ++ nums c d) := by
 induction d with
 | zero =>
  intro x i c hi hxl h0 h1
  rw [List.take_of_length_le (by omega)]
  simp only [nums, List.append_nil]
  refine Ev.step (fun k => by rw [laws_markIntS.l0]) ?_
  refine Ev.neg (by omega) ?_
  rw [show c + ((0 : Nat) : Int) = c by omega]
  exact Ev.now _
 | succ d ih =>
  intro x i c hi hxl h0 h1
  have hz := ih (x.set i c) (i + 1) (c + 1) (by simp;omega) (by simp;omega) (by omega) (by omega)
  refine Ev.step (fun k => by rw [laws_markIntS.l0]) ?_
  refine Ev.pos (by omega) (Ev.pos (by omega) ?_)
  rw [pt_wrap (x := (i : Int) + 1) (by omega) (by omega), pt_wrap (x := c + 1) (by omega) (by omega)]
  rw [show (c + 1 + (d : Int), (x.set i c).take (i + 1) ++ nums (c + 1) d) = (c + ((d + 1 : Nat) : Int), x.take i ++ nums c (d + 1)) by
   have e1 : (x.set i c).take (i + 1) = x.take i ++ [c] := by
    rw [List.take_add_one, List.take_set_of_le (Nat.le_refl _)]
    rw [List.getElem?_set_self (by omega)]
    rfl
   rw [e1, nums, List.append_assoc]
   simp only [List.singleton_append, Prod.mk.injEq, and_true]
   omega] at hz
  exact hz
theorem held_row (d : Nat) : ∀ (x : List Int) (i : Nat) (c : Int), i + d = x.length → x.length ≤ 1000000000000 → x.drop i = nums c d → 0 ≤ c → c + d ≤ 1000000000000 → Ev (fun k => laws_heldIntS.l0 k x c (i : Int)) (c + d) := by
 induction d with
 | zero =>
  intro x i c hi hxl hx h0 h1
  refine Ev.step (fun k => by rw [laws_heldIntS.l0]) ?_
  refine Ev.neg (by omega) ?_
  rw [show c + ((0 : Nat) : Int) = c by omega]
  exact Ev.now _
 | succ d ih =>
  intro x i c hi hxl hx h0 h1
  have hlt : i < x.length := by omega
  rw [List.drop_eq_getElem_cons hlt, nums] at hx
  injection hx with e1 e2
  have hz := ih x (i + 1) (c + 1) (by omega) hxl e2 (by omega) (by omega)
  refine Ev.step (fun k => by rw [laws_heldIntS.l0]) ?_
  refine Ev.pos (by omega) (Ev.pos (by omega) (Ev.pos ?_ ?_))
  ·simp [rd, rdOf, List.getD_eq_getElem?_getD, List.getElem?_eq_getElem hlt, e1]
  ·rw [pt_wrap (x := (i : Int) + 1) (by omega) (by omega), pt_wrap (x := c + 1) (by omega) (by omega)]
   rw [show c + ((d + 1 : Nat) : Int) = c + 1 + (d : Int) by omega]
   exact hz
def tot (g : List (List Int)) : Nat := (g.map List.length).sum
def rows : Int → List (List Int) → List (List Int)
  | _, [] => []
  | c, r :: g => nums c r.length :: rows (c + r.length) g
theorem rdL (l : List (List Int)) (i : Nat) (h : i < l.length) : rd_L6 l (i : Int) = l[i] := by
 simp [rd_L6, List.getD_eq_getElem?_getD, List.getElem?_eq_getElem h]
theorem mark_rows (d : Nat) : ∀ (x : List (List Int)) (i : Nat) (c : Int), i + d = x.length → x.length ≤ 1000000000 → 0 ≤ c → c + tot (x.drop i) ≤ 1000000000000 → Ev (fun k => laws_markIntSS.l0 k x c (i : Int)) (c + tot (x.drop i), x.take i ++ rows c (x.drop i)) := by
 induction d with
 | zero =>
  intro x i c hi hx h0 h1
  rw [List.drop_eq_nil_of_le (by omega), List.take_of_length_le (by omega)]
  simp only [rows, List.append_nil, tot, List.map_nil, List.sum_nil]
  refine Ev.step (fun k => by rw [laws_markIntSS.l0]) ?_
  refine Ev.neg (by omega) ?_
  rw [show c + ((0 : Nat) : Int) = c by omega]
  exact Ev.now _
 | succ d ih =>
  intro x i c hi hx h0 h1
  have hlt : i < x.length := by omega
  have ed : x.drop i = x[i] :: x.drop (i + 1) := List.drop_eq_getElem_cons hlt
  rw [ed] at h1 ⊢
  simp only [tot, List.map_cons, List.sum_cons] at h1
  have hm := mark_row x[i].length x[i] 0 c (by omega) (by omega) h0 (by omega)
  rw [List.take_zero, List.nil_append] at hm
  have hd2 : (x.set i (nums c x[i].length)).drop (i + 1) = x.drop (i + 1) := List.drop_set_of_lt (by omega)
  have hz := ih (x.set i (nums c x[i].length)) (i + 1) (c + x[i].length) (by simp;omega) (by simp;omega) (by omega) (by rw [hd2];simp only [tot];omega)
  refine Ev.step (fun k => by rw [laws_markIntSS.l0]) ?_
  refine Ev.pos (by omega) (Ev.pos (by omega) ?_)
  rw [rdL _ _ hlt, pt_wrap (x := (i : Int) + 1) (by omega) (by omega)]
  refine Ev.bind (a := (c + (x[i].length : Int), nums c x[i].length)) (Ev.congr (fun k => by rw [laws_markIntS.f];rfl) hm) ?_
  rw [hd2] at hz
  rw [show (c + (x[i].length : Int) + (tot (x.drop (i + 1)) : Nat), (x.set i (nums c x[i].length)).take (i + 1) ++ rows (c + x[i].length) (x.drop (i + 1))) = (c + (tot (x[i] :: x.drop (i + 1)) : Nat), x.take i ++ rows c (x[i] :: x.drop (i + 1))) by
   have e1 : (x.set i (nums c x[i].length)).take (i + 1) = x.take i ++ [nums c x[i].length] := by
    rw [List.take_add_one, List.take_set_of_le (Nat.le_refl _)]
    rw [List.getElem?_set_self (by omega)]
    rfl
   rw [e1, rows, List.append_assoc]
   simp only [List.singleton_append, Prod.mk.injEq, and_true, tot, List.map_cons, List.sum_cons]
   omega] at hz
  exact hz
theorem held_rows : ∀ (g : List (List Int)) (x : List (List Int)) (i : Nat) (c : Int), x.drop i = rows c g → x.length ≤ 1000000000 → 0 ≤ c → c + tot g ≤ 1000000000000 → Ev (fun k => laws_heldIntSS.l0 k x c (i : Int)) (c + tot g) := by
 intro g
 induction g with
 | nil =>
  intro x i c hx hl h0 h1
  have hi : x.length ≤ i := by
   have := congrArg List.length hx
   simp [rows] at this
   omega
  refine Ev.step (fun k => by rw [laws_heldIntSS.l0]) ?_
  refine Ev.neg (by omega) ?_
  simp only [tot, List.map_nil, List.sum_nil]
  rw [show c + ((0 : Nat) : Int) = c by omega]
  exact Ev.now _
 | cons r g ih =>
  intro x i c hx hl h0 h1
  simp only [tot, List.map_cons, List.sum_cons] at h1
  have hlt : i < x.length := by
   have := congrArg List.length hx
   simp [rows] at this
   omega
  rw [List.drop_eq_getElem_cons hlt, rows] at hx
  injection hx with e1 e2
  have hr := held_row r.length x[i] 0 c (by rw [e1, nums_len];omega) (by rw [e1, nums_len];omega) (by rw [List.drop_zero, e1]) h0 (by omega)
  have hz := ih x (i + 1) (c + r.length) e2 hl (by omega) (by simp only [tot];omega)
  refine Ev.step (fun k => by rw [laws_heldIntSS.l0]) ?_
  refine Ev.pos (by omega) (Ev.pos (by omega) ?_)
  rw [rdL _ _ hlt, pt_wrap (x := (i : Int) + 1) (by omega) (by omega)]
  refine Ev.bind (a := c + (r.length : Int)) (Ev.congr (fun k => by rw [laws_heldIntS.f];rfl) hr) ?_
  refine Ev.neg (by omega) ?_
  rw [show c + ((tot (r :: g) : Nat) : Int) = c + (r.length : Int) + (tot g : Nat) by simp only [tot, List.map_cons, List.sum_cons];omega]
  exact hz
theorem eq_row (x : List Int) (hx : x.length ≤ 1000000000) : Ev (fun k => laws_eqIntS.f k x x) true := by
 have loop : ∀ d i, i + d = x.length → Ev (fun k => laws_eqIntS.l0 k x x (i : Int)) true := by
  intro d
  induction d with
  | zero =>
   intro i hi
   refine Ev.step (fun k => by rw [laws_eqIntS.l0]) ?_
   exact Ev.neg (by omega) (Ev.now _)
  | succ d ihd =>
   intro i hi
   refine Ev.step (fun k => by rw [laws_eqIntS.l0]) ?_
   refine Ev.pos (by omega) (Ev.pos (by omega) (Ev.pos (by omega) (Ev.pos rfl ?_)))
   rw [pt_wrap (x := (i : Int) + 1) (by omega) (by omega)]
   exact ihd (i + 1) (by omega)
 unfold laws_eqIntS.f
 exact Ev.pos rfl (loop x.length 0 (by omega))
theorem eq_rows (x : List (List Int)) (hx : x.length ≤ 1000000000) (hr : ∀ r ∈ x, r.length ≤ 1000000000) : Ev (fun k => laws_eqIntSS.f k x x) true := by
 have loop : ∀ d i, i + d = x.length → Ev (fun k => laws_eqIntSS.l0 k x x (i : Int)) true := by
  intro d
  induction d with
  | zero =>
   intro i hi
   refine Ev.step (fun k => by rw [laws_eqIntSS.l0]) ?_
   exact Ev.neg (by omega) (Ev.now _)
  | succ d ihd =>
   intro i hi
   have hlt : i < x.length := by omega
   refine Ev.step (fun k => by rw [laws_eqIntSS.l0]) ?_
   refine Ev.pos (by omega) (Ev.pos (by omega) (Ev.pos (by omega) ?_))
   rw [rdL _ _ hlt, pt_wrap (x := (i : Int) + 1) (by omega) (by omega)]
   exact Ev.bind (eq_row _ (hr _ (List.getElem_mem hlt))) (Ev.pos rfl (ihd (i + 1) (by omega)))
 unfold laws_eqIntSS.f
 exact Ev.pos rfl (loop x.length 0 (by omega))
end Go.Proofs.Ytgdecbliegelmaa.Q

/- The law FnExactPlaces. -/
namespace Go.Proofs.Ytgdecbliegelmaa.Q
open Go.RowKit Go.Proofs.YtgdecbliegelmaaW.PrintWords Go.Proofs.YtgdecbliegelmaaW.PrintLast Go.Proofs.YtgdecbliegelmaaW.PrintMore
attribute [local go_sem] max2_int min2_int max_two min_two max_three min_three max_four min_four
set_option linter.unusedVariables false
set_option linter.unusedSimpArgs false
theorem ShAt.same {base top : Nat} {w w1 : World} : ∀ (n : Nat) {v : Value} {xs : List S53}, ShAt n base top w v xs → (∀ g, base ≤ g → g < top → w1.heap[g]? = w.heap[g]?) → ShAt n base top w1 v xs
 | 0, _, _, h, _ => h.elim
 | n + 1, v, xs, h, ha => by
  obtain ⟨A, c, rfl, h⟩ := h
  refine ⟨A, c, rfl, fun hp => ?_⟩
  obtain ⟨g, cs, rfl, hg, hb, hl, hk⟩ := h hp
  refine ⟨g, cs, rfl, hg, (ha g hg.1 hg.2).trans hb, hl, fun i x hx => ?_⟩
  obtain ⟨vk, hv, hs⟩ := hk i x hx
  exact ⟨vk, hv, ShAt.same n hs ha⟩
theorem cutW (w : World) (b : Nat) (h : b ≤ w.heap.size) : ∃ w0 : World, w0.heap.size = b ∧ Below b w0 w := by
 refine ⟨{ w with heap := w.heap.extract 0 b }, by simp;omega, rfl, rfl, rfl, ?_, fun k hk => ?_⟩
 ·show (w.heap.extract 0 b).size ≤ w.heap.size
  simp;omega
 ·show w.heap[k]? = (w.heap.extract 0 b)[k]?
  rw [Array.getElem?_extract]
  simp only [Nat.zero_add, Nat.sub_zero]
  rw [if_pos (by omega)]
theorem below_via {b : Nat} {w0 w w' : World} (h : Below b w0 w) (k : Below b w0 w') (hs : w.heap.size ≤ w'.heap.size) : Below b w w' := ⟨k.os.trans h.os.symm, k.tape.trans h.tape.symm, k.output.trans h.output.symm, hs, fun i hi => (k.block i hi).trans (h.block i hi).symm⟩
/-- What the law's true ends need. -/
def laws_FnExactPlaces.P (k : Nat) (n1 t1 : ByteArray) (b1 : Bool) (l1 : List S48) (n2 t2 : ByteArray) (b2 : Bool) (l2 : List S48) : Prop :=
  ∃ s1, laws_szTree.f k n1 t1 b1 l1 1048576 = some s1 ∧ (s1 < 0 ∨ ∃ s2, laws_szTree.f k n2 t2 b2 l2 s1 = some s2 ∧ (s2 < 0 ∨
    ∃ y1 y2 y3 y4 z1 z2 z3 z4 g er m1 m2 m g', laws_toTree.f k n1 t1 b1 l1 = some (y1, y2, y3, y4) ∧ laws_toTree.f k n2 t2 b2 l2 = some (z1, z2, z3, z4) ∧
      spec_Places.f k y1 y2 y3 y4 z1 z2 z3 z4 = some (g, er) ∧ impl_Places.f k y1 y2 y3 y4 z1 z2 z3 z4 = some (g, er) ∧ laws_eqIntSS.f k g g = some true ∧
      laws_eqTree.f k y1 y2 y3 y4 y1 y2 y3 y4 = some true ∧ laws_eqTree.f k z1 z2 z3 z4 z1 z2 z3 z4 = some true ∧ laws_markTreeS.f k y4 1 = some m1 ∧ laws_markTreeS.f k z4 m1 = some m2 ∧ ¬ m2 < 0 ∧
      laws_markIntSS.f k g 1 = some (m, g') ∧ laws_heldIntSS.f k g' 1 = some m ∧ ¬ m < 0))
open Classical in
noncomputable def laws_FnExactPlaces.f (k : Nat) (n1 t1 : ByteArray) (b1 : Bool) (l1 : List S48) (n2 t2 : ByteArray) (b2 : Bool) (l2 : List S48) : Option Bool := if laws_FnExactPlaces.P k n1 t1 b1 l1 n2 t2 b2 l2 then some true else none
set_option maxHeartbeats 32000000 in
set_option maxRecDepth 100000 in
theorem laws_FnExactPlaces.calls (k : Nat) (n1 t1 : ByteArray) (b1 : Bool) (A1 : Option Addr) (c1 : Nat) (l1 : List S48) (n2 t2 : ByteArray) (b2 : Bool) (A2 : Option Addr) (c2 : Nat) (l2 : List S48) (r : Bool) (w : World) (hr0 : Kd.C k48 w A1 l1.length l1) (hc0 : l1.length ≤ c1) (hr1 : Kd.C k48 w A2 l2.length l2) (hc1 : l2.length ≤ c2) (h : laws_FnExactPlaces.f k n1 t1 b1 l1 n2 t2 b2 l2 = some r) :
  Calls Try.prog 11 #[.agg #[.string n1, .string t1, .bool b1, .slice A1 l1.length c1], .agg #[.string n2, .string t2, .bool b2, .slice A2 l2.length c2]] w fun e w' => e = .returned (.bool r) ∧ Below w.heap.size w w' := by
 have hu48 := Try.underlying48
 have hu53 := Try.underlying53
 unfold laws_FnExactPlaces.f at h
 split at h
 rotate_left
 ·cases h
 rename_i h0
 obtain rfl := Option.some.inj h
 clear h
 have HP := Aside0.mk (hr0)
 have HC := Aside0.mk (hc0)
 have HP2 := Aside0.mk (hr1)
 have HC2 := Aside0.mk (hc1)
 have HB0 : Aside0 (Below w.heap.size w ((w.alloc (.cells #[.string n1, .string t1, .bool b1, .slice A1 l1.length c1] 48)).alloc (.cells #[.string n2, .string t2, .bool b2, .slice A2 l2.length c2] 48))) := ⟨below_alloc (below_alloc (Below.refl _ _) _) _⟩
 have HX1 : Aside0 (((w.alloc (.cells #[.string n1, .string t1, .bool b1, .slice A1 l1.length c1] 48)).alloc (.cells #[.string n2, .string t2, .bool b2, .slice A2 l2.length c2] 48)).heap[w.heap.size]? = some (.cells #[.string n1, .string t1, .bool b1, .slice A1 l1.length c1] 48 (0, 0))) := ⟨blk_alloc (blk_new _ _) _⟩
 have HX2 : Aside0 (((w.alloc (.cells #[.string n1, .string t1, .bool b1, .slice A1 l1.length c1] 48)).alloc (.cells #[.string n2, .string t2, .bool b2, .slice A2 l2.length c2] 48)).heap[w.heap.size + 1]? = some (.cells #[.string n2, .string t2, .bool b2, .slice A2 l2.length c2] 48 (0, 0))) := ⟨by simpa using blk_new (w.alloc (.cells #[.string n1, .string t1, .bool b1, .slice A1 l1.length c1] 48)) (.cells #[.string n2, .string t2, .bool b2, .slice A2 l2.length c2] 48)⟩
 clear hr0 hc0 hr1 hc1
 obtain ⟨s1, hs1, h0⟩ := h0
 have HS1 := Aside0.mk (hs1)
 clear hs1
 by_cases q1 : s1 < 0
 ·have q1b : decide (s1 < 0) = true := decide_eq_true q1
  clear q1 h0
  go_enter Try.func11, Try.ntmps11
  go_wp2_with (first
   | (go_at_call 30;(with_reducible refine (laws_szTree.calls k n1 t1 b1 A1 c1 l1 1048576 s1 _ (Kd.C_below HP.out HB0.out) HC.out HS1.out).mono ?_);rintro e w2 ⟨rfl, hb2⟩;have HB2 := Aside0.mk (below_step HB0.out hb2);have HX12 := Aside0.mk (blk_below HX1.out hb2);have HX22 := Aside0.mk (blk_below HX2.out hb2);clear hb2;have hx2_0 : w2.cell? ⟨w.heap.size + 1, 0, none⟩ = some (.string n2) := (blk_cell HX22.out 0).trans rfl;have hx2_1 : w2.cell? ⟨w.heap.size + 1, 1, none⟩ = some (.string t2) := (blk_cell HX22.out 1).trans rfl;have hx2_2 : w2.cell? ⟨w.heap.size + 1, 2, none⟩ = some (.bool b2) := (blk_cell HX22.out 2).trans rfl;have hx2_3 : w2.cell? ⟨w.heap.size + 1, 3, none⟩ = some (.slice A2 l2.length c2) := (blk_cell HX22.out 3).trans rfl))
  go_ret
  exact ⟨rfl, HB2.out⟩
 have q1b : decide (s1 < 0) = false := decide_eq_false q1
 obtain ⟨s2, hs2, h0⟩ := h0.resolve_left q1
 have HS2 := Aside0.mk (hs2)
 clear hs2 q1
 by_cases q2 : s2 < 0
 ·have q2b : decide (s2 < 0) = true := decide_eq_true q2
  clear q2 h0
  go_enter Try.func11, Try.ntmps11
  go_wp2_with (first
   | (go_at_call 30;(with_reducible refine (laws_szTree.calls k n1 t1 b1 A1 c1 l1 1048576 s1 _ (Kd.C_below HP.out HB0.out) HC.out HS1.out).mono ?_);rintro e w2 ⟨rfl, hb2⟩;have HB2 := Aside0.mk (below_step HB0.out hb2);have HX12 := Aside0.mk (blk_below HX1.out hb2);have HX22 := Aside0.mk (blk_below HX2.out hb2);clear hb2;have hx2_0 : w2.cell? ⟨w.heap.size + 1, 0, none⟩ = some (.string n2) := (blk_cell HX22.out 0).trans rfl;have hx2_1 : w2.cell? ⟨w.heap.size + 1, 1, none⟩ = some (.string t2) := (blk_cell HX22.out 1).trans rfl;have hx2_2 : w2.cell? ⟨w.heap.size + 1, 2, none⟩ = some (.bool b2) := (blk_cell HX22.out 2).trans rfl;have hx2_3 : w2.cell? ⟨w.heap.size + 1, 3, none⟩ = some (.slice A2 l2.length c2) := (blk_cell HX22.out 3).trans rfl)
   | (go_at_call 30;(with_reducible refine (laws_szTree.calls k n2 t2 b2 A2 c2 l2 s1 s2 _ (Kd.C_below HP2.out HB2.out) HC2.out HS2.out).mono ?_);rintro e w3 ⟨rfl, hb3⟩;have HB3 := Aside0.mk (below_step HB2.out hb3);have HX13 := Aside0.mk (blk_below HX12.out hb3);have HX23 := Aside0.mk (blk_below HX22.out hb3);clear hb3;clear hx2_0 hx2_1 hx2_2 hx2_3))
  go_ret
  exact ⟨rfl, HB3.out⟩
 have q2b : decide (s2 < 0) = false := decide_eq_false q2
 obtain ⟨y1, y2, y3, y4, z1, z2, z3, z4, g, er, m1, m2, m, g', hy, hz, hsp, him, heq, hey, hez, hm1, hm2, q3, hmm, hhe, q4⟩ := h0.resolve_left q2
 have HT1 := Aside0.mk (hy)
 have HT2 := Aside0.mk (hz)
 have HSP := Aside0.mk (hsp)
 have HIM := Aside0.mk (him)
 have HEQ := Aside0.mk (heq)
 have HEY := Aside0.mk (hey)
 have HEZ := Aside0.mk (hez)
 have HM1 := Aside0.mk (hm1)
 have HM2 := Aside0.mk (hm2)
 have HMM := Aside0.mk (hmm)
 have HHE := Aside0.mk (hhe)
 have q3b : decide (m2 < 0) = false := decide_eq_false q3
 have q4b : decide (m < 0) = false := decide_eq_false q4
 clear hy hz hsp him heq hey hez hm1 hm2 q3 hmm hhe q4 q2
 go_enter Try.func11, Try.ntmps11
 go_wp2_with (first
  | (go_at_call 30;(with_reducible refine (laws_szTree.calls k n1 t1 b1 A1 c1 l1 1048576 s1 _ (Kd.C_below HP.out HB0.out) HC.out HS1.out).mono ?_);rintro e w2 ⟨rfl, hb2⟩;have HB2 := Aside0.mk (below_step HB0.out hb2);have HX12 := Aside0.mk (blk_below HX1.out hb2);have HX22 := Aside0.mk (blk_below HX2.out hb2);clear hb2;have hx2_0 : w2.cell? ⟨w.heap.size + 1, 0, none⟩ = some (.string n2) := (blk_cell HX22.out 0).trans rfl;have hx2_1 : w2.cell? ⟨w.heap.size + 1, 1, none⟩ = some (.string t2) := (blk_cell HX22.out 1).trans rfl;have hx2_2 : w2.cell? ⟨w.heap.size + 1, 2, none⟩ = some (.bool b2) := (blk_cell HX22.out 2).trans rfl;have hx2_3 : w2.cell? ⟨w.heap.size + 1, 3, none⟩ = some (.slice A2 l2.length c2) := (blk_cell HX22.out 3).trans rfl)
  | (go_at_call 30;(with_reducible refine (laws_szTree.calls k n2 t2 b2 A2 c2 l2 s1 s2 _ (Kd.C_below HP2.out HB2.out) HC2.out HS2.out).mono ?_);rintro e w3 ⟨rfl, hb3⟩;have HB3 := Aside0.mk (below_step HB2.out hb3);have HX13 := Aside0.mk (blk_below HX12.out hb3);have HX23 := Aside0.mk (blk_below HX22.out hb3);clear hb3;clear hx2_0 hx2_1 hx2_2 hx2_3))
 have HBa := Aside0.mk (below_drew HB3.out)
 have HX1a := Aside0.mk (blk_drew HX13.out)
 have HX2a := Aside0.mk (blk_drew HX23.out)
 clear HB2 HB3 HX12 HX22 HX13 HX23 HX1 HX2 HB0
 refine start_ (n := 10) (S := fun w' => w'.cell? ⟨w.heap.size, 0, none⟩ = some (.string n1) ∧ w'.cell? ⟨w.heap.size, 1, none⟩ = some (.string t1) ∧ w'.cell? ⟨w.heap.size, 2, none⟩ = some (.bool b1) ∧ w'.cell? ⟨w.heap.size, 3, none⟩ = some (.slice A1 l1.length c1) ∧ w'.cell? ⟨w.heap.size + 1, 0, none⟩ = some (.string n2) ∧ w'.cell? ⟨w.heap.size + 1, 1, none⟩ = some (.string t2) ∧ w'.cell? ⟨w.heap.size + 1, 2, none⟩ = some (.bool b2) ∧ w'.cell? ⟨w.heap.size + 1, 3, none⟩ = some (.slice A2 l2.length c2)) (ds := [4]) #[false, false, false, false, false, false, false, false, false, false] (by kernel_rfl) rfl rfl ⟨(blk_cell HX1a.out 0).trans rfl, (blk_cell HX1a.out 1).trans rfl, (blk_cell HX1a.out 2).trans rfl, (blk_cell HX1a.out 3).trans rfl, (blk_cell HX2a.out 0).trans rfl, (blk_cell HX2a.out 1).trans rfl, (blk_cell HX2a.out 2).trans rfl, (blk_cell HX2a.out 3).trans rfl⟩ (fun hHeld => ?_)
 generalize w3.drew = Wa at HBa HX1a HX2a hHeld ⊢
 refine take_ (i := 0) (N := some 28) (v := ?_) (a' := ?_) #[true, false, false, false, false, false, false, false, false, false] rfl rfl (by kernel_rfl) (fun _ _ _ h => h) (Or.inl ⟨by rfl, ?_⟩) hHeld ?_ ?_
 rotate_left
 ·rintro w' ⟨s0, s1, s2, s3, s4, s5, s6, s7⟩
  go_simp
  with_reducible rfl
 rotate_left
 ·simp only [Act.put, List.setIfInBounds_toArray, List.set_cons_zero, List.set_cons_succ, i64_w, i32_w]
  rfl
 refine take_ (i := 2) (N := some 30) (v := ?_) (a' := ?_) #[true, false, true, false, false, false, false, false, false, false] rfl rfl (by kernel_rfl) (fun _ _ _ h => h) (Or.inl ⟨by rfl, ?_⟩) hHeld ?_ ?_
 rotate_left
 ·rintro w' ⟨s0, s1, s2, s3, s4, s5, s6, s7⟩
  go_simp
  with_reducible rfl
 rotate_left
 ·simp only [Act.put, List.setIfInBounds_toArray, List.set_cons_zero, List.set_cons_succ, i64_w, i32_w]
  rfl
 refine one_ (i := 1) (N := some 29) #[true, true, true, false, false, false, false, false, false, false] rfl rfl (by kernel_rfl) (by decide) (fun K hK => ?_)
 refine goes_ Try.func32 (by kernel_rfl) rfl #[.agg #[.string n1, .string t1, .bool b1, .slice A1 l1.length c1]] (by rfl) rfl rfl (by simp only [List.map_toArray, List.map_cons, List.map_nil];rfl) ?_
 with_reducible refine (laws_toTree.calls k n1 t1 b1 A1 c1 l1 y1 y2 y3 y4 _ (Kd.C_below HP.out HBa.out) HC.out HT1.out).mono ?_
 rintro e w4 ⟨v4, rfl, hr4, hb4⟩
 refine ⟨_, rfl, ?_⟩
 obtain ⟨A4, k4, rfl⟩ := Kd.R_slice hr4
 have HR4 := Aside0.mk (hr4)
 have HB4 := Aside0.mk (below_step HBa.out hb4)
 have HX14 := Aside0.mk (blk_below HX1a.out hb4)
 have HX24 := Aside0.mk (blk_below HX2a.out hb4)
 clear hr4 hb4
 refine hK.out _ _ ⟨(blk_cell HX14.out 0).trans rfl, (blk_cell HX14.out 1).trans rfl, (blk_cell HX14.out 2).trans rfl, (blk_cell HX14.out 3).trans rfl, (blk_cell HX24.out 0).trans rfl, (blk_cell HX24.out 1).trans rfl, (blk_cell HX24.out 2).trans rfl, (blk_cell HX24.out 3).trans rfl⟩ (fun hHeld => ?_)
 clear hK K
 refine norm_ (a' := ?_) ?_ ?_
 rotate_left
 ·show Act.put _ (some 29) _ = _
  simp only [Act.put, List.setIfInBounds_toArray, List.set_cons_zero, List.set_cons_succ, i64_w, i32_w]
  rfl
 refine one_ (i := 3) (N := some 31) #[true, true, true, true, false, false, false, false, false, false] rfl rfl (by kernel_rfl) (by decide) (fun K hK => ?_)
 refine goes_ Try.func32 (by kernel_rfl) rfl #[.agg #[.string n2, .string t2, .bool b2, .slice A2 l2.length c2]] (by rfl) rfl rfl (by simp only [List.map_toArray, List.map_cons, List.map_nil];rfl) ?_
 with_reducible refine (laws_toTree.calls k n2 t2 b2 A2 c2 l2 z1 z2 z3 z4 _ (Kd.C_below HP2.out HB4.out) HC2.out HT2.out).mono ?_
 rintro e w5 ⟨v5, rfl, hr5, hb5⟩
 refine ⟨_, rfl, ?_⟩
 obtain ⟨A5, k5, rfl⟩ := Kd.R_slice hr5
 have HR5 := Aside0.mk (hr5)
 have HB5 := Aside0.mk (below_step HB4.out hb5)
 have HX15 := Aside0.mk (blk_below HX14.out hb5)
 have HX25 := Aside0.mk (blk_below HX24.out hb5)
 have HR4b := Aside0.mk (Kd.R_below HR4.out hb5)
 clear hr5 hb5
 refine hK.out _ _ ⟨(blk_cell HX15.out 0).trans rfl, (blk_cell HX15.out 1).trans rfl, (blk_cell HX15.out 2).trans rfl, (blk_cell HX15.out 3).trans rfl, (blk_cell HX25.out 0).trans rfl, (blk_cell HX25.out 1).trans rfl, (blk_cell HX25.out 2).trans rfl, (blk_cell HX25.out 3).trans rfl⟩ (fun hHeld => ?_)
 clear hK K
 refine norm_ (a' := ?_) ?_ ?_
 rotate_left
 ·show Act.put _ (some 31) _ = _
  simp only [Act.put, List.setIfInBounds_toArray, List.set_cons_zero, List.set_cons_succ, i64_w, i32_w]
  rfl
 refine last_ (i := 4) (N := some 32) #[true, true, true, true, true, false, false, false, false, false] rfl rfl (by kernel_rfl) (by decide) (fun K hK => ?_)
 refine goes_ Try.func47 (by kernel_rfl) rfl #[.agg #[.string y1, .string y2, .bool y3, .slice A4 y4.length k4], .agg #[.string z1, .string z2, .bool z3, .slice A5 z4.length k5]] (by rfl) rfl rfl (by simp only [List.map_toArray, List.map_cons, List.map_nil];rfl) ?_
 with_reducible refine (spec_Places.calls k y1 y2 y3 A4 k4 y4 z1 z2 z3 A5 k5 z4 g er _ (Kd.R_reads' HR4b.out).2.2 (Kd.R_reads' HR4b.out).2.1 (Kd.R_reads' HR5.out).2.2 (Kd.R_reads' HR5.out).2.1 HSP.out).mono ?_
 rintro e w6 ⟨v6, rfl, hn6, hb6⟩
 refine ⟨_, rfl, ?_⟩
 obtain ⟨A6, k6, rfl⟩ := Kd.N_slice hn6
 have HN6 := Aside0.mk (hn6)
 have HB6 := Aside0.mk (below_step HB5.out hb6)
 have HX16 := Aside0.mk (blk_below HX15.out hb6)
 have HX26 := Aside0.mk (blk_below HX25.out hb6)
 clear hn6 hb6 HR4 HR4b HR5
 refine hK.out _ _ ?_
 clear hK K
 refine norm_ (a' := ?_) ?_ ?_
 rotate_left
 ·show Act.put _ (some 32) _ = _
  simp only [Act.put, List.setIfInBounds_toArray, List.set_cons_zero, List.set_cons_succ, i64_w, i32_w]
  rfl
 refine pure_ (i := 5) (N := some 27) (v := ?_) (a' := ?_) #[true, true, true, true, true, true, false, false, false, false] rfl rfl (by kernel_rfl) (fun _ _ _ h => h) (Or.inl ⟨by rfl, ?_⟩) ?_ ?_
 rotate_left
 ·intro w'
  go_simp
  with_reducible rfl
 rotate_left
 ·simp only [Act.put, List.setIfInBounds_toArray, List.set_cons_zero, List.set_cons_succ, i64_w, i32_w]
  rfl
 refine pure_ (i := 6) (N := some 33) (v := ?_) (a' := ?_) #[true, true, true, true, true, true, true, false, false, false] rfl rfl (by kernel_rfl) (fun _ _ _ h => h) (Or.inl ⟨by rfl, ?_⟩) ?_ ?_
 rotate_left
 ·intro w'
  go_simp
  with_reducible rfl
 rotate_left
 ·simp only [Act.put, List.setIfInBounds_toArray, List.set_cons_zero, List.set_cons_succ, i64_w, i32_w]
  rfl
 refine pure_ (i := 7) (N := some 34) (v := ?_) (a' := ?_) #[true, true, true, true, true, true, true, true, false, false] rfl rfl (by kernel_rfl) (fun _ _ _ h => h) (Or.inl ⟨by rfl, ?_⟩) ?_ ?_
 rotate_left
 ·intro w'
  go_simp
  with_reducible rfl
 rotate_left
 ·simp only [Act.put, List.setIfInBounds_toArray, List.set_cons_zero, List.set_cons_succ, i64_w, i32_w]
  rfl
 refine pure_ (i := 8) (N := some 6) (v := ?_) (a' := ?_) #[true, true, true, true, true, true, true, true, true, false] rfl rfl (by kernel_rfl) (fun _ _ _ h => h) (Or.inl ⟨by rfl, ?_⟩) ?_ ?_
 rotate_left
 ·intro w'
  go_simp
  with_reducible rfl
 rotate_left
 ·simp only [Act.put, List.setIfInBounds_toArray, List.set_cons_zero, List.set_cons_succ, i64_w, i32_w]
  rfl
 refine pure_ (i := 9) (N := some 7) (v := ?_) (a' := ?_) #[true, true, true, true, true, true, true, true, true, true] rfl rfl (by kernel_rfl) (fun _ _ _ h => h) (Or.inl ⟨by rfl, ?_⟩) ?_ ?_
 rotate_left
 ·intro w'
  go_simp
  with_reducible rfl
 rotate_left
 ·simp only [Act.put, List.setIfInBounds_toArray, List.set_cons_zero, List.set_cons_succ, i64_w, i32_w]
  rfl
 refine done_ (by kernel_rfl) ?_
 have hx1_0 : w6.cell? ⟨w.heap.size, 0, none⟩ = some (.string n1) := (blk_cell HX16.out 0).trans rfl
 have hx1_1 : w6.cell? ⟨w.heap.size, 1, none⟩ = some (.string t1) := (blk_cell HX16.out 1).trans rfl
 have hx1_2 : w6.cell? ⟨w.heap.size, 2, none⟩ = some (.bool b1) := (blk_cell HX16.out 2).trans rfl
 have hx1_3 : w6.cell? ⟨w.heap.size, 3, none⟩ = some (.slice A1 l1.length c1) := (blk_cell HX16.out 3).trans rfl
 go_wp2_with (first
  | (go_at_call 32;(with_reducible refine (laws_toTree.calls k n1 t1 b1 A1 c1 l1 y1 y2 y3 y4 _ (Kd.C_below HP.out HB6.out) HC.out HT1.out).mono ?_);rintro e w7 ⟨v7, rfl, hr7, hb7⟩;obtain ⟨A7, k7, rfl⟩ := Kd.R_slice hr7;have HR7 := Aside0.mk (hr7);have HB7 := Aside0.mk (below_step HB6.out hb7);have HX17 := Aside0.mk (blk_below HX16.out hb7);have HX27 := Aside0.mk (blk_below HX26.out hb7);have HB7b := Aside0.mk (below_alloc HB7.out (.cells #[.string y1, .string y2, .bool y3, .slice A7 y4.length k7] 53));have HX17b := Aside0.mk (blk_alloc HX17.out (.cells #[.string y1, .string y2, .bool y3, .slice A7 y4.length k7] 53));have HX27b := Aside0.mk (blk_alloc HX27.out (.cells #[.string y1, .string y2, .bool y3, .slice A7 y4.length k7] 53));have HL78 : Aside0 (w7.heap.size ≤ (w7.alloc (.cells #[.string y1, .string y2, .bool y3, .slice A7 y4.length k7] 53)).heap.size) := ⟨(below_alloc (Below.refl _ _) _).size⟩;have HX77 := Aside0.mk (blk_new w7 (.cells #[.string y1, .string y2, .bool y3, .slice A7 y4.length k7] 53));have K67 := Aside0.mk (below_alloc hb7 (.cells #[.string y1, .string y2, .bool y3, .slice A7 y4.length k7] 53));clear hr7 hb7;clear hx1_0 hx1_1 hx1_2 hx1_3;have hx2_0 : (w7.alloc (.cells #[.string y1, .string y2, .bool y3, .slice A7 y4.length k7] 53)).cell? ⟨w.heap.size + 1, 0, none⟩ = some (.string n2) := (blk_cell HX27b.out 0).trans rfl;have hx2_1 : (w7.alloc (.cells #[.string y1, .string y2, .bool y3, .slice A7 y4.length k7] 53)).cell? ⟨w.heap.size + 1, 1, none⟩ = some (.string t2) := (blk_cell HX27b.out 1).trans rfl;have hx2_2 : (w7.alloc (.cells #[.string y1, .string y2, .bool y3, .slice A7 y4.length k7] 53)).cell? ⟨w.heap.size + 1, 2, none⟩ = some (.bool b2) := (blk_cell HX27b.out 2).trans rfl;have hx2_3 : (w7.alloc (.cells #[.string y1, .string y2, .bool y3, .slice A7 y4.length k7] 53)).cell? ⟨w.heap.size + 1, 3, none⟩ = some (.slice A2 l2.length c2) := (blk_cell HX27b.out 3).trans rfl)
  | (go_at_call 32;(with_reducible refine (laws_toTree.calls k n2 t2 b2 A2 c2 l2 z1 z2 z3 z4 _ (Kd.C_below HP2.out HB7b.out) HC2.out HT2.out).mono ?_);rintro e w8 ⟨v8, rfl, hr8, hb8⟩;obtain ⟨A8, k8, rfl⟩ := Kd.R_slice hr8;have HR8 := Aside0.mk (hr8);have HB8 := Aside0.mk (below_step HB7b.out hb8);have HX18 := Aside0.mk (blk_below HX17b.out hb8);have HX28 := Aside0.mk (blk_below HX27b.out hb8);have HB8b := Aside0.mk (below_alloc HB8.out (.cells #[.string z1, .string z2, .bool z3, .slice A8 z4.length k8] 53));have HX18b := Aside0.mk (blk_alloc HX18.out (.cells #[.string z1, .string z2, .bool z3, .slice A8 z4.length k8] 53));have HX28b := Aside0.mk (blk_alloc HX28.out (.cells #[.string z1, .string z2, .bool z3, .slice A8 z4.length k8] 53));have HL8 := Aside0.mk (hb8.size);have HL88 := Aside0.mk (Nat.le_trans HL78.out hb8.size);have HL8a : Aside0 (w8.heap.size ≤ (w8.alloc (.cells #[.string z1, .string z2, .bool z3, .slice A8 z4.length k8] 53)).heap.size) := ⟨(below_alloc (Below.refl _ _) _).size⟩;have HX78 := Aside0.mk (blk_alloc (blk_below HX77.out hb8) (.cells #[.string z1, .string z2, .bool z3, .slice A8 z4.length k8] 53));have HX88 := Aside0.mk (blk_new w8 (.cells #[.string z1, .string z2, .bool z3, .slice A8 z4.length k8] 53));have K68 := Aside0.mk (below_alloc (below_step K67.out hb8) (.cells #[.string z1, .string z2, .bool z3, .slice A8 z4.length k8] 53));have K78 := Aside0.mk (below_alloc (below_step (below_alloc (Below.refl w7.heap.size w7) (.cells #[.string y1, .string y2, .bool y3, .slice A7 y4.length k7] 53)) hb8) (.cells #[.string z1, .string z2, .bool z3, .slice A8 z4.length k8] 53));have K88 := Aside0.mk (below_alloc (Below.refl w8.heap.size w8) (.cells #[.string z1, .string z2, .bool z3, .slice A8 z4.length k8] 53));clear hr8 hb8;clear hx2_0 hx2_1 hx2_2 hx2_3;have hx7_0 : (w8.alloc (.cells #[.string z1, .string z2, .bool z3, .slice A8 z4.length k8] 53)).cell? ⟨w7.heap.size, 0, none⟩ = some (.string y1) := (blk_cell HX78.out 0).trans rfl;have hx7_1 : (w8.alloc (.cells #[.string z1, .string z2, .bool z3, .slice A8 z4.length k8] 53)).cell? ⟨w7.heap.size, 1, none⟩ = some (.string y2) := (blk_cell HX78.out 1).trans rfl;have hx7_2 : (w8.alloc (.cells #[.string z1, .string z2, .bool z3, .slice A8 z4.length k8] 53)).cell? ⟨w7.heap.size, 2, none⟩ = some (.bool y3) := (blk_cell HX78.out 2).trans rfl;have hx7_3 : (w8.alloc (.cells #[.string z1, .string z2, .bool z3, .slice A8 z4.length k8] 53)).cell? ⟨w7.heap.size, 3, none⟩ = some (.slice A7 y4.length k7) := (blk_cell HX78.out 3).trans rfl;have hx8_0 : (w8.alloc (.cells #[.string z1, .string z2, .bool z3, .slice A8 z4.length k8] 53)).cell? ⟨w8.heap.size, 0, none⟩ = some (.string z1) := (blk_cell HX88.out 0).trans rfl;have hx8_1 : (w8.alloc (.cells #[.string z1, .string z2, .bool z3, .slice A8 z4.length k8] 53)).cell? ⟨w8.heap.size, 1, none⟩ = some (.string z2) := (blk_cell HX88.out 1).trans rfl;have hx8_2 : (w8.alloc (.cells #[.string z1, .string z2, .bool z3, .slice A8 z4.length k8] 53)).cell? ⟨w8.heap.size, 2, none⟩ = some (.bool z3) := (blk_cell HX88.out 2).trans rfl;have hx8_3 : (w8.alloc (.cells #[.string z1, .string z2, .bool z3, .slice A8 z4.length k8] 53)).cell? ⟨w8.heap.size, 3, none⟩ = some (.slice A8 z4.length k8) := (blk_cell HX88.out 3).trans rfl)
  | (go_at_call 48;(with_reducible refine (impl_Places.calls k y1 y2 y3 A7 k7 y4 z1 z2 z3 A8 k8 z4 g er _ (Kd.C_below (Kd.R_reads' HR7.out).2.2 K78.out) (Kd.R_reads' HR7.out).2.1 (Kd.C_below (Kd.R_reads' HR8.out).2.2 K88.out) (Kd.R_reads' HR8.out).2.1 HIM.out).mono ?_);rintro e w9 ⟨v9, rfl, hs9, hb9⟩;obtain ⟨A9, k9, rfl⟩ := Kd.S_slice hs9;have HS9 := Aside0.mk (hs9);have HB9 := Aside0.mk (below_step HB8b.out hb9);have HX19 := Aside0.mk (blk_below HX18b.out hb9);have HX29 := Aside0.mk (blk_below HX28b.out hb9);have HX79 := Aside0.mk (blk_below HX78.out hb9);have HX89 := Aside0.mk (blk_below HX88.out hb9);have K69 := Aside0.mk (below_step K68.out hb9);have K79 := Aside0.mk (below_step K78.out hb9);have K89 := Aside0.mk (below_step K88.out hb9);have HZ9 := Aside0.mk (hb9.size);clear hs9 hb9;clear hx7_0 hx7_1 hx7_2 hx7_3 hx8_0 hx8_1 hx8_2 hx8_3)
  | (go_at_call 49;(with_reducible refine (laws_eqIntSS.calls k A9 k9 g A6 k6 g true _ (Kd.S_reads' HS9.out).2.2 (Kd.S_reads' HS9.out).2.1 (Kd.N_reads' (Kd.N_below HN6.out K69.out)).2.2 (Kd.N_reads' HN6.out).2.1 HEQ.out).mono ?_);rintro e w10 ⟨rfl, hd⟩;have hb10 := hd.below;clear hd;have HS10 := Aside0.mk (Kd.S_below HS9.out hb10);have HB10 := Aside0.mk (below_step HB9.out hb10);have HX110 := Aside0.mk (blk_below HX19.out hb10);have HX210 := Aside0.mk (blk_below HX29.out hb10);have HX710 := Aside0.mk (blk_below HX79.out hb10);have HX810 := Aside0.mk (blk_below HX89.out hb10);have K610 := Aside0.mk (below_step K69.out hb10);have K710 := Aside0.mk (below_step K79.out hb10);have K810 := Aside0.mk (below_step K89.out hb10);have HZ10 := Aside0.mk (Nat.le_trans HZ9.out hb10.size);clear hb10))
 have HBb := Aside0.mk (below_step HB10.out (below_drew (Below.refl w10.heap.size w10)))
 have HX1b := Aside0.mk (blk_below HX110.out (below_drew (Below.refl w10.heap.size w10)))
 have HX2b := Aside0.mk (blk_below HX210.out (below_drew (Below.refl w10.heap.size w10)))
 have HX7b := Aside0.mk (blk_below HX710.out (below_drew (Below.refl w10.heap.size w10)))
 have HX8b := Aside0.mk (blk_below HX810.out (below_drew (Below.refl w10.heap.size w10)))
 have K6b := Aside0.mk (below_step K610.out (below_drew (Below.refl w10.heap.size w10)))
 have K7b := Aside0.mk (below_step K710.out (below_drew (Below.refl w10.heap.size w10)))
 have K8b := Aside0.mk (below_step K810.out (below_drew (Below.refl w10.heap.size w10)))
 have HSb := Aside0.mk (Kd.S_below HS10.out (below_drew (Below.refl w10.heap.size w10)))
 have HZb := Aside0.mk (Nat.le_trans HZ10.out (below_drew (Below.refl w10.heap.size w10)).size)
 clear HB10 HX110 HX210 HX710 HX810 K610 K710 K810 HS10 HZ10
 refine start_ (n := 5) (S := fun w' => w'.cell? ⟨w7.heap.size, 0, none⟩ = some (.string y1) ∧ w'.cell? ⟨w7.heap.size, 1, none⟩ = some (.string y2) ∧ w'.cell? ⟨w7.heap.size, 2, none⟩ = some (.bool y3) ∧ w'.cell? ⟨w7.heap.size, 3, none⟩ = some (.slice A7 y4.length k7) ∧ w'.cell? ⟨w.heap.size, 0, none⟩ = some (.string n1) ∧ w'.cell? ⟨w.heap.size, 1, none⟩ = some (.string t1) ∧ w'.cell? ⟨w.heap.size, 2, none⟩ = some (.bool b1) ∧ w'.cell? ⟨w.heap.size, 3, none⟩ = some (.slice A1 l1.length c1)) (ds := [3]) #[false, false, false, false, false] (by kernel_rfl) rfl rfl ⟨(blk_cell HX7b.out 0).trans rfl, (blk_cell HX7b.out 1).trans rfl, (blk_cell HX7b.out 2).trans rfl, (blk_cell HX7b.out 3).trans rfl, (blk_cell HX1b.out 0).trans rfl, (blk_cell HX1b.out 1).trans rfl, (blk_cell HX1b.out 2).trans rfl, (blk_cell HX1b.out 3).trans rfl⟩ (fun hHeld => ?_)
 generalize w10.drew = Wb at HBb HX1b HX2b HX7b HX8b K6b K7b K8b HSb HZb hHeld ⊢
 refine take_ (i := 0) (N := some 54) (v := ?_) (a' := ?_) #[true, false, false, false, false] rfl rfl (by kernel_rfl) (fun _ _ _ h => h) (Or.inl ⟨by rfl, ?_⟩) hHeld ?_ ?_
 rotate_left
 ·rintro w' ⟨s0, s1, s2, s3, s4, s5, s6, s7⟩
  go_simp
  with_reducible rfl
 rotate_left
 ·simp only [Act.put, List.setIfInBounds_toArray, List.set_cons_zero, List.set_cons_succ, i64_w, i32_w]
  rfl
 refine take_ (i := 1) (N := some 55) (v := ?_) (a' := ?_) #[true, true, false, false, false] rfl rfl (by kernel_rfl) (fun _ _ _ h => h) (Or.inl ⟨by rfl, ?_⟩) hHeld ?_ ?_
 rotate_left
 ·rintro w' ⟨s0, s1, s2, s3, s4, s5, s6, s7⟩
  go_simp
  with_reducible rfl
 rotate_left
 ·simp only [Act.put, List.setIfInBounds_toArray, List.set_cons_zero, List.set_cons_succ, i64_w, i32_w]
  rfl
 refine one_ (i := 2) (N := some 56) #[true, true, true, false, false] rfl rfl (by kernel_rfl) (by decide) (fun K hK => ?_)
 refine goes_ Try.func32 (by kernel_rfl) rfl #[.agg #[.string n1, .string t1, .bool b1, .slice A1 l1.length c1]] (by rfl) rfl rfl (by simp only [List.map_toArray, List.map_cons, List.map_nil];rfl) ?_
 with_reducible refine (laws_toTree.calls k n1 t1 b1 A1 c1 l1 y1 y2 y3 y4 _ (Kd.C_below HP.out HBb.out) HC.out HT1.out).mono ?_
 rintro e w11 ⟨v11, rfl, hr11, hb11⟩
 refine ⟨_, rfl, ?_⟩
 obtain ⟨A11, k11, rfl⟩ := Kd.R_slice hr11
 have HR11 := Aside0.mk (hr11)
 have HB11 := Aside0.mk (below_step HBb.out hb11)
 have HX111 := Aside0.mk (blk_below HX1b.out hb11)
 have HX211 := Aside0.mk (blk_below HX2b.out hb11)
 have HX711 := Aside0.mk (blk_below HX7b.out hb11)
 have HX811 := Aside0.mk (blk_below HX8b.out hb11)
 have K611 := Aside0.mk (below_step K6b.out hb11)
 have K711 := Aside0.mk (below_step K7b.out hb11)
 have K811 := Aside0.mk (below_step K8b.out hb11)
 have HS11 := Aside0.mk (Kd.S_below HSb.out hb11)
 have HZ11 := Aside0.mk (Nat.le_trans HZb.out hb11.size)
 clear HBb HX1b HX2b HX7b HX8b K6b K7b K8b HSb HZb
 clear hr11 hb11
 refine hK.out _ _ ⟨(blk_cell HX711.out 0).trans rfl, (blk_cell HX711.out 1).trans rfl, (blk_cell HX711.out 2).trans rfl, (blk_cell HX711.out 3).trans rfl, (blk_cell HX111.out 0).trans rfl, (blk_cell HX111.out 1).trans rfl, (blk_cell HX111.out 2).trans rfl, (blk_cell HX111.out 3).trans rfl⟩ (fun hHeld => ?_)
 clear hK K
 refine norm_ (a' := ?_) ?_ ?_
 rotate_left
 ·show Act.put _ (some 56) _ = _
  simp only [Act.put, List.setIfInBounds_toArray, List.set_cons_zero, List.set_cons_succ, i64_w, i32_w]
  rfl
 refine last_ (i := 3) (N := some 57) #[true, true, true, true, false] rfl rfl (by kernel_rfl) (by decide) (fun K hK => ?_)
 refine goes_ Try.func34 (by kernel_rfl) rfl #[.agg #[.string y1, .string y2, .bool y3, .slice A7 y4.length k7], .agg #[.string y1, .string y2, .bool y3, .slice A11 y4.length k11]] (by rfl) rfl rfl (by simp only [List.map_toArray, List.map_cons, List.map_nil];rfl) ?_
 with_reducible refine (laws_eqTree.calls k y1 y2 y3 A7 k7 y4 y1 y2 y3 A11 k11 y4 true _ (Kd.C_below (Kd.R_reads' HR7.out).2.2 K711.out) (Kd.R_reads' HR7.out).2.1 (Kd.R_reads' HR11.out).2.2 (Kd.R_reads' HR11.out).2.1 HEY.out).mono ?_
 rintro e w12 ⟨rfl, hb12⟩
 refine ⟨_, rfl, ?_⟩
 have HB12 := Aside0.mk (below_step HB11.out hb12)
 have HX112 := Aside0.mk (blk_below HX111.out hb12)
 have HX212 := Aside0.mk (blk_below HX211.out hb12)
 have HX712 := Aside0.mk (blk_below HX711.out hb12)
 have HX812 := Aside0.mk (blk_below HX811.out hb12)
 have K612 := Aside0.mk (below_step K611.out hb12)
 have K712 := Aside0.mk (below_step K711.out hb12)
 have K812 := Aside0.mk (below_step K811.out hb12)
 have HS12 := Aside0.mk (Kd.S_below HS11.out hb12)
 have HZ12 := Aside0.mk (Nat.le_trans HZ11.out hb12.size)
 clear HB11 HX111 HX211 HX711 HX811 K611 K711 K811 HS11 HZ11
 clear hb12 HR11
 refine hK.out _ _ ?_
 clear hK K
 refine norm_ (a' := ?_) ?_ ?_
 rotate_left
 ·show Act.put _ (some 57) _ = _
  simp only [Act.put, List.setIfInBounds_toArray, List.set_cons_zero, List.set_cons_succ, i64_w, i32_w]
  rfl
 refine pure_ (i := 4) (N := some 58) (v := ?_) (a' := ?_) #[true, true, true, true, true] rfl rfl (by kernel_rfl) (fun _ _ _ h => h) (Or.inl ⟨by rfl, ?_⟩) ?_ ?_
 rotate_left
 ·intro w'
  go_simp
  with_reducible rfl
 rotate_left
 ·simp only [Act.put, List.setIfInBounds_toArray, List.set_cons_zero, List.set_cons_succ, i64_w, i32_w]
  rfl
 refine done_ (by kernel_rfl) ?_
 go_wp2
 have HBc := Aside0.mk (below_step HB12.out (below_drew (Below.refl w12.heap.size w12)))
 have HX1c := Aside0.mk (blk_below HX112.out (below_drew (Below.refl w12.heap.size w12)))
 have HX2c := Aside0.mk (blk_below HX212.out (below_drew (Below.refl w12.heap.size w12)))
 have HX7c := Aside0.mk (blk_below HX712.out (below_drew (Below.refl w12.heap.size w12)))
 have HX8c := Aside0.mk (blk_below HX812.out (below_drew (Below.refl w12.heap.size w12)))
 have K6c := Aside0.mk (below_step K612.out (below_drew (Below.refl w12.heap.size w12)))
 have K7c := Aside0.mk (below_step K712.out (below_drew (Below.refl w12.heap.size w12)))
 have K8c := Aside0.mk (below_step K812.out (below_drew (Below.refl w12.heap.size w12)))
 have HSc := Aside0.mk (Kd.S_below HS12.out (below_drew (Below.refl w12.heap.size w12)))
 have HZc := Aside0.mk (Nat.le_trans HZ12.out (below_drew (Below.refl w12.heap.size w12)).size)
 clear HB12 HX112 HX212 HX712 HX812 K612 K712 K812 HS12 HZ12
 refine start_ (n := 5) (S := fun w' => w'.cell? ⟨w8.heap.size, 0, none⟩ = some (.string z1) ∧ w'.cell? ⟨w8.heap.size, 1, none⟩ = some (.string z2) ∧ w'.cell? ⟨w8.heap.size, 2, none⟩ = some (.bool z3) ∧ w'.cell? ⟨w8.heap.size, 3, none⟩ = some (.slice A8 z4.length k8) ∧ w'.cell? ⟨w.heap.size + 1, 0, none⟩ = some (.string n2) ∧ w'.cell? ⟨w.heap.size + 1, 1, none⟩ = some (.string t2) ∧ w'.cell? ⟨w.heap.size + 1, 2, none⟩ = some (.bool b2) ∧ w'.cell? ⟨w.heap.size + 1, 3, none⟩ = some (.slice A2 l2.length c2)) (ds := [3]) #[false, false, false, false, false] (by kernel_rfl) rfl rfl ⟨(blk_cell HX8c.out 0).trans rfl, (blk_cell HX8c.out 1).trans rfl, (blk_cell HX8c.out 2).trans rfl, (blk_cell HX8c.out 3).trans rfl, (blk_cell HX2c.out 0).trans rfl, (blk_cell HX2c.out 1).trans rfl, (blk_cell HX2c.out 2).trans rfl, (blk_cell HX2c.out 3).trans rfl⟩ (fun hHeld => ?_)
 generalize w12.drew = Wc at HBc HX1c HX2c HX7c HX8c K6c K7c K8c HSc HZc hHeld ⊢
 refine take_ (i := 0) (N := some 59) (v := ?_) (a' := ?_) #[true, false, false, false, false] rfl rfl (by kernel_rfl) (fun _ _ _ h => h) (Or.inl ⟨by rfl, ?_⟩) hHeld ?_ ?_
 rotate_left
 ·rintro w' ⟨s0, s1, s2, s3, s4, s5, s6, s7⟩
  go_simp
  with_reducible rfl
 rotate_left
 ·simp only [Act.put, List.setIfInBounds_toArray, List.set_cons_zero, List.set_cons_succ, i64_w, i32_w]
  rfl
 refine take_ (i := 1) (N := some 60) (v := ?_) (a' := ?_) #[true, true, false, false, false] rfl rfl (by kernel_rfl) (fun _ _ _ h => h) (Or.inl ⟨by rfl, ?_⟩) hHeld ?_ ?_
 rotate_left
 ·rintro w' ⟨s0, s1, s2, s3, s4, s5, s6, s7⟩
  go_simp
  with_reducible rfl
 rotate_left
 ·simp only [Act.put, List.setIfInBounds_toArray, List.set_cons_zero, List.set_cons_succ, i64_w, i32_w]
  rfl
 refine one_ (i := 2) (N := some 61) #[true, true, true, false, false] rfl rfl (by kernel_rfl) (by decide) (fun K hK => ?_)
 refine goes_ Try.func32 (by kernel_rfl) rfl #[.agg #[.string n2, .string t2, .bool b2, .slice A2 l2.length c2]] (by rfl) rfl rfl (by simp only [List.map_toArray, List.map_cons, List.map_nil];rfl) ?_
 with_reducible refine (laws_toTree.calls k n2 t2 b2 A2 c2 l2 z1 z2 z3 z4 _ (Kd.C_below HP2.out HBc.out) HC2.out HT2.out).mono ?_
 rintro e w13 ⟨v13, rfl, hr13, hb13⟩
 refine ⟨_, rfl, ?_⟩
 obtain ⟨A13, k13, rfl⟩ := Kd.R_slice hr13
 have HR13 := Aside0.mk (hr13)
 have HB13 := Aside0.mk (below_step HBc.out hb13)
 have HX113 := Aside0.mk (blk_below HX1c.out hb13)
 have HX213 := Aside0.mk (blk_below HX2c.out hb13)
 have HX713 := Aside0.mk (blk_below HX7c.out hb13)
 have HX813 := Aside0.mk (blk_below HX8c.out hb13)
 have K613 := Aside0.mk (below_step K6c.out hb13)
 have K713 := Aside0.mk (below_step K7c.out hb13)
 have K813 := Aside0.mk (below_step K8c.out hb13)
 have HS13 := Aside0.mk (Kd.S_below HSc.out hb13)
 have HZ13 := Aside0.mk (Nat.le_trans HZc.out hb13.size)
 clear HBc HX1c HX2c HX7c HX8c K6c K7c K8c HSc HZc
 clear hr13 hb13
 refine hK.out _ _ ⟨(blk_cell HX813.out 0).trans rfl, (blk_cell HX813.out 1).trans rfl, (blk_cell HX813.out 2).trans rfl, (blk_cell HX813.out 3).trans rfl, (blk_cell HX213.out 0).trans rfl, (blk_cell HX213.out 1).trans rfl, (blk_cell HX213.out 2).trans rfl, (blk_cell HX213.out 3).trans rfl⟩ (fun hHeld => ?_)
 clear hK K
 refine norm_ (a' := ?_) ?_ ?_
 rotate_left
 ·show Act.put _ (some 61) _ = _
  simp only [Act.put, List.setIfInBounds_toArray, List.set_cons_zero, List.set_cons_succ, i64_w, i32_w]
  rfl
 refine last_ (i := 3) (N := some 62) #[true, true, true, true, false] rfl rfl (by kernel_rfl) (by decide) (fun K hK => ?_)
 refine goes_ Try.func34 (by kernel_rfl) rfl #[.agg #[.string z1, .string z2, .bool z3, .slice A8 z4.length k8], .agg #[.string z1, .string z2, .bool z3, .slice A13 z4.length k13]] (by rfl) rfl rfl (by simp only [List.map_toArray, List.map_cons, List.map_nil];rfl) ?_
 with_reducible refine (laws_eqTree.calls k z1 z2 z3 A8 k8 z4 z1 z2 z3 A13 k13 z4 true _ (Kd.C_below (Kd.R_reads' HR8.out).2.2 K813.out) (Kd.R_reads' HR8.out).2.1 (Kd.R_reads' HR13.out).2.2 (Kd.R_reads' HR13.out).2.1 HEZ.out).mono ?_
 rintro e w14 ⟨rfl, hb14⟩
 refine ⟨_, rfl, ?_⟩
 have HB14 := Aside0.mk (below_step HB13.out hb14)
 have HX114 := Aside0.mk (blk_below HX113.out hb14)
 have HX214 := Aside0.mk (blk_below HX213.out hb14)
 have HX714 := Aside0.mk (blk_below HX713.out hb14)
 have HX814 := Aside0.mk (blk_below HX813.out hb14)
 have K614 := Aside0.mk (below_step K613.out hb14)
 have K714 := Aside0.mk (below_step K713.out hb14)
 have K814 := Aside0.mk (below_step K813.out hb14)
 have HS14 := Aside0.mk (Kd.S_below HS13.out hb14)
 have HZ14 := Aside0.mk (Nat.le_trans HZ13.out hb14.size)
 clear HB13 HX113 HX213 HX713 HX813 K613 K713 K813 HS13 HZ13
 clear hb14 HR13
 refine hK.out _ _ ?_
 clear hK K
 refine norm_ (a' := ?_) ?_ ?_
 rotate_left
 ·show Act.put _ (some 62) _ = _
  simp only [Act.put, List.setIfInBounds_toArray, List.set_cons_zero, List.set_cons_succ, i64_w, i32_w]
  rfl
 refine pure_ (i := 4) (N := some 63) (v := ?_) (a' := ?_) #[true, true, true, true, true] rfl rfl (by kernel_rfl) (fun _ _ _ h => h) (Or.inl ⟨by rfl, ?_⟩) ?_ ?_
 rotate_left
 ·intro w'
  go_simp
  with_reducible rfl
 rotate_left
 ·simp only [Act.put, List.setIfInBounds_toArray, List.set_cons_zero, List.set_cons_succ, i64_w, i32_w]
  rfl
 refine done_ (by kernel_rfl) ?_
 have hx7_0 : w14.cell? ⟨w7.heap.size, 0, none⟩ = some (.string y1) := (blk_cell HX714.out 0).trans rfl
 have hx7_1 : w14.cell? ⟨w7.heap.size, 1, none⟩ = some (.string y2) := (blk_cell HX714.out 1).trans rfl
 have hx7_2 : w14.cell? ⟨w7.heap.size, 2, none⟩ = some (.bool y3) := (blk_cell HX714.out 2).trans rfl
 have hx7_3 : w14.cell? ⟨w7.heap.size, 3, none⟩ = some (.slice A7 y4.length k7) := (blk_cell HX714.out 3).trans rfl
 go_wp2_with (first
  | (go_at_call 50;(with_reducible refine (laws_markTree.calls k y1 y2 y3 _ y4 1 m1 w6.heap.size w7.heap.size _ _ (ShAt.same _ (shAt_of_R _ (Nat.lt_succ_self _) HR7.out) (fun g_ _ hg => K714.out.block g_ hg)) K614.out.size HM1.out).mono ?_);rintro e w15 ⟨rfl, ha15⟩;have HB15 := Aside0.mk (HB14.out.trans (ha15.1.mono HB6.out.size));have HX115 := Aside0.mk ((ha15.1.block _ (blk_lt HX16.out)).trans HX114.out);have HX215 := Aside0.mk ((ha15.1.block _ (blk_lt HX26.out)).trans HX214.out);have K615 := Aside0.mk (K614.out.trans ha15.1);have HX815 := Aside0.mk ((ha15.2.1 _ (Nat.le_trans HL78.out (Nat.le_trans (Nat.le_refl _) HL8.out)) (blk_lt HX814.out)).trans HX814.out);have HS15 := Aside0.mk (Kd.S_mono (ok' := fun _ => True) (Kd.S_move (Kd.S_bound HS14.out) (fun j hj => ha15.2.1 j (Nat.le_trans HL88.out (Nat.le_trans HL8a.out hj.2.1)) hj.2.2.1)) (fun _ _ => trivial));have HZ15 := Aside0.mk (Nat.le_trans HZ14.out ha15.1.size);have HT15 := Aside0.mk (show ∀ g_, (w7.alloc (.cells #[.string y1, .string y2, .bool y3, .slice A7 y4.length k7] 53)).heap.size ≤ g_ → g_ < w8.heap.size → w15.heap[g_]? = w8.heap[g_]? from fun g_ h1 h2 => (ha15.2.1 g_ (Nat.le_trans HL78.out h1) (Nat.lt_of_lt_of_le h2 K814.out.size)).trans (K814.out.block g_ h2));clear ha15 HS14 HX114 HX214;clear hx7_0 hx7_1 hx7_2 hx7_3;have hx8_0 : w15.cell? ⟨w8.heap.size, 0, none⟩ = some (.string z1) := (blk_cell HX815.out 0).trans rfl;have hx8_1 : w15.cell? ⟨w8.heap.size, 1, none⟩ = some (.string z2) := (blk_cell HX815.out 1).trans rfl;have hx8_2 : w15.cell? ⟨w8.heap.size, 2, none⟩ = some (.bool z3) := (blk_cell HX815.out 2).trans rfl;have hx8_3 : w15.cell? ⟨w8.heap.size, 3, none⟩ = some (.slice A8 z4.length k8) := (blk_cell HX815.out 3).trans rfl)
  | (go_at_call 50;(with_reducible refine (laws_markTree.calls k z1 z2 z3 _ z4 m1 m2 (w7.alloc (.cells #[.string y1, .string y2, .bool y3, .slice A7 y4.length k7] 53)).heap.size w8.heap.size _ _ (ShAt.same _ (shAt_of_R _ (Nat.lt_succ_self _) HR8.out) HT15.out) (Nat.le_trans HL8.out (Nat.le_trans HL8a.out HZ15.out)) HM2.out).mono ?_);rintro e w16 ⟨rfl, ha16⟩;have HB16 := Aside0.mk (HB15.out.trans (ha16.1.mono HB7b.out.size));have HX116 := Aside0.mk ((ha16.1.block _ (blk_lt HX17b.out)).trans HX115.out);have HX216 := Aside0.mk ((ha16.1.block _ (blk_lt HX27b.out)).trans HX215.out);have K616 := Aside0.mk (K615.out.trans (ha16.1.mono K67.out.size));have HS16 := Aside0.mk (Kd.S_mono (ok' := fun _ => True) (Kd.S_move (Kd.S_bound HS15.out) (fun j hj => ha16.2.1 j (Nat.le_trans HL8a.out hj.2.1) hj.2.2.1)) (fun _ _ => trivial));have HZ16 := Aside0.mk (Nat.le_trans HZ15.out ha16.1.size);clear ha16 HS15 HX115 HX215 HT15 HX815;clear hx8_0 hx8_1 hx8_2 hx8_3)
  | (go_at_call 49;(with_reducible refine (laws_eqIntSS.calls k A9 k9 g A6 k6 g true _ (Kd.S_reads' HS16.out).2.2 (Kd.S_reads' HS16.out).2.1 (Kd.N_reads' (Kd.N_below HN6.out K616.out)).2.2 (Kd.N_reads' HN6.out).2.1 HEQ.out).mono ?_);rintro e w17 ⟨rfl, hd⟩;have hb17 := hd.below;clear hd;have HB17 := Aside0.mk (below_step HB16.out hb17);have HX117 := Aside0.mk (blk_below HX116.out hb17);have HX217 := Aside0.mk (blk_below HX216.out hb17);have K617 := Aside0.mk (below_step K616.out hb17);have HS17 := Aside0.mk (Kd.S_below HS16.out hb17);have HZ17 := Aside0.mk (Nat.le_trans HZ16.out hb17.size);clear hb17 HB16 K616 HS16 HZ16)
  | (go_at_call 51;(obtain ⟨wA, hA1, hA2⟩ := cutW w17 (w8.alloc (.cells #[.string z1, .string z2, .bool z3, .slice A8 z4.length k8] 53)).heap.size HZ17.out);(with_reducible refine (laws_markIntSS.calls k _ g 1 m g' wA w17 (by rw [hA1];exact hA2) (by rw [hA1];exact HS17.out) HMM.out).mono ?_);rintro e w18 ⟨rfl, hs18, hb18, hz18⟩;rw [hA1] at hs18 hb18;have hv := below_via hA2 hb18 hz18;have HS18 := Aside0.mk hs18;have HB18 := Aside0.mk (HB17.out.trans (hv.mono HB8b.out.size));have HX118 := Aside0.mk ((hv.block _ (blk_lt HX18b.out)).trans HX117.out);have HX218 := Aside0.mk ((hv.block _ (blk_lt HX28b.out)).trans HX217.out);have K618 := Aside0.mk (K617.out.trans (hv.mono K68.out.size));have HGL := Aside0.mk ((Kd.S_reads' hs18).1);clear hs18 hb18 hz18 hv HS17 HB17 K617)
  | (go_at_call 52;(have hcall := laws_heldIntSS.calls k A9 k9 g' 1 m w18 (by have h_ := (Kd.S_reads' HS18.out).2.2;exact h_) (by have h_ := (Kd.S_reads' HS18.out).2.1;rw [HGL.out] at h_;exact h_) HHE.out);(rw [← HGL.out] at hcall);(with_reducible refine hcall.mono ?_);rintro e w19 ⟨rfl, hd⟩;clear hcall;have hb19 := hd.below;clear hd;have HB19 := Aside0.mk (below_step HB18.out hb19);have HX119 := Aside0.mk (blk_below HX118.out hb19);have HX219 := Aside0.mk (blk_below HX218.out hb19);have K619 := Aside0.mk (below_step K618.out hb19);have HS19 := Aside0.mk (Kd.S_below HS18.out hb19);clear hb19 HB18 K618 HS18))
 have HBd := Aside0.mk (below_step HB19.out (below_drew (Below.refl w19.heap.size w19)))
 have HX1d := Aside0.mk (blk_below HX119.out (below_drew (Below.refl w19.heap.size w19)))
 have HX2d := Aside0.mk (blk_below HX219.out (below_drew (Below.refl w19.heap.size w19)))
 have K6d := Aside0.mk (below_step K619.out (below_drew (Below.refl w19.heap.size w19)))
 have HSd := Aside0.mk (Kd.S_below HS19.out (below_drew (Below.refl w19.heap.size w19)))
 clear HB19 HX119 HX219 K619 HS19
 refine start_ (n := 10) (S := fun w' => w'.cell? ⟨w.heap.size, 0, none⟩ = some (.string n1) ∧ w'.cell? ⟨w.heap.size, 1, none⟩ = some (.string t1) ∧ w'.cell? ⟨w.heap.size, 2, none⟩ = some (.bool b1) ∧ w'.cell? ⟨w.heap.size, 3, none⟩ = some (.slice A1 l1.length c1) ∧ w'.cell? ⟨w.heap.size + 1, 0, none⟩ = some (.string n2) ∧ w'.cell? ⟨w.heap.size + 1, 1, none⟩ = some (.string t2) ∧ w'.cell? ⟨w.heap.size + 1, 2, none⟩ = some (.bool b2) ∧ w'.cell? ⟨w.heap.size + 1, 3, none⟩ = some (.slice A2 l2.length c2)) (ds := [4]) #[false, false, false, false, false, false, false, false, false, false] (by kernel_rfl) rfl rfl ⟨(blk_cell HX1d.out 0).trans rfl, (blk_cell HX1d.out 1).trans rfl, (blk_cell HX1d.out 2).trans rfl, (blk_cell HX1d.out 3).trans rfl, (blk_cell HX2d.out 0).trans rfl, (blk_cell HX2d.out 1).trans rfl, (blk_cell HX2d.out 2).trans rfl, (blk_cell HX2d.out 3).trans rfl⟩ (fun hHeld => ?_)
 generalize w19.drew = Wd at HBd HX1d HX2d K6d HSd hHeld ⊢
 refine take_ (i := 0) (N := some 95) (v := ?_) (a' := ?_) #[true, false, false, false, false, false, false, false, false, false] rfl rfl (by kernel_rfl) (fun _ _ _ h => h) (Or.inl ⟨by rfl, ?_⟩) hHeld ?_ ?_
 rotate_left
 ·rintro w' ⟨s0, s1, s2, s3, s4, s5, s6, s7⟩
  go_simp
  with_reducible rfl
 rotate_left
 ·simp only [Act.put, List.setIfInBounds_toArray, List.set_cons_zero, List.set_cons_succ, i64_w, i32_w]
  rfl
 refine take_ (i := 2) (N := some 97) (v := ?_) (a' := ?_) #[true, false, true, false, false, false, false, false, false, false] rfl rfl (by kernel_rfl) (fun _ _ _ h => h) (Or.inl ⟨by rfl, ?_⟩) hHeld ?_ ?_
 rotate_left
 ·rintro w' ⟨s0, s1, s2, s3, s4, s5, s6, s7⟩
  go_simp
  with_reducible rfl
 rotate_left
 ·simp only [Act.put, List.setIfInBounds_toArray, List.set_cons_zero, List.set_cons_succ, i64_w, i32_w]
  rfl
 refine one_ (i := 1) (N := some 96) #[true, true, true, false, false, false, false, false, false, false] rfl rfl (by kernel_rfl) (by decide) (fun K hK => ?_)
 refine goes_ Try.func32 (by kernel_rfl) rfl #[.agg #[.string n1, .string t1, .bool b1, .slice A1 l1.length c1]] (by rfl) rfl rfl (by simp only [List.map_toArray, List.map_cons, List.map_nil];rfl) ?_
 with_reducible refine (laws_toTree.calls k n1 t1 b1 A1 c1 l1 y1 y2 y3 y4 _ (Kd.C_below HP.out HBd.out) HC.out HT1.out).mono ?_
 rintro e w20 ⟨v20, rfl, hr20, hb20⟩
 refine ⟨_, rfl, ?_⟩
 obtain ⟨A20, k20, rfl⟩ := Kd.R_slice hr20
 have HR20 := Aside0.mk (hr20)
 have HB20 := Aside0.mk (below_step HBd.out hb20)
 have HX120 := Aside0.mk (blk_below HX1d.out hb20)
 have HX220 := Aside0.mk (blk_below HX2d.out hb20)
 have K620 := Aside0.mk (below_step K6d.out hb20)
 have HS20 := Aside0.mk (Kd.S_below HSd.out hb20)
 clear HBd HX1d HX2d K6d HSd
 clear hr20 hb20
 refine hK.out _ _ ⟨(blk_cell HX120.out 0).trans rfl, (blk_cell HX120.out 1).trans rfl, (blk_cell HX120.out 2).trans rfl, (blk_cell HX120.out 3).trans rfl, (blk_cell HX220.out 0).trans rfl, (blk_cell HX220.out 1).trans rfl, (blk_cell HX220.out 2).trans rfl, (blk_cell HX220.out 3).trans rfl⟩ (fun hHeld => ?_)
 clear hK K
 refine norm_ (a' := ?_) ?_ ?_
 rotate_left
 ·show Act.put _ (some 96) _ = _
  simp only [Act.put, List.setIfInBounds_toArray, List.set_cons_zero, List.set_cons_succ, i64_w, i32_w]
  rfl
 refine one_ (i := 3) (N := some 98) #[true, true, true, true, false, false, false, false, false, false] rfl rfl (by kernel_rfl) (by decide) (fun K hK => ?_)
 refine goes_ Try.func32 (by kernel_rfl) rfl #[.agg #[.string n2, .string t2, .bool b2, .slice A2 l2.length c2]] (by rfl) rfl rfl (by simp only [List.map_toArray, List.map_cons, List.map_nil];rfl) ?_
 with_reducible refine (laws_toTree.calls k n2 t2 b2 A2 c2 l2 z1 z2 z3 z4 _ (Kd.C_below HP2.out HB20.out) HC2.out HT2.out).mono ?_
 rintro e w21 ⟨v21, rfl, hr21, hb21⟩
 refine ⟨_, rfl, ?_⟩
 obtain ⟨A21, k21, rfl⟩ := Kd.R_slice hr21
 have HR21 := Aside0.mk (hr21)
 have HR20b := Aside0.mk (Kd.R_below HR20.out hb21)
 have HB21 := Aside0.mk (below_step HB20.out hb21)
 have HX121 := Aside0.mk (blk_below HX120.out hb21)
 have HX221 := Aside0.mk (blk_below HX220.out hb21)
 have K621 := Aside0.mk (below_step K620.out hb21)
 have HS21 := Aside0.mk (Kd.S_below HS20.out hb21)
 clear HB20 HX120 HX220 K620 HS20
 clear hr21 hb21
 refine hK.out _ _ ⟨(blk_cell HX121.out 0).trans rfl, (blk_cell HX121.out 1).trans rfl, (blk_cell HX121.out 2).trans rfl, (blk_cell HX121.out 3).trans rfl, (blk_cell HX221.out 0).trans rfl, (blk_cell HX221.out 1).trans rfl, (blk_cell HX221.out 2).trans rfl, (blk_cell HX221.out 3).trans rfl⟩ (fun hHeld => ?_)
 clear hK K
 refine norm_ (a' := ?_) ?_ ?_
 rotate_left
 ·show Act.put _ (some 98) _ = _
  simp only [Act.put, List.setIfInBounds_toArray, List.set_cons_zero, List.set_cons_succ, i64_w, i32_w]
  rfl
 refine last_ (i := 4) (N := some 99) #[true, true, true, true, true, false, false, false, false, false] rfl rfl (by kernel_rfl) (by decide) (fun K hK => ?_)
 refine goes_ Try.func48 (by kernel_rfl) rfl #[.agg #[.string y1, .string y2, .bool y3, .slice A20 y4.length k20], .agg #[.string z1, .string z2, .bool z3, .slice A21 z4.length k21]] (by rfl) rfl rfl (by simp only [List.map_toArray, List.map_cons, List.map_nil];rfl) ?_
 with_reducible refine (impl_Places.calls k y1 y2 y3 A20 k20 y4 z1 z2 z3 A21 k21 z4 g er _ (Kd.R_reads' HR20b.out).2.2 (Kd.R_reads' HR20b.out).2.1 (Kd.R_reads' HR21.out).2.2 (Kd.R_reads' HR21.out).2.1 HIM.out).mono ?_
 rintro e w22 ⟨v22, rfl, hs22, hb22⟩
 refine ⟨_, rfl, ?_⟩
 obtain ⟨A22, k22, rfl⟩ := Kd.S_slice hs22
 have HT22 := Aside0.mk (hs22)
 have HB22 := Aside0.mk (below_step HB21.out hb22)
 have HX122 := Aside0.mk (blk_below HX121.out hb22)
 have HX222 := Aside0.mk (blk_below HX221.out hb22)
 have K622 := Aside0.mk (below_step K621.out hb22)
 have HS22 := Aside0.mk (Kd.S_below HS21.out hb22)
 clear HB21 HX121 HX221 K621 HS21
 clear hs22 hb22 HR20 HR20b HR21
 refine hK.out _ _ ?_
 clear hK K
 refine norm_ (a' := ?_) ?_ ?_
 rotate_left
 ·show Act.put _ (some 99) _ = _
  simp only [Act.put, List.setIfInBounds_toArray, List.set_cons_zero, List.set_cons_succ, i64_w, i32_w]
  rfl
 refine pure_ (i := 5) (N := some 94) (v := ?_) (a' := ?_) #[true, true, true, true, true, true, false, false, false, false] rfl rfl (by kernel_rfl) (fun _ _ _ h => h) (Or.inl ⟨by rfl, ?_⟩) ?_ ?_
 rotate_left
 ·intro w'
  go_simp
  with_reducible rfl
 rotate_left
 ·simp only [Act.put, List.setIfInBounds_toArray, List.set_cons_zero, List.set_cons_succ, i64_w, i32_w]
  rfl
 refine pure_ (i := 6) (N := some 100) (v := ?_) (a' := ?_) #[true, true, true, true, true, true, true, false, false, false] rfl rfl (by kernel_rfl) (fun _ _ _ h => h) (Or.inl ⟨by rfl, ?_⟩) ?_ ?_
 rotate_left
 ·intro w'
  go_simp
  with_reducible rfl
 rotate_left
 ·simp only [Act.put, List.setIfInBounds_toArray, List.set_cons_zero, List.set_cons_succ, i64_w, i32_w]
  rfl
 refine pure_ (i := 7) (N := some 101) (v := ?_) (a' := ?_) #[true, true, true, true, true, true, true, true, false, false] rfl rfl (by kernel_rfl) (fun _ _ _ h => h) (Or.inl ⟨by rfl, ?_⟩) ?_ ?_
 rotate_left
 ·intro w'
  go_simp
  with_reducible rfl
 rotate_left
 ·simp only [Act.put, List.setIfInBounds_toArray, List.set_cons_zero, List.set_cons_succ, i64_w, i32_w]
  rfl
 refine pure_ (i := 8) (N := some 15) (v := ?_) (a' := ?_) #[true, true, true, true, true, true, true, true, true, false] rfl rfl (by kernel_rfl) (fun _ _ _ h => h) (Or.inl ⟨by rfl, ?_⟩) ?_ ?_
 rotate_left
 ·intro w'
  go_simp
  with_reducible rfl
 rotate_left
 ·simp only [Act.put, List.setIfInBounds_toArray, List.set_cons_zero, List.set_cons_succ, i64_w, i32_w]
  rfl
 refine pure_ (i := 9) (N := some 16) (v := ?_) (a' := ?_) #[true, true, true, true, true, true, true, true, true, true] rfl rfl (by kernel_rfl) (fun _ _ _ h => h) (Or.inl ⟨by rfl, ?_⟩) ?_ ?_
 rotate_left
 ·intro w'
  go_simp
  with_reducible rfl
 rotate_left
 ·simp only [Act.put, List.setIfInBounds_toArray, List.set_cons_zero, List.set_cons_succ, i64_w, i32_w]
  rfl
 refine done_ (by kernel_rfl) ?_
 go_wp2_with (first
  | (go_at_call 49;(with_reducible refine (laws_eqIntSS.calls k A22 k22 g A6 k6 g true _ (Kd.S_reads' HT22.out).2.2 (Kd.S_reads' HT22.out).2.1 (Kd.N_reads' (Kd.N_below HN6.out K622.out)).2.2 (Kd.N_reads' HN6.out).2.1 HEQ.out).mono ?_);rintro e w23 ⟨rfl, hd⟩;have hb23 := hd.below;clear hd;have HB23 := Aside0.mk (below_step HB22.out hb23);have HS23 := Aside0.mk (Kd.S_below HS22.out hb23);clear hb23)
  | (go_at_call 52;(have hcall := laws_heldIntSS.calls k A9 k9 g' 1 m w23 (Kd.S_reads' HS23.out).2.2 (by have h_ := (Kd.S_reads' HS23.out).2.1;rw [HGL.out] at h_;exact h_) HHE.out);(rw [← HGL.out] at hcall);(with_reducible refine hcall.mono ?_);rintro e w24 ⟨rfl, hd⟩;have HB24 := Aside0.mk (below_step HB23.out hd.below);clear hd hcall))
 go_ret
 exact ⟨rfl, HB24.out⟩
end Go.Proofs.Ytgdecbliegelmaa.Q

/- The law FnExactPlaces, plainly. -/
namespace Go.Proofs.Ytgdecbliegelmaa.Q
open Go.RowKit Go.Proofs.YtgdecbliegelmaaW.PrintWords Go.Proofs.YtgdecbliegelmaaX
set_option linter.unusedVariables false
def FnExactPlaces.Pure : Prop := ∀ (x0 x1 : S48), B48 x0 → B48 x1 → ∃ k, laws_FnExactPlaces.f k (x0.f0) (x0.f1) (x0.f2) (x0.f3) (x1.f0) (x1.f1) (x1.f2) (x1.f3) = some true
theorem OKT_inv2 (t : S53) (h : OKT t = true) : Nn t ≤ 1000 := by
 simp only [OKT, Bool.and_eq_true, decide_eq_true_eq] at h
 exact h.1.1
theorem tot_le (R : List (List Int)) (b : Nat) (h : ∀ r ∈ R, r.length ≤ b) : tot R ≤ R.length * b := by
 induction R with
 | nil => simp [tot]
 | cons r R ih =>
  have h1 := h r (by simp)
  have h2 := ih (fun u hu => h u (by simp [hu]))
  simp only [tot, List.map_cons, List.sum_cons, List.length_cons] at h2 ⊢
  rw [Nat.succ_mul]
  omega
/-- Both answer alike, in few places. -/
theorem both_places (p t : S53) (hp : FitI p) (ht : FitI t) : ∃ g er, Ev (fun k => spec_Places.f k p.f0 p.f1 p.f2 p.f3 t.f0 t.f1 t.f2 t.f3) (g, er) ∧ Ev (fun k => impl_Places.f k p.f0 p.f1 p.f2 p.f3 t.f0 t.f1 t.f2 t.f3) (g, er) ∧ g.length ≤ 1000 ∧ ∀ r ∈ g, r.length ≤ 1000 := by
 have hsp := ok_s p hp
 have hip := ok_i p hp
 have hst := ok_s t ht
 have hit := ok_i t ht
 unfold spec_Places.f impl_Places.f
 cases h : OKT p with
 | false =>
  rw [h] at hsp hip
  refine ⟨[], 1, Ev.bind (a := false) ?_ (Ev.neg (by simp) (Ev.now _)), Ev.bind (a := false) ?_ (Ev.neg (by simp) (Ev.now _)), by simp, by simp⟩
  ·unfold spec_l11Pattern.f
   exact Ev.bind hsp (Ev.neg (by simp) (Ev.now _))
  ·unfold impl_patternTree.f
   exact Ev.bind hip (Ev.neg (by simp) (Ev.now _))
 | true =>
  have hn := OKT_inv2 p h
  rw [h] at hsp hip
  obtain ⟨rl, hv, _⟩ := vo_s p hp [] (by simp;omega)
  have hvi := vo_i p hp
  have e1 : Ev (fun k => spec_l11Pattern.f k p.f0 p.f1 p.f2 p.f3) (VO p) := by
   unfold spec_l11Pattern.f
   exact Ev.bind hsp (Ev.pos rfl (Ev.bind hv (Ev.now _)))
  have e2 : Ev (fun k => impl_patternTree.f k p.f0 p.f1 p.f2 p.f3) (VO p) := by
   unfold impl_patternTree.f
   exact Ev.bind hip (Ev.pos rfl (Ev.bind hvi (Ev.now _)))
  cases h2 : VO p with
  | false =>
   rw [h2] at e1 e2
   exact ⟨[], 1, Ev.bind e1 (Ev.neg (by simp) (Ev.now _)), Ev.bind e2 (Ev.neg (by simp) (Ev.now _)), by simp, by simp⟩
  | true =>
   rw [h2] at e1 e2
   cases h3 : OKT t with
   | false =>
    rw [h3] at hst hit
    exact ⟨[], 1, Ev.bind e1 (Ev.pos rfl (Ev.bind hst (Ev.neg (by simp) (Ev.now _)))), Ev.bind e2 (Ev.pos rfl (Ev.bind hit (Ev.neg (by simp) (Ev.now _)))), by simp, by simp⟩
   | true =>
    have hn3 := OKT_inv2 t h3
    rw [h3] at hst hit
    obtain ⟨R, hs, hl, hr, hm⟩ := places_both p hp hn t ht [] (by simp;omega)
    have hm0 := hm [] (by simp;omega)
    rw [List.nil_append] at hm0
    refine ⟨R, 0, Ev.bind e1 (Ev.pos rfl (Ev.bind hst (Ev.pos rfl (Ev.bind hs (Ev.now _))))), Ev.bind e2 (Ev.pos rfl (Ev.bind hit (Ev.pos rfl (Ev.bind hm0 (Ev.now _))))), by omega, fun r h => ?_⟩
    have := hr r h
    simp at this
    omega
theorem FnExactPlaces.pure : FnExactPlaces.Pure := by
 intro t u ht hu
 have key : ∃ k, laws_FnExactPlaces.P k t.f0 t.f1 t.f2 t.f3 u.f0 u.f1 u.f2 u.f3 := by
  obtain ⟨s1, ⟨K1, hs1⟩, hb1, hz1⟩ := sz_tree t ht 1048576 (by omega) (by omega)
  by_cases q1 : s1 < 0
  ·exact ⟨K1, s1, hs1 K1 (Nat.le_refl _), .inl q1⟩
  obtain ⟨s2, ⟨K2, hs2⟩, hb2, hz2⟩ := sz_tree u hu s1 (by omega) (by omega)
  by_cases q2 : s2 < 0
  ·exact ⟨K1 + K2, s1, hs1 _ (by omega), .inr ⟨s2, hs2 _ (by omega), .inl q2⟩⟩
  have ft := fit_conv t ht
  have fu := fit_conv u hu
  obtain ⟨K3, h3⟩ := to_tree t ht
  obtain ⟨K4, h4⟩ := to_tree u hu
  obtain ⟨g, er, ⟨K5, h5⟩, ⟨K6, h6⟩, hgl, hgr⟩ := both_places (conv t) (conv u) ft fu
  obtain ⟨K7, h7⟩ := eq_rows g (by omega) (fun r h => by have := hgr r h;omega)
  obtain ⟨K8, h8⟩ := eq_tree (conv t) ft
  obtain ⟨K9, h9⟩ := eq_tree (conv u) fu
  have k1 := Kn_conv t
  have k2 := Kn_conv u
  have z1 := hz1 (by omega)
  have z2 := hz2 (by omega)
  obtain ⟨K10, h10⟩ := mark_tree (conv t) ft 1 (by omega) (by omega)
  obtain ⟨K11, h11⟩ := mark_tree (conv u) fu (1 + 3 * Kn (conv t)) (by omega) (by omega)
  have ht1 := tot_le g 1000 hgr
  obtain ⟨K12, h12⟩ := mark_rows g.length g 0 1 (by omega) (by omega) (by omega) (by rw [List.drop_zero];omega)
  rw [List.drop_zero, List.take_zero, List.nil_append] at h12
  have hrl : ∀ (g : List (List Int)) (c : Int), (rows c g).length = g.length := by
   intro g
   induction g with
   | nil => intro c;rfl
   | cons r g ih => intro c;simp [rows, ih]
  obtain ⟨K13, h13⟩ := held_rows g (rows 1 g) 0 1 (by rw [List.drop_zero]) (by rw [hrl];omega) (by omega) (by omega)
  let K := K1 + K2 + K3 + K4 + K5 + K6 + K7 + K8 + K9 + K10 + K11 + K12 + K13
  refine ⟨K, s1, hs1 _ (by simp only [K];omega), .inr ⟨s2, hs2 _ (by simp only [K];omega), .inr ⟨(conv t).f0, (conv t).f1, (conv t).f2, (conv t).f3, (conv u).f0, (conv u).f1, (conv u).f2, (conv u).f3, g, er, 1 + 3 * Kn (conv t), 1 + 3 * Kn (conv t) + 3 * Kn (conv u), 1 + tot g, rows 1 g, h3 _ (by simp only [K];omega), h4 _ (by simp only [K];omega), h5 _ (by simp only [K];omega), h6 _ (by simp only [K];omega), h7 _ (by simp only [K];omega), h8 _ (by simp only [K];omega), h9 _ (by simp only [K];omega), h10 _ (by simp only [K];omega), h11 _ (by simp only [K];omega), by omega, h12 _ (by simp only [K];omega), h13 _ (by simp only [K];omega), by omega⟩⟩⟩
 obtain ⟨k, hk⟩ := key
 refine ⟨k, ?_⟩
 unfold laws_FnExactPlaces.f
 exact if_pos hk
end Go.Proofs.Ytgdecbliegelmaa.Q

