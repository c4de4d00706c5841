/- FnExactProgramRead: marks; the law. -/
import Derived.Test.YtnnalcglfgapbaaDoorPrH
set_option linter.unusedVariables false
set_option linter.unusedSectionVars false
set_option linter.unusedSimpArgs false
namespace Go.Proofs.YtnnalcglfgapbaaDoor.Z
open Go Go.RowKit Go.Proofs.Sy Go.Proofs
set_option maxRecDepth 100000
theorem allP_true {α : Type} : ∀ (r pre : List α), allP (fun _ _ => true) pre r = true
  | [], _ => rfl
  | x :: r, pre => by simp only [allP, Bool.true_and]; exact allP_true r _
theorem eqInsS_ {n : Nat} {l : List gIns} (h : l.length ≤ 1048576) (hn : 1100000 ≤ n) : m_laws_eqInsS n l l = some true := by
  unfold m_laws_eqInsS
  rw [bne_self_eq_false, cond_false, loop_all0 l (fun _ _ => true) (some false) (m_laws_eqInsS_l3 n l l) (some true) n (by omega) (fun k pre x r h => by
    have ei : ix l (pre.length : Int) = some x := by rw [h, ixp]
    have hl2 : l.length = pre.length + (r.length + 1) := by rw [h]; simp
    rw [m_laws_eqInsS_l3, List.length_map, decide_eq_true (by omega)]
    have e1 : m_laws_eqIns n x x = some true := by unfold m_laws_eqIns; simp
    simp only [cond_true, ei, Option.bind_some, e1, Bool.not_true, cond_false, wln pre x (by omega)]) (fun k => by
    rw [m_laws_eqInsS_l3, List.length_map, decide_eq_false (by omega)]; rfl), allP_true]; rfl
def mkd (i : Nat) : gIns := gIns.mk (1 + 3 * (i : Int)) (2 + 3 * (i : Int)) (3 + 3 * (i : Int))
def mkL (i : Nat) : List gIns := (List.range i).map mkd
theorem mkL_len (i : Nat) : (mkL i).length = i := by simp [mkL]
theorem mkL_succ (i : Nat) : mkL (i + 1) = mkL i ++ [mkd i] := by simp [mkL, List.range_succ]
theorem set_mid {α : Type} (pre : List α) (x y : α) (r : List α) : (pre ++ x :: r).set pre.length y = pre ++ y :: r := by simp
theorem markLoop : ∀ (r : List gIns) (i k : Nat), i + r.length ≤ 400000 → r.length < k → m_laws_markInsS_l3 k (1 + 3 * (i : Int)) (i : Int) (mkL i ++ r) = some (1 + 3 * ((i + r.length : Nat) : Int), mkL (i + r.length))
  | [], i, k, h, hk => by
    obtain ⟨k, rfl⟩ : ∃ m, k = m + 1 := ⟨k - 1, by simp at hk; omega⟩
    have hl := mkL_len i
    rw [m_laws_markInsS_l3, List.append_nil, hl, decide_eq_false (by omega)]; rfl
  | x :: r, i, k, h, hk => by
    obtain ⟨k, rfl⟩ : ∃ m, k = m + 1 := ⟨k - 1, by simp at hk; omega⟩
    have hl := mkL_len i
    have hln : (mkL i ++ x :: r).length = i + (r.length + 1) := by rw [List.length_append, hl]; rfl
    have ei : ∀ y, ix (mkL i ++ y :: r) (i : Int) = some y := fun y => by
      have := ixp (mkL i) y r
      rwa [hl] at this
    have es : ∀ y z, (mkL i ++ y :: r).set (i : Int).toNat z = mkL i ++ z :: r := fun y z => by
      have := set_mid (mkL i) y z r
      rw [hl] at this
      rwa [Int.toNat_natCast]
    simp only [List.length_cons] at h hk
    rw [m_laws_markInsS_l3, hln, decide_eq_true (by omega), cond_true, ei, Option.bind_some]
    rw [es, ei, Option.bind_some, es, ei, Option.bind_some, es]
    simp only []
    rw [wid (n := 1 + 3 * (i : Int) + 1) (by omega), wid (n := 1 + 3 * (i : Int) + 1 + 1) (by omega), wid (n := 1 + 3 * (i : Int) + 1 + 1 + 1) (by omega), wid (n := (i : Int) + 1) (by omega)]
    have ih := markLoop r (i + 1) k (by omega) (by omega)
    rw [mkL_succ, List.append_assoc, List.singleton_append] at ih
    have e1 : (1 + 3 * ((i + 1 : Nat) : Int)) = 1 + 3 * (i : Int) + 1 + 1 + 1 := by omega
    have e2 : ((i + 1 : Nat) : Int) = (i : Int) + 1 := by omega
    have e3 : mkd i = gIns.mk (1 + 3 * (i : Int)) (1 + 3 * (i : Int) + 1) (1 + 3 * (i : Int) + 1 + 1) := by unfold mkd; congr 1 <;> omega
    have e4 : i + 1 + r.length = i + (r.length + 1) := by omega
    rw [e4, e1, e2, e3] at ih
    exact ih
theorem markI {n : Nat} (hn : 500000 ≤ n) (l : List gIns) (h : l.length ≤ 400000) : m_laws_markInsS n l 1 = some (1 + 3 * (l.length : Int), mkL l.length) := by
  unfold m_laws_markInsS
  have := markLoop l 0 n (by omega) (by omega)
  rw [Nat.zero_add] at this
  exact this
theorem heldLoop (L : Nat) (hL : L ≤ 400000) : ∀ (m i k : Nat), m + i = L → m < k → m_laws_heldInsS_l3 (mkL L) k (1 + 3 * (i : Int)) (i : Int) = some (1 + 3 * (L : Int))
  | 0, i, k, h, hk => by
    obtain ⟨k, rfl⟩ : ∃ m, k = m + 1 := ⟨k - 1, by omega⟩
    have : i = L := by omega
    subst this
    rw [m_laws_heldInsS_l3, List.length_map, mkL_len, decide_eq_false (by omega)]; rfl
  | m + 1, i, k, h, hk => by
    obtain ⟨k, rfl⟩ : ∃ m, k = m + 1 := ⟨k - 1, by omega⟩
    have ei : ix (mkL L) (i : Int) = some (mkd i) := by
      unfold ix
      rw [if_pos (by omega), Int.toNat_natCast]
      simp [mkL, List.getElem?_range (show i < L by omega)]
    have ih := heldLoop L hL m (i + 1) k (by omega) (by omega)
    have e1 : (1 + 3 * ((i + 1 : Nat) : Int)) = 1 + 3 * (i : Int) + 1 + 1 + 1 := by omega
    have e2 : ((i + 1 : Nat) : Int) = (i : Int) + 1 := by omega
    rw [e1, e2] at ih
    rw [m_laws_heldInsS_l3, List.length_map, mkL_len, decide_eq_true (by omega), cond_true, ei, Option.bind_some, Option.bind_some, Option.bind_some]
    rw [wid (n := 1 + 3 * (i : Int) + 1) (by omega), wid (n := 1 + 3 * (i : Int) + 1 + 1) (by omega), wid (n := 1 + 3 * (i : Int) + 1 + 1 + 1) (by omega), wid (n := (i : Int) + 1) (by omega)]
    rw [cN, if_pos (by rfl), cN, if_pos (by show 2 + 3 * (i : Int) = _; omega), cN, if_pos (by show 3 + 3 * (i : Int) = _; omega)]
    exact ih
theorem heldI {n : Nat} (hn : 500000 ≤ n) (L : Nat) (hL : L ≤ 400000) : m_laws_heldInsS n (mkL L) 1 = some (1 + 3 * (L : Int)) := by
  unfold m_laws_heldInsS
  exact heldLoop L hL L 0 n (by omega) (by omega)
theorem readL {n : Nat} (hn : 1100000 ≤ n) (T : ByteArray) : m_laws_FnExactProgramRead n T = some true := by
  unfold m_laws_FnExactProgramRead
  by_cases h0 : (T.size : Int) > 1048576
  · rw [decide_eq_true h0]; rfl
  rw [decide_eq_false h0, cond_false]
  obtain ⟨R, e1, e2, e3⟩ := read_both (n := n) (by omega) T.data.toList
  rw [ofL_of] at e1 e2
  have hm := markI (n := n) (by omega) R.1 e3
  have hh := heldI (n := n) (by omega) R.1.length e3
  rw [e1, e2, Option.bind_some, Option.bind_some, eqInsS_ (by omega) hn, Option.bind_some, Bool.not_true, cond_false, bne_self_eq_false, cond_false, bne_self_eq_false, cond_false, hm, Option.bind_some]
  simp only []
  rw [gp_pos (mkL_len _), hh, Option.bind_some, decide_eq_false (by omega), cond_false, bne_self_eq_false, cond_false, Option.bind_some, eqInsS_ (by omega) hn, Option.bind_some, Bool.not_true, cond_false]
  simp
  rw [decide_eq_false (show ¬ (1 + 3 * (R.1.length : Int) < 0) by omega)]; rfl
theorem cReadLaw (T : ByteArray) : FnP Tryd.prog 4 [S T] [B true] := c_laws_FnExactProgramRead 1100000 T true (readL (Nat.le_refl _) T)
theorem cReadRow (T : ByteArray) (h : T.size ≤ 140737488351232) : FnP Tryd.prog 4 [S T] [B true] := cReadLaw T
end Go.Proofs.YtnnalcglfgapbaaDoor.Z
