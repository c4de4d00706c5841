/- The reference's reading of a line: words and numbers. -/
import Derived.Test.YtnnalcglfgapbaaDoorPrF
set_option linter.unusedVariables false
set_option linter.unusedSectionVars false
set_option linter.unusedSimpArgs false
namespace Go.Proofs.YtnnalcglfgapbaaDoor.Z
open Go Go.RowKit Go.Proofs.Sy Go.Proofs
set_option maxRecDepth 100000
def okN (w : By) : Bool := decide (1 ≤ w.length ∧ w.length ≤ 6) && w.all isD
theorem digLoop (n : Nat) (W : List ByteArray) (i : Int) (vs : List Int) (rec : Int → List Int → Option (gIns × Bool)) (l : By) (hl : l.length ≤ 6) (hw : ix W i = some (ofL l)) : ∀ (r pre : By) (k : Nat), l = pre ++ r → r.length < k → (∀ b ∈ pre, isD b = true) →
    m_spec_l17ReadLine_l131 n W i vs rec k (val pre : Int) (pre.length : Int) = if r.all isD = true then m_spec_l17ReadLine_j130 i vs rec (val l : Int) else some (gIns.mk 0 0 0, false)
  | [], pre, k, h, hk, hp => by
    obtain ⟨k, rfl⟩ : ∃ m, k = m + 1 := ⟨k - 1, by simp at hk; omega⟩
    have : pre = l := by simpa using h.symm
    subst this
    rw [m_spec_l17ReadLine_l131, hw, Option.bind_some, ofL_size, decide_eq_false (by omega)]; rfl
  | b :: r, pre, k, h, hk, hp => by
    obtain ⟨k, rfl⟩ : ∃ m, k = m + 1 := ⟨k - 1, by simp at hk; omega⟩
    have hl2 : l.length = pre.length + (r.length + 1) := by rw [h]; simp
    have eb : bt (ofL l) (pre.length : Int) = (b.toNat : Int) := by rw [h, bt_of]
    rw [m_spec_l17ReadLine_l131, hw, Option.bind_some, Option.bind_some, ofL_size, decide_eq_true (by omega), cond_true, gp_pos (by omega), eb, isDig_S, Option.bind_some, List.all_cons]
    cases hb : isD b with
    | false => rfl
    | true =>
      have hd := isD_iff.mp hb
      have hv := val_le hp (by omega)
      have hp2 : ∀ x ∈ pre ++ [b], isD x = true := fun x hx => by
        rcases List.mem_append.mp hx with hx | hx
        · exact hp x hx
        · rw [List.mem_singleton.mp hx]; exact hb
      have e : wr .i64 ((wr .i64 ((wr .i64 ((val pre : Int) * 10)) + (wr .i64 (b.toNat : Int)))) - 48) = ((val (pre ++ [b]) : Nat) : Int) := by
        rw [wid (n := (val pre : Int) * 10) (by omega), wid (n := (b.toNat : Int)) (by omega), wid (n := (val pre : Int) * 10 + (b.toNat : Int)) (by omega), wid (by omega), val_snoc]
        omega
      rw [Bool.not_true, cond_false, Option.bind_some, ofL_size, gp_pos (by omega), eb, e, wln pre b (by omega), Bool.true_and]
      exact digLoop n W i vs rec l hl hw r (pre ++ [b]) k (by rw [h]; simp) (by simp at hk; omega) hp2
theorem wordsLoop {n : Nat} (hn : 100000 ≤ n) (T : By) (ws : List By) (hl : ws.length ≤ 3) : ∀ (r pre : List By) (k : Nat), ws = pre ++ r → pre ≠ [] → r.length < k →
    m_spec_l17ReadLine_l124 n (ofL T) (ws.map ofL) k (pre.length : Int) (vals pre) = if r.all okN = true then m_spec_l17ReadLine_l97 n (ofL T) (vals ws) n 1 else some (gIns.mk 0 0 0, false)
  | [], pre, k, h, _, hk => by
    obtain ⟨k, rfl⟩ : ∃ m, k = m + 1 := ⟨k - 1, by simp at hk; omega⟩
    have : pre = ws := by simpa using h.symm
    subst this
    rw [m_spec_l17ReadLine_l124, List.length_map, decide_eq_false (by omega)]; rfl
  | w :: r, pre, k, h, hne, hk => by
    obtain ⟨k, rfl⟩ : ∃ m, k = m + 1 := ⟨k - 1, by simp at hk; omega⟩
    have hl2 : ws.length = pre.length + (r.length + 1) := by rw [h]; simp
    have ei : ix (ws.map ofL) (pre.length : Int) = some (ofL w) := by
      rw [h, List.map_append, List.map_cons]
      have := ixp (pre.map ofL) (ofL w) (r.map ofL)
      rwa [List.length_map] at this
    have ev : vals (pre ++ [w]) = vals pre ++ [(val w : Int)] := by
      cases pre with
      | nil => exact absurd rfl hne
      | cons x p => simp [vals]
    have hvl : (vals pre).length ≤ 3 := by simp [vals]; omega
    rw [m_spec_l17ReadLine_l124, List.length_map, decide_eq_true (by omega), cond_true, ei, Option.bind_some, btwS, Option.bind_some, ofL_size, List.all_cons]
    by_cases hw : 1 ≤ w.length ∧ w.length ≤ 6
    · rw [decide_eq_true (show (1 : Int) ≤ (w.length : Int) by omega), decide_eq_true (show (w.length : Int) ≤ 6 by omega)]
      have := digLoop n (ws.map ofL) (pre.length : Int) (vals pre) (m_spec_l17ReadLine_l124 n (ofL T) (ws.map ofL) k) w hw.2 ei w [] n rfl (by omega) (by simp)
      have this' : m_spec_l17ReadLine_l131 n (ws.map ofL) (pre.length : Int) (vals pre) (m_spec_l17ReadLine_l124 n (ofL T) (ws.map ofL) k) n 0 0 = _ := this
      rw [Bool.and_self, Bool.not_true, cond_false, this']
      unfold okN
      rw [decide_eq_true hw, Bool.true_and]
      cases hd : w.all isD with
      | false => rfl
      | true =>
        rw [if_pos rfl, Bool.true_and]
        unfold m_spec_l17ReadLine_j130 m_spec_l17ReadLine_j128
        rw [gp_pos (by simp only [List.length_singleton]; omega), ← ev, wln pre w (by omega)]
        exact wordsLoop hn T ws hl r (pre ++ [w]) k (by rw [h]; simp) (by simp) (by simp at hk; omega)
    · have e1 : (decide ((1 : Int) ≤ (w.length : Int)) && decide ((w.length : Int) ≤ 6)) = false := by
        simp only [Bool.and_eq_false_iff, decide_eq_false_iff_not]; omega
      have e2 : okN w = false := by unfold okN; rw [decide_eq_false hw]; rfl
      rw [e1, e2]; rfl
theorem extr (T : By) (a b : Nat) : (ofL T).extract a b = ofL ((T.take b).drop a) := by
  apply ByteArray.ext
  have h1 : ((ofL T).extract a b).data = (ofL T).data.extract a b := ByteArray.data_extract
  rw [h1]
  show T.toArray.extract a b = ((T.take b).drop a).toArray
  rw [List.extract_toArray]
  congr 1
  rw [List.extract_eq_take_drop, List.drop_take]
/-- The words of a text, one after the other. -/
theorem splitS (n : Nat) (T : By) (hT : T.length ≤ 400000) : ∀ (m i st k : Nat) (acc : List By), m + i = T.length → st ≤ i → m + 1 < k → (32 : UInt8) ∉ (T.take i).drop st → acc.length ≤ st →
    m_spec_l17ReadLine_l138 n (ofL T) k (st : Int) (i : Int) (acc.map ofL) = m_spec_l17ReadLine_j11 n (ofL T) ((acc ++ spl 32 (T.drop st)).map ofL)
  | 0, i, st, k, acc, h, hs, hk, hno, ha => by
    obtain ⟨k, rfl⟩ : ∃ m, k = m + 2 := ⟨k - 2, by omega⟩
    have hi : i = T.length := by omega
    subst hi
    rw [List.take_length] at hno
    rw [m_spec_l17ReadLine_l138, ofL_size, decide_eq_true (by omega), cond_true, beq_self_eq_true, cond_true]
    unfold m_spec_l17ReadLine_j141 m_spec_l17ReadLine_j140
    rw [cond_true, gp_pos (by rw [ofL_size]; omega), gp_pos (by rw [List.length_map]; simp only [List.length_singleton]; omega), wid (by omega), m_spec_l17ReadLine_l138, ofL_size, decide_eq_false (by omega), cond_false, Int.toNat_natCast, Int.toNat_natCast, extr, List.take_length, spl_none 32 _ hno, List.map_append]
    rfl
  | m + 1, i, st, k, acc, h, hs, hk, hno, ha => by
    obtain ⟨k, rfl⟩ : ∃ m, k = m + 1 := ⟨k - 1, by omega⟩
    have hi : i < T.length := by omega
    have hsplit : T = T.take i ++ T[i] :: T.drop (i + 1) := by
      conv => lhs; rw [← List.take_append_drop i T]
      rw [List.drop_eq_getElem_cons hi]
    have eb : bt (ofL T) (i : Int) = (T[i].toNat : Int) := by
      have := bt_of (T.take i) T[i] (T.drop (i + 1))
      rw [← hsplit, List.length_take, Nat.min_eq_left (by omega)] at this
      exact this
    rw [m_spec_l17ReadLine_l138, ofL_size, decide_eq_true (by omega), cond_true, beq_eq_false_iff_ne.mpr (by omega), cond_false, gp_pos (by omega), eb]
    unfold m_spec_l17ReadLine_j141 m_spec_l17ReadLine_j140
    have hdrop : T.drop st = (T.take i).drop st ++ T[i] :: T.drop (i + 1) := by
      conv => lhs; rw [hsplit]
      rw [List.drop_append_of_le_length (by simp; omega)]
    by_cases hb : T[i] = 32
    · have e : ((T[i].toNat : Int) == 32) = true := by rw [hb]; rfl
      rw [e, cond_true, gp_pos (by rw [ofL_size]; omega), gp_pos (by rw [List.length_map]; simp only [List.length_singleton]; omega), wid (n := (i : Int) + 1) (by omega), Int.toNat_natCast, Int.toNat_natCast, extr]
      have := splitS n T hT m (i + 1) (i + 1) k (acc ++ [(T.take i).drop st]) (by omega) (Nat.le_refl _) (by omega) (by rw [List.drop_eq_nil_of_le (by simp; omega)]; simp) (by simp; omega)
      rw [List.map_append, Int.natCast_add] at this
      refine Eq.trans this ?_
      rw [hdrop, hb, spl_app 32 _ _ hno, List.append_assoc]; rfl
    · have e : ((T[i].toNat : Int) == 32) = false := beq_eq_false_iff_ne.mpr (fun h => hb (UInt8.toNat_inj.mp (by have : (32 : UInt8).toNat = 32 := rfl; omega)))
      rw [e, cond_false, wid (n := (i : Int) + 1) (by omega)]
      have := splitS n T hT m (i + 1) st k acc (by omega) (by omega) (by omega) (by
        rw [List.take_succ_eq_append_getElem hi, List.drop_append_of_le_length (by simp; omega)]
        intro hc
        rcases List.mem_append.mp hc with hc | hc
        · exact hno hc
        · exact hb (List.mem_singleton.mp hc).symm) ha
      rw [Int.natCast_add] at this
      exact this
theorem vals_rng {ws : List By} (h : ∀ w ∈ ws.tail, okN w = true) : ∀ v ∈ vals ws, 0 ≤ v ∧ v ≤ 999999 := fun v hv => by
  obtain ⟨w, hw, rfl⟩ := List.mem_map.mp hv
  have := h w hw
  unfold okN at this
  simp only [Bool.and_eq_true, decide_eq_true_eq, List.all_eq_true] at this
  have := val_le this.2 this.1.2
  omega
theorem canon_okN {w : By} (h : canonB w = true) : okN w = true := by
  unfold canonB at h
  unfold okN
  simp only [Bool.and_eq_true] at h ⊢
  exact ⟨h.1, h.2.2⟩
theorem readS {n : Nat} (hn : 500000 ≤ n) (T : By) (hT : T.length ≤ 400000) : m_spec_l17ReadLine n (ofL T) = some ((RD T).getD (gIns.mk 0 0 0), (RD T).isSome) := by
  unfold m_spec_l17ReadLine
  have h1 := splitS n T hT T.length 0 0 n [] (by omega) (Nat.le_refl _) (by omega) (by simp) (by simp)
  refine Eq.trans h1 ?_
  rw [List.drop_zero, List.nil_append]
  unfold m_spec_l17ReadLine_j11
  rw [List.length_map]
  generalize hws : spl 32 T = ws
  by_cases h3 : 3 < ws.length
  · rw [decide_eq_true (by omega), cond_true]
    cases hr : RD T with
    | none => rfl
    | some x =>
      have := (read_good (RD_some hr).1).2.2.2.1
      rw [hws] at this; omega
  rw [decide_eq_false (by omega), cond_false]
  cases hw : ws with
  | nil => exact absurd (hws.trans hw) (spl_ne 32 T)
  | cons w r =>
    subst hw
    have h2 := wordsLoop (n := n) (by omega) T (w :: r) (by omega) r [w] n rfl (by simp) (by simp at h3; omega)
    refine Eq.trans h2 ?_
    cases ho : r.all okN with
    | false =>
      rw [if_neg (by simp)]
      cases hr : RD T with
      | none => rfl
      | some x =>
        have := (read_good (RD_some hr).1).2.2.2.2
        rw [hws] at this
        have h5 : r.all okN = true := List.all_eq_true.mpr (fun y hy => canon_okN (this y hy))
        rw [ho] at h5; cases h5
    | true =>
      rw [if_pos rfl]
      have hv : ∀ v ∈ vals (w :: r), 0 ≤ v ∧ v ≤ 999999 := vals_rng (fun y hy => List.all_eq_true.mp ho y hy)
      rcases guess_ok (n := n) (by omega) T (vals (w :: r)) hv 10 n (Nat.le_refl _) (by omega) with ⟨op, o1, o2, hl, e⟩ | ⟨hno, e⟩
      · have hr : RD T = some (gX op (vals (w :: r))) := by
          have := RD_line (gX_va ⟨o1, o2⟩ hv)
          rwa [hl] at this
        rw [hr]
        exact e
      · cases hr : RD T with
        | none => exact e
        | some x =>
          obtain ⟨g1, g2⟩ := RD_some hr
          obtain ⟨_, g3, g4, _⟩ := read_good g1
          rw [hws] at g4
          have ho := g3.lo.op
          exact absurd (by rw [g4]; exact g2) (hno x.op_ (by omega) ho.2)
end Go.Proofs.YtnnalcglfgapbaaDoor.Z
