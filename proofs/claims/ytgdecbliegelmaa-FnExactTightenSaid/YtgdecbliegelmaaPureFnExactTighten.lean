/- The law FnExactTighten, plainly. -/
import Derived.Test.YtgdecbliegelmaaPTight
import Derived.Test.YtgdecbliegelmaaStatFnExactTighten
namespace Go.Proofs.Ytgdecbliegelmaa.Q
open Go.RowKit Go.Proofs.YtgdecbliegelmaaW.PrintWords Go.Proofs.YtgdecbliegelmaaX
set_option linter.unusedVariables false
theorem po_wrap {x : Int} (h0 : -9223372036854775808 ≤ x) (h1 : x ≤ 9223372036854775807) : wrap64 x = x := by
  unfold wrap64
  omega
/-- An instruction is right. -/
def goodI (op nn tt len : Int) : Prop :=
  (1 ≤ op ∧ op ≤ 10) ∧ (if 5 ≤ op ∧ op ≤ 8 then 0 ≤ tt ∧ tt < len else tt = 0) ∧ (if op = 4 ∨ op = 5 ∨ op = 7 ∨ op = 9 then nn = 0 else if op = 10 then nn = 2 ∨ nn = 4 else 0 ≤ nn ∧ nn ≤ 1000)
instance (op nn tt len : Int) : Decidable (goodI op nn tt len) := by unfold goodI; infer_instance
theorem ops_ {op : Int} (h1 : 1 ≤ op) (h2 : op ≤ 10) : op = 1 ∨ op = 2 ∨ op = 3 ∨ op = 4 ∨ op = 5 ∨ op = 6 ∨ op = 7 ∨ op = 8 ∨ op = 9 ∨ op = 10 := by omega
theorem impl_ins (k : Nat) (op nn tt len : Int) : impl_insOK.f (k + 3) op nn tt len = some (decide (goodI op nn tt len)) := by
  by_cases h1 : op < 1
  · have : ¬ goodI op nn tt len := by unfold goodI; omega
    simp [impl_insOK.f, impl_insOK.j0, h1, this]
  by_cases h2 : op > 10
  · have : ¬ goodI op nn tt len := by unfold goodI; omega
    simp [impl_insOK.f, impl_insOK.j0, h1, h2, this]
  rcases ops_ (by omega) (show op ≤ 10 by omega) with rfl | rfl | rfl | rfl | rfl | rfl | rfl | rfl | rfl | rfl <;>
    simp [impl_insOK.f, impl_insOK.j0, impl_insOK.j1, impl_insOK.j2, impl_jumps.f, impl_ifs.f, goodI] <;> (repeat' split) <;> first | (simp_all; done) | (simp_all; omega) | (refine congrArg some ?_; rw [Bool.eq_iff_iff]; simp_all; done) | (refine congrArg some ?_; rw [Bool.eq_iff_iff]; simp_all; omega)
theorem spec_ins (k : Nat) (p : List S88) (i op nn tt : Int) (hl : p.length ≤ 9223372036854775807) (hp : 1 ≤ p.length) :
    (spec_l17HasTo.f op).bind (fun t => if t = true then spec_ProgramOK.j1 (k + 2) p i (wrap64 ((p.length : Int) - 1)) op nn tt else spec_ProgramOK.j1 (k + 2) p i 0 op nn tt) =
      if goodI op nn tt p.length then spec_ProgramOK.l0 k p (wrap64 (i + 1)) else some false := by
  rw [po_wrap (x := (p.length : Int) - 1) (by omega) (by omega)]
  by_cases h1 : op < 1
  · have : ¬ goodI op nn tt p.length := by unfold goodI; omega
    simp [spec_l17HasTo.f, spec_l01Between.f, spec_ProgramOK.j1, spec_ProgramOK.j2, this, show ¬ op ≥ 5 by omega, show ¬ op ≥ 1 by omega]
  by_cases h2 : op > 10
  · have : ¬ goodI op nn tt p.length := by unfold goodI; omega
    simp [spec_l17HasTo.f, spec_l01Between.f, spec_ProgramOK.j1, spec_ProgramOK.j2, this, show op ≥ 5 by omega, show op ≥ 1 by omega, show ¬ op ≤ 8 by omega, show ¬ op ≤ 10 by omega]
  rcases ops_ (by omega) (show op ≤ 10 by omega) with rfl | rfl | rfl | rfl | rfl | rfl | rfl | rfl | rfl | rfl <;>
    simp [spec_l17HasTo.f, spec_l17HasN.f, spec_l01Between.f, spec_ProgramOK.j1, spec_ProgramOK.j2, goodI] <;> (repeat' split) <;> first | (simp_all; done) | (simp_all; omega)
theorem last_eq (x : Int) : (spec_l17Goes.f x).bind (fun t => some (!t)) = if x = 5 then some true else if x = 9 then some true else some (x == 10) := by
  unfold spec_l17Goes.f
  by_cases h1 : x = 5
  · simp [h1]
  by_cases h2 : x = 9
  · simp [h2]
  by_cases h3 : x = 10
  · simp [h3]
  · simp [h1, h2]; rfl
theorem loops_ (p : List S88) (hl : p.length ≤ 9223372036854775807) (hp : 1 ≤ p.length) (d : Nat) : ∀ (i : Nat) (k k' : Nat), i + d = p.length → 3 * d < k → 3 * d + 3 < k' →
    ∃ b, spec_ProgramOK.l0 k p (i : Int) = some b ∧ impl_ProgramOK.l0 k' p p (p.length : Int) (i : Int) = some b := by
  induction d with
  | zero =>
    intro i k k' hi hk hk'
    obtain ⟨k, rfl⟩ : ∃ m, k = m + 1 := ⟨k - 1, by omega⟩
    obtain ⟨k', rfl⟩ : ∃ m, k' = m + 1 := ⟨k' - 1, by omega⟩
    have hw : wrap64 ((p.length : Int) - 1) = (p.length : Int) - 1 := po_wrap (by omega) (by omega)
    have c1 : ¬ ((i : Int) < (p.length : Int)) := by omega
    have c2 : 0 ≤ (p.length : Int) - 1 := by omega
    have c3 : (p.length : Int) - 1 < (p.length : Int) := by omega
    simp only [spec_ProgramOK.l0, impl_ProgramOK.l0, c1, if_false, hw, c2, c3, if_true, last_eq]
    split
    · exact ⟨_, rfl, rfl⟩
    split
    · exact ⟨_, rfl, rfl⟩
    · exact ⟨_, rfl, rfl⟩
  | succ d ih =>
    intro i k k' hi hk hk'
    obtain ⟨k, rfl⟩ : ∃ m, k = m + 1 := ⟨k - 1, by omega⟩
    obtain ⟨k, rfl⟩ : ∃ m, k = m + 2 := ⟨k - 2, by omega⟩
    obtain ⟨k', rfl⟩ : ∃ m, k' = m + 1 := ⟨k' - 1, by omega⟩
    obtain ⟨k', rfl⟩ : ∃ m, k' = m + 3 := ⟨k' - 3, by omega⟩
    rw [spec_ProgramOK.l0, impl_ProgramOK.l0]
    have c1 : (i : Int) < (p.length : Int) := by omega
    have c2 : 0 ≤ (i : Int) := by omega
    simp only [c1, c2, if_true, impl_ins, spec_ins _ _ _ _ _ _ hl hp, Option.bind_some]
    by_cases h : goodI (rd_T88 p i).f0 (rd_T88 p i).f1 (rd_T88 p i).f2 p.length
    · simp only [h, decide_true, if_true]
      rw [po_wrap (x := (i : Int) + 1) (by omega) (by omega)]
      obtain ⟨b, h1, h2⟩ := ih (i + 1) k (k' + 3) (by omega) (by omega) (by omega)
      refine ⟨b, ?_, ?_⟩
      · simpa using h1
      · simpa using h2
    · simp only [h, decide_false, if_false]
      exact ⟨false, rfl, by simp⟩
theorem both_ok (p : List S88) (hl : p.length ≤ 1048576) (k : Nat) (hk : 3 * p.length + 5 < k) : ∃ b, spec_ProgramOK.f k p = some b ∧ impl_ProgramOK.f k p = some b := by
  obtain ⟨k, rfl⟩ : ∃ m, k = m + 1 := ⟨k - 1, by omega⟩
  unfold spec_ProgramOK.f impl_ProgramOK.f spec_l01Between.f
  by_cases h1 : (p.length : Int) < 1
  · rw [if_neg (by omega), if_pos h1]
    simp [impl_ProgramOK.j0]
  rw [if_pos (by omega), if_neg h1]
  by_cases h2 : (p.length : Int) ≤ 50000
  · simp only [Option.bind_some, decide_eq_true h2, if_true, show decide ((p.length : Int) > 50000) = false from decide_eq_false (by omega), impl_ProgramOK.j0]
    obtain ⟨b, h3, h4⟩ := loops_ p (by omega) (by omega) p.length 0 (k + 1) k (by omega) (by omega) (by omega)
    exact ⟨b, by simpa using h3, by simpa using h4⟩
  · simp [show decide ((p.length : Int) > 50000) = true from decide_eq_true (by omega), impl_ProgramOK.j0, h2]
def convI (x : S91) : S88 := ⟨x.f0, x.f1, x.f2⟩
theorem to_loop (l : List S91) (hl : l.length ≤ 9223372036854775807) (d : Nat) : ∀ (i : Nat) (acc : List S88) (k : Nat), i + d = l.length → acc.length = l.length → d < k →
    laws_toInsS.l0 k l acc (i : Int) = some (acc.take i ++ (l.drop i).map convI) := by
  induction d with
  | zero =>
    intro i acc k hi ha hk
    obtain ⟨k, rfl⟩ : ∃ m, k = m + 1 := ⟨k - 1, by omega⟩
    rw [laws_toInsS.l0, if_neg (by omega)]
    rw [List.take_of_length_le (by omega), List.drop_eq_nil_of_le (by omega)]
    simp
  | succ d ih =>
    intro i acc k hi ha hk
    obtain ⟨k, rfl⟩ : ∃ m, k = m + 1 := ⟨k - 1, by omega⟩
    rw [laws_toInsS.l0, if_pos (by omega), if_pos (by omega)]
    simp only [laws_toIns.f, Option.bind_some]
    rw [if_pos (by omega), po_wrap (x := (i : Int) + 1) (by omega) (by omega)]
    have h := ih (i + 1) (acc.set i (convI (rd_T91 l i))) k (by omega) (by simpa using ha) (by omega)
    have e : (acc.set (i : Int).toNat (⟨(rd_T91 l i).f0, (rd_T91 l i).f1, (rd_T91 l i).f2⟩ : S88)) = acc.set i (convI (rd_T91 l i)) := by simp [convI]
    rw [e]
    rw [show ((i : Int) + 1) = ((i + 1 : Nat) : Int) by omega, h]
    congr 1
    have hi2 : i < l.length := by omega
    rw [List.drop_eq_getElem_cons hi2, List.map_cons, List.take_add_one, List.take_set_of_le (Nat.le_refl i)]
    have : rd_T91 l i = l[i] := by simp [rd_T91, List.getD_eq_getElem?_getD, List.getElem?_eq_getElem hi2]
    simp [this, List.getElem?_set_self (show i < acc.length by omega)]
theorem to_all (l : List S91) (hl : l.length ≤ 1048576) (k : Nat) (hk : l.length < k) : laws_toInsS.f k l = some (l.map convI) := by
  unfold laws_toInsS.f
  rw [if_pos (by omega), if_pos (by omega)]
  have h := to_loop l (by omega) l.length 0 (List.replicate ((l.length : Int)).toNat z88) k (by omega) (by simp) hk
  simpa using h
theorem eq_loop (p : List S88) (hl : p.length ≤ 9223372036854775807) (d : Nat) : ∀ (i : Nat) (k : Nat), i + d = p.length → d < k → laws_eqInsS.l0 k p p (i : Int) = some true := by
  induction d with
  | zero =>
    intro i k hi hk
    obtain ⟨k, rfl⟩ : ∃ m, k = m + 1 := ⟨k - 1, by omega⟩
    rw [laws_eqInsS.l0, if_neg (by omega)]
  | succ d ih =>
    intro i k hi hk
    obtain ⟨k, rfl⟩ : ∃ m, k = m + 1 := ⟨k - 1, by omega⟩
    rw [laws_eqInsS.l0, if_pos (by omega), if_pos (by omega), if_pos (by omega)]
    simp only [laws_eqIns.f, if_true, Option.bind_some]
    rw [po_wrap (x := (i : Int) + 1) (by omega) (by omega)]
    exact ih (i + 1) k (by omega) (by omega)
theorem eq_all (p : List S88) (hl : p.length ≤ 9223372036854775807) (k : Nat) (hk : p.length < k) : laws_eqInsS.f k p p = some true := by
  unfold laws_eqInsS.f
  rw [if_pos rfl]
  exact eq_loop p hl p.length 0 k (by omega) hk
/-! A right program, said plainly -/
theorem ok_loop (p : List S88) (hl : p.length ≤ 50000) (hp : 1 ≤ p.length) (d : Nat) : ∀ (i k : Nat), i + d = p.length → 3 * d + 3 < k → impl_ProgramOK.l0 k p p (p.length : Int) (i : Int) = some true →
    (∀ j (h : j < p.length), i ≤ j → goodI p[j].f0 p[j].f1 p[j].f2 p.length) ∧ ((rd_T88 p ((p.length : Int) - 1)).f0 = 5 ∨ (rd_T88 p ((p.length : Int) - 1)).f0 = 9 ∨ (rd_T88 p ((p.length : Int) - 1)).f0 = 10) := by
  induction d with
  | zero =>
    intro i k hi hk h
    obtain ⟨k, rfl⟩ : ∃ m, k = m + 1 := ⟨k - 1, by omega⟩
    refine ⟨fun j h1 h2 => by omega, ?_⟩
    rw [impl_ProgramOK.l0, if_neg (by omega), tg_wrap (x := (p.length : Int) - 1) (by omega) (by omega), if_pos (by omega), if_pos (by omega)] at h
    by_cases h5 : (rd_T88 p ((p.length : Int) - 1)).f0 = 5
    · exact .inl h5
    rw [if_neg h5] at h
    by_cases h9 : (rd_T88 p ((p.length : Int) - 1)).f0 = 9
    · exact .inr (.inl h9)
    rw [if_neg h9] at h
    exact .inr (.inr (by simpa using h))
  | succ d ih =>
    intro i k hi hk h
    obtain ⟨k, rfl⟩ : ∃ m, k = m + 3 + 1 := ⟨k - 4, by omega⟩
    have hlt : i < p.length := by omega
    rw [impl_ProgramOK.l0, if_pos (by omega), if_pos (by omega), if_pos (by omega), rd88 p i hlt, impl_ins, Option.bind_some, tg_wrap (x := (i : Int) + 1) (by omega) (by omega)] at h
    by_cases hg : goodI p[i].f0 p[i].f1 p[i].f2 p.length
    · rw [decide_eq_true hg, if_pos rfl] at h
      obtain ⟨h1, h2⟩ := ih (i + 1) (k + 3) (by omega) (by omega) h
      refine ⟨fun j hj hij => ?_, h2⟩
      by_cases e : j = i
      · subst e; exact hg
      · exact h1 j hj (by omega)
    · rw [decide_eq_false hg, if_neg (by simp)] at h
      simp at h
theorem ok_true (p : List S88) (k : Nat) (hk : 3 * p.length + 5 < k) (h : impl_ProgramOK.f k p = some true) : 1 ≤ p.length ∧ p.length ≤ 50000 ∧ OkL p ∧ ∀ i (h : i < p.length), i + 1 = p.length → gs p[i] = false := by
  obtain ⟨k, rfl⟩ : ∃ m, k = m + 1 := ⟨k - 1, by omega⟩
  unfold impl_ProgramOK.f at h
  by_cases h1 : (p.length : Int) < 1
  · rw [if_pos h1, impl_ProgramOK.j0, if_pos rfl] at h
    simp at h
  rw [if_neg h1, impl_ProgramOK.j0] at h
  by_cases h2 : (p.length : Int) > 50000
  · rw [decide_eq_true h2, if_pos rfl] at h
    simp at h
  rw [decide_eq_false h2, if_neg (by simp)] at h
  obtain ⟨a, b⟩ := ok_loop p (by omega) (by omega) p.length 0 k (by omega) (by omega) h
  refine ⟨by omega, by omega, ?_, ?_⟩
  · intro x hx hj
    obtain ⟨i, hi, rfl⟩ := List.getElem_of_mem hx
    have hg := a i hi (by omega)
    unfold jmp at hj
    rw [decide_eq_true_eq] at hj
    unfold goodI at hg
    rw [if_pos hj] at hg
    exact hg.2.1
  · intro i hi he
    rw [show (p.length : Int) - 1 = (i : Int) by omega, rd88 p i hi] at b
    unfold gs
    rw [decide_eq_false]
    omega
theorem both_tight (p : List S88) (h1 : 1 ≤ p.length) (h2 : p.length ≤ 50000) (h3 : OkL p) (h4 : ∀ i (h : i < p.length), i + 1 = p.length → gs p[i] = false) :
    ∃ o : List S88, o.length ≤ 50000 ∧ Ev (fun k => spec_l17Tight.f k p) o ∧ Ev (fun k => impl_Tighten.l0 k p p (p.length : Int) 0) (o, 0) := by
  have hql : (p.map (upd p)).length = p.length := List.length_map _
  have hpg : Pg (p.map (upd p)) := by
    refine ⟨upd_ok p h3, by omega, by omega, fun i hi he => ?_⟩
    have := h4 i (by omega) (by omega)
    rw [List.getElem_map]
    unfold gs at this ⊢
    rwa [upd_f0]
  obtain ⟨S, hS, hS2⟩ := have_S (p.map (upd p))
  generalize hq : p.map (upd p) = q at hql hpg hS hS2
  have hcls : Cls q S := by
    intro i hi hs hj
    rw [getD_at S i (by omega)] at hs
    have hr := Rch.j i hi ((hS2 i (by omega)).1 hs) hj
    have := rch_lt hpg hr
    rw [getD_at S _ (by omega)]
    exact (hS2 _ (by omega)).2 hr
  have hfl := fin_le q S 0 (by omega)
  have hfn := fin_len q S 0 (by omega)
  generalize hF : (fin 0 q S).1 = F at hfl hfn
  refine ⟨cmp F (q.map (rn F)), ?_, ?_, ?_⟩
  · rw [cmp_length F _ (by simp; omega)]
    have := cnt_bound F F.length
    omega
  · unfold spec_l17Tight.f
    have hst := upd_s p h3 h2 (cmp F (q.map (rn F)))
    rw [hq] at hst
    refine hst ?_ p.length 0 (by omega)
    have hm : (List.replicate q.length false).map not = List.replicate q.length true := by simp
    rw [← hql, ← hm]
    refine dfs_s q hpg S hS hS2 _ ?_ (2 * q.length + 1) _ [0] (by omega) (by simp) (inv_start q hpg)
    refine Ev.bind (wo_s q hpg.ok hpg.len S hS) ?_
    have hl' := cmp_length S (q.map (rn S)) (by simp; omega)
    have hb := cnt_bound S S.length
    refine Ev.pos (by omega) ?_
    refine Ev.pos (by omega) ?_
    have hk := keep_keep F S hfl q
    have hlast : Ev (fun k => spec_l17Tight.l3 k (cmp S (q.map (rn S))) ((cmp S (fin 0 q S).1).map not) (cnt S (fin 0 q S).2 : Int) (-1)) (cmp F (q.map (rn F))) := by
      rw [hF]
      refine Ev.step (fun k => by rw [spec_l17Tight.l3]) ?_
      refine Ev.neg (by omega) ?_
      have hw := wo_s (cmp S (q.map (rn S))) (red_ok q hpg.ok S hS hcls) (by omega) (cmp S F) (by rw [cmp_length S _ (by omega), hl'])
      rw [hk] at hw
      exact Ev.bind hw (Ev.now _)
    have hbk := back_s q hpg.ok hpg.len S hS hcls _ hlast q.length (Nat.le_refl _)
    rw [List.drop_eq_nil_of_le (show q.length ≤ q.length from Nat.le_refl _), List.drop_eq_nil_of_le (show S.length ≤ q.length by omega)] at hbk
    simp only [fin, cmp, List.map_nil, List.append_nil] at hbk
    rw [hl', tg_wrap (x := (cnt S S.length : Int) - 1) (by omega) (by omega), show ((cnt S S.length : Int)).toNat = cnt S S.length by omega, hS]
    exact hbk
  · have hit := upd_i p h3 h2 (cmp F (q.map (rn F)), 0)
    rw [hq] at hit
    have hgo := hit ?_ p.length 0 (by omega)
    · simpa using hgo
    rw [← hql]
    refine dfs_i q hpg S hS hS2 _ ?_ (2 * q.length + 1) _ [0] (by omega) (by simp) (inv_start q hpg)
    have hlast : Ev (fun k => impl_Tighten.l2 k q (fin 0 q S).1 ((fin 0 q S).2 : Int) (-1)) (cmp F (q.map (rn F)), 0) := by
      rw [hF]
      refine Ev.step (fun k => by rw [impl_Tighten.l2]) ?_
      refine Ev.neg (by omega) ?_
      refine Ev.pos (by omega) ?_
      have := hpg.len
      refine Ev.pos (by omega) ?_
      have ho := out_i q hpg.ok hpg.len F (by omega) q.length 0 [] (by omega) (by simp)
      have hpl := place_i q hpg.len F (by omega) _ ho q.length 0 (by omega)
      simpa [cnt] using hpl
    have hbk := back_i q S hS hpg.len _ hlast q.length (Nat.le_refl _)
    rw [List.drop_eq_nil_of_le (show q.length ≤ q.length from Nat.le_refl _), List.drop_eq_nil_of_le (show S.length ≤ q.length by omega), List.take_of_length_le (show S.length ≤ q.length by omega)] at hbk
    simpa [fin] using hbk
theorem both_T (p : List S88) (hl : p.length ≤ 1048576) : ∃ o : (List S88) × Int, o.1.length ≤ 50000 ∧ Ev (fun k => spec_Tighten.f k p) o ∧ Ev (fun k => impl_Tighten.f k p) o := by
  obtain ⟨b, e1, e2⟩ := both_ok p hl (3 * p.length + 6) (by omega)
  have s1 : Ev (fun k => spec_ProgramOK.f k p) b := Ev.of (fun k => spec_ProgramOK.mono p k) e1
  have s2 : Ev (fun k => impl_ProgramOK.f k p) b := Ev.of (fun k => impl_ProgramOK.mono p k) e2
  unfold spec_Tighten.f impl_Tighten.f
  cases b with
  | false => exact ⟨([], 1), by simp, Ev.bind s1 (Ev.neg (by simp) (Ev.now _)), Ev.bind s2 (Ev.neg (by simp) (Ev.now _))⟩
  | true =>
    obtain ⟨h1, h2, h3, h4⟩ := ok_true p _ (by omega) e2
    obtain ⟨o, ho, a1, a2⟩ := both_tight p h1 h2 h3 h4
    refine ⟨(o, 0), ho, Ev.bind s1 (Ev.pos rfl (Ev.bind a1 (Ev.now _))), Ev.bind s2 (Ev.pos rfl (Ev.pos (by simp only [List.length_nil]; omega) ?_))⟩
    simpa using a2
/-! The marks -/
theorem mark_all (d : Nat) : ∀ (i : Nat) (l : List S88) (c : Int), i + d = l.length → l.length ≤ 1048576 → 0 ≤ c → c + 3 * d ≤ 1000000000 →
    ∃ l', l'.length = l.length ∧ Ev (fun k => laws_markInsS.l0 k l c (i : Int)) (c + 3 * d, l') ∧ (∀ x, x < i → l'[x]? = l[x]?) ∧ (∀ x, i ≤ x → x < l.length → l'[x]? = some ⟨c + 3 * ((x - i : Nat) : Int), c + 3 * ((x - i : Nat) : Int) + 1, c + 3 * ((x - i : Nat) : Int) + 2⟩) := by
  induction d with
  | zero =>
    intro i l c hi hl h0 h1
    refine ⟨l, rfl, ?_, fun x _ => rfl, fun x h2 h3 => by omega⟩
    refine Ev.step (fun k => by rw [laws_markInsS.l0]) ?_
    refine Ev.neg (by omega) ?_
    simpa using Ev.now (c, l)
  | succ d ih =>
    intro i l c hi hl h0 h1
    have hlt : i < l.length := by omega
    obtain ⟨l', e1, e2, e3, e4⟩ := ih (i + 1) (l.set i ⟨c, c + 1, c + 1 + 1⟩) (c + 1 + 1 + 1) (by rw [List.length_set]; omega) (by rw [List.length_set]; exact hl) (by omega) (by omega)
    rw [List.length_set] at e1 e4
    refine ⟨l', e1, ?_, ?_, ?_⟩
    · refine Ev.step (fun k => by rw [laws_markInsS.l0]) ?_
      refine Ev.pos (by omega) ?_
      refine Ev.pos (by omega) ?_
      have r1 : ∀ v : S88, rd_T88 (l.set i v) (i : Int) = v := by
        intro v
        rw [rd88 _ i (by rw [List.length_set]; exact hlt)]
        simp
      simp only [Option.bind_some, show ((i : Int)).toNat = i by omega, r1, List.set_set, tg_wrap (x := c + 1) (by omega) (by omega), tg_wrap (x := c + 1 + 1) (by omega) (by omega), tg_wrap (x := c + 1 + 1 + 1) (by omega) (by omega), tg_wrap (x := (i : Int) + 1) (by omega) (by omega)]
      rw [show c + 3 * ((d + 1 : Nat) : Int) = c + 1 + 1 + 1 + 3 * (d : Int) by omega]
      exact e2
    · intro x hx
      rw [e3 x (by omega), List.getElem?_set]
      rw [if_neg (by omega)]
    · intro x h2 h3
      by_cases e : x = i
      · subst e
        rw [e3 x (by omega), List.getElem?_set, if_pos rfl, if_pos hlt, Nat.sub_self]
        simp
        omega
      · rw [e4 x (by omega) h3]
        have : ((x - i : Nat) : Int) = ((x - (i + 1) : Nat) : Int) + 1 := by omega
        rw [this]
        congr 2 <;> omega
theorem held_all (l : List S88) (hl : l.length ≤ 1048576) (h : ∀ x, x < l.length → l[x]? = some ⟨1 + 3 * (x : Int), 1 + 3 * (x : Int) + 1, 1 + 3 * (x : Int) + 2⟩) (d : Nat) : ∀ i : Nat, i + d = l.length → Ev (fun k => laws_heldInsS.l0 k l (1 + 3 * (i : Int)) (i : Int)) (1 + 3 * (l.length : Int)) := by
  induction d with
  | zero =>
    intro i hi
    refine Ev.step (fun k => by rw [laws_heldInsS.l0]) ?_
    refine Ev.neg (by omega) ?_
    rw [show i = l.length by omega]
    exact Ev.now _
  | succ d ih =>
    intro i hi
    have hlt : i < l.length := by omega
    have hr : rd_T88 l (i : Int) = ⟨1 + 3 * (i : Int), 1 + 3 * (i : Int) + 1, 1 + 3 * (i : Int) + 2⟩ := by
      rw [rd88 l i hlt]
      have := h i hlt
      rw [List.getElem?_eq_getElem hlt] at this
      exact Option.some.inj this
    refine Ev.step (fun k => by rw [laws_heldInsS.l0]) ?_
    simp only [hr, tg_wrap (x := 1 + 3 * (i : Int) + 1) (by omega) (by omega), tg_wrap (x := 1 + 3 * (i : Int) + 1 + 1) (by omega) (by omega), tg_wrap (x := 1 + 3 * (i : Int) + 1 + 1 + 1) (by omega) (by omega), tg_wrap (x := (i : Int) + 1) (by omega) (by omega)]
    refine Ev.pos (by omega) ?_
    refine Ev.pos (by omega) ?_
    refine Ev.pos trivial ?_
    refine Ev.pos trivial ?_
    refine Ev.pos (by omega) ?_
    have := ih (i + 1) (by omega)
    rw [show 1 + 3 * ((i + 1 : Nat) : Int) = 1 + 3 * (i : Int) + 1 + 1 + 1 by omega] at this
    exact this
theorem marks (l : List S88) (hl : l.length ≤ 1048576) : ∃ l', Ev (fun k => laws_markInsS.f k l 1) (1 + 3 * (l.length : Int), l') ∧ Ev (fun k => laws_heldInsS.f k l' 1) (1 + 3 * (l.length : Int)) := by
  obtain ⟨l', e1, e2, e3, e4⟩ := mark_all l.length 0 l 1 (by omega) hl (by omega) (by omega)
  refine ⟨l', ?_, ?_⟩
  · unfold laws_markInsS.f
    exact e2
  · unfold laws_heldInsS.f
    have := held_all l' (by omega) (fun x hx => by simpa using e4 x (by omega) (by omega)) l'.length 0 (by omega)
    rw [e1] at this
    simpa using this
theorem FnExactTighten.pure : FnExactTighten.Pure := by
  intro l hl
  refine Ev.rounds (g := fun k => laws_FnExactTighten.f k l) ?_
  have hl0 := hl.1
  unfold laws_FnExactTighten.f laws_szInsS.f
  rw [tg_wrap (x := 1048576 - (l.length : Int)) (by omega) (by omega)]
  by_cases h : 1048576 - (l.length : Int) < 0
  · rw [if_pos h]
    simp only [Option.bind_some]
    exact Ev.pos (by omega) (Ev.now _)
  rw [if_neg h]
  simp only [Option.bind_some]
  refine Ev.neg h ?_
  have hto : Ev (fun k => laws_toInsS.f k l) (l.map convI) := Ev.of (fun k => laws_toInsS.mono l k) (to_all l (by omega) (l.length + 1) (by omega))
  have heq : ∀ p : List S88, p.length ≤ 1048576 → Ev (fun k => laws_eqInsS.f k p p) true := fun p hp => Ev.of (fun k => laws_eqInsS.mono p p k) (eq_all p (by omega) (p.length + 1) (by omega))
  have hcl : (l.map convI).length ≤ 1048576 := by rw [List.length_map]; omega
  obtain ⟨o, ho, s1, s2⟩ := both_T (l.map convI) hcl
  obtain ⟨m1, a1, b1⟩ := marks (l.map convI) hcl
  obtain ⟨m2, a2, b2⟩ := marks o.1 (by omega)
  refine Ev.bind hto ?_
  refine Ev.bind s1 ?_
  refine Ev.bind hto ?_
  refine Ev.bind s2 ?_
  refine Ev.bind (heq o.1 (by omega)) ?_
  refine Ev.pos rfl ?_
  refine Ev.step (fun k => by rw [laws_FnExactTighten.j0]) ?_
  refine Ev.neg (by simp) ?_
  refine Ev.bind hto ?_
  refine Ev.bind (heq _ hcl) ?_
  refine Ev.pos rfl ?_
  refine Ev.bind a1 ?_
  refine Ev.neg (by simp only; omega) ?_
  refine Ev.bind (heq o.1 (by omega)) ?_
  refine Ev.pos rfl ?_
  refine Ev.step (fun k => by rw [laws_FnExactTighten.j1]) ?_
  refine Ev.neg (by simp) ?_
  refine Ev.bind a2 ?_
  refine Ev.bind b2 ?_
  refine Ev.neg (by omega) ?_
  refine Ev.pos rfl ?_
  refine Ev.bind hto ?_
  refine Ev.bind s2 ?_
  refine Ev.bind (heq o.1 (by omega)) ?_
  refine Ev.pos rfl ?_
  refine Ev.step (fun k => by rw [laws_FnExactTighten.j2]) ?_
  refine Ev.neg (by simp) ?_
  refine Ev.bind b2 ?_
  refine Ev.neg (by omega) ?_
  exact Ev.pos rfl (Ev.now _)
end Go.Proofs.Ytgdecbliegelmaa.Q
