/- The law FnExactRunProgram, plainly. -/
import Derived.Test.YtgdecbliegelmaaStatFnExactRunProgram
namespace Go.Proofs.Ytgdecbliegelmaa.Q
open Go.RowKit Go.Proofs.YtgdecbliegelmaaW.PrintWords Go.Proofs.YtgdecbliegelmaaX
set_option linter.unusedVariables false
theorem po_wrap {x : Int} (h0 : -9223372036854775808 ≤ x) (h1 : x ≤ 9223372036854775807) : wrap64 x = x := by
  unfold wrap64
  omega
theorem tg_wrap {x : Int} (h0 : -9223372036854775808 ≤ x) (h1 : x ≤ 9223372036854775807) : wrap64 x = x := po_wrap h0 h1
theorem Ev.pos {α : Type} {c : Prop} [Decidable c] {f g : Nat → Option α} {r : α} (hc : c) (h : Ev f r) : Ev (fun n => if c then f n else g n) r := by
  simpa only [if_pos hc] using h
theorem Ev.neg {α : Type} {c : Prop} [Decidable c] {f g : Nat → Option α} {r : α} (hc : ¬ c) (h : Ev g r) : Ev (fun n => if c then f n else g n) r := by
  simpa only [if_neg hc] using h
theorem rd88 (l : List S88) (i : Nat) (h : i < l.length) : rd_T88 l (i : Int) = l[i] := by
  simp [rd_T88, List.getD_eq_getElem?_getD, List.getElem?_eq_getElem h]
theorem rdI (l : List Int) (i : Nat) (h : i < l.length) : rd l (i : Int) = l[i] := by
  simp [rd, List.getD_eq_getElem?_getD, List.getElem?_eq_getElem h]
/-- An instruction is right. -/
def goodI (op nn tt len : Int) : Prop :=
  (1 ≤ op ∧ op ≤ 10) ∧ (if 5 ≤ op ∧ op ≤ 8 then 0 ≤ tt ∧ tt < len else tt = 0) ∧ (if op = 4 ∨ op = 5 ∨ op = 7 ∨ op = 9 then nn = 0 else if op = 10 then nn = 2 ∨ nn = 4 else 0 ≤ nn ∧ nn ≤ 1000)
instance (op nn tt len : Int) : Decidable (goodI op nn tt len) := by unfold goodI; infer_instance
theorem ops_ {op : Int} (h1 : 1 ≤ op) (h2 : op ≤ 10) : op = 1 ∨ op = 2 ∨ op = 3 ∨ op = 4 ∨ op = 5 ∨ op = 6 ∨ op = 7 ∨ op = 8 ∨ op = 9 ∨ op = 10 := by omega
theorem impl_ins (k : Nat) (op nn tt len : Int) : impl_insOK.f (k + 3) op nn tt len = some (decide (goodI op nn tt len)) := by
  by_cases h1 : op < 1
  · have : ¬ goodI op nn tt len := by unfold goodI; omega
    simp [impl_insOK.f, impl_insOK.j0, h1, this]
  by_cases h2 : op > 10
  · have : ¬ goodI op nn tt len := by unfold goodI; omega
    simp [impl_insOK.f, impl_insOK.j0, h1, h2, this]
  rcases ops_ (by omega) (show op ≤ 10 by omega) with rfl | rfl | rfl | rfl | rfl | rfl | rfl | rfl | rfl | rfl <;>
    simp [impl_insOK.f, impl_insOK.j0, impl_insOK.j1, impl_insOK.j2, impl_jumps.f, impl_ifs.f, goodI] <;> (repeat' split) <;> first | (simp_all; done) | (simp_all; omega) | (refine congrArg some ?_; rw [Bool.eq_iff_iff]; simp_all; done) | (refine congrArg some ?_; rw [Bool.eq_iff_iff]; simp_all; omega)
theorem spec_ins (k : Nat) (p : List S88) (i op nn tt : Int) (hl : p.length ≤ 9223372036854775807) (hp : 1 ≤ p.length) :
    (spec_l17HasTo.f op).bind (fun t => if t = true then spec_ProgramOK.j1 (k + 2) p i (wrap64 ((p.length : Int) - 1)) op nn tt else spec_ProgramOK.j1 (k + 2) p i 0 op nn tt) =
      if goodI op nn tt p.length then spec_ProgramOK.l0 k p (wrap64 (i + 1)) else some false := by
  rw [po_wrap (x := (p.length : Int) - 1) (by omega) (by omega)]
  by_cases h1 : op < 1
  · have : ¬ goodI op nn tt p.length := by unfold goodI; omega
    simp [spec_l17HasTo.f, spec_l01Between.f, spec_ProgramOK.j1, spec_ProgramOK.j2, this, show ¬ op ≥ 5 by omega, show ¬ op ≥ 1 by omega]
  by_cases h2 : op > 10
  · have : ¬ goodI op nn tt p.length := by unfold goodI; omega
    simp [spec_l17HasTo.f, spec_l01Between.f, spec_ProgramOK.j1, spec_ProgramOK.j2, this, show op ≥ 5 by omega, show op ≥ 1 by omega, show ¬ op ≤ 8 by omega, show ¬ op ≤ 10 by omega]
  rcases ops_ (by omega) (show op ≤ 10 by omega) with rfl | rfl | rfl | rfl | rfl | rfl | rfl | rfl | rfl | rfl <;>
    simp [spec_l17HasTo.f, spec_l17HasN.f, spec_l01Between.f, spec_ProgramOK.j1, spec_ProgramOK.j2, goodI] <;> (repeat' split) <;> first | (simp_all; done) | (simp_all; omega)
theorem last_eq (x : Int) : (spec_l17Goes.f x).bind (fun t => some (!t)) = if x = 5 then some true else if x = 9 then some true else some (x == 10) := by
  unfold spec_l17Goes.f
  by_cases h1 : x = 5
  · simp [h1]
  by_cases h2 : x = 9
  · simp [h2]
  by_cases h3 : x = 10
  · simp [h3]
  · simp [h1, h2]; rfl
theorem loops_ (p : List S88) (hl : p.length ≤ 9223372036854775807) (hp : 1 ≤ p.length) (d : Nat) : ∀ (i : Nat) (k k' : Nat), i + d = p.length → 3 * d < k → 3 * d + 3 < k' →
    ∃ b, spec_ProgramOK.l0 k p (i : Int) = some b ∧ impl_ProgramOK.l0 k' p p (p.length : Int) (i : Int) = some b := by
  induction d with
  | zero =>
    intro i k k' hi hk hk'
    obtain ⟨k, rfl⟩ : ∃ m, k = m + 1 := ⟨k - 1, by omega⟩
    obtain ⟨k', rfl⟩ : ∃ m, k' = m + 1 := ⟨k' - 1, by omega⟩
    have hw : wrap64 ((p.length : Int) - 1) = (p.length : Int) - 1 := po_wrap (by omega) (by omega)
    have c1 : ¬ ((i : Int) < (p.length : Int)) := by omega
    have c2 : 0 ≤ (p.length : Int) - 1 := by omega
    have c3 : (p.length : Int) - 1 < (p.length : Int) := by omega
    simp only [spec_ProgramOK.l0, impl_ProgramOK.l0, c1, if_false, hw, c2, c3, if_true, last_eq]
    split
    · exact ⟨_, rfl, rfl⟩
    split
    · exact ⟨_, rfl, rfl⟩
    · exact ⟨_, rfl, rfl⟩
  | succ d ih =>
    intro i k k' hi hk hk'
    obtain ⟨k, rfl⟩ : ∃ m, k = m + 1 := ⟨k - 1, by omega⟩
    obtain ⟨k, rfl⟩ : ∃ m, k = m + 2 := ⟨k - 2, by omega⟩
    obtain ⟨k', rfl⟩ : ∃ m, k' = m + 1 := ⟨k' - 1, by omega⟩
    obtain ⟨k', rfl⟩ : ∃ m, k' = m + 3 := ⟨k' - 3, by omega⟩
    rw [spec_ProgramOK.l0, impl_ProgramOK.l0]
    have c1 : (i : Int) < (p.length : Int) := by omega
    have c2 : 0 ≤ (i : Int) := by omega
    simp only [c1, c2, if_true, impl_ins, spec_ins _ _ _ _ _ _ hl hp, Option.bind_some]
    by_cases h : goodI (rd_T88 p i).f0 (rd_T88 p i).f1 (rd_T88 p i).f2 p.length
    · simp only [h, decide_true, if_true]
      rw [po_wrap (x := (i : Int) + 1) (by omega) (by omega)]
      obtain ⟨b, h1, h2⟩ := ih (i + 1) k (k' + 3) (by omega) (by omega) (by omega)
      refine ⟨b, ?_, ?_⟩
      · simpa using h1
      · simpa using h2
    · simp only [h, decide_false, if_false]
      exact ⟨false, rfl, by simp⟩
theorem both_ok (p : List S88) (hl : p.length ≤ 1048576) (k : Nat) (hk : 3 * p.length + 5 < k) : ∃ b, spec_ProgramOK.f k p = some b ∧ impl_ProgramOK.f k p = some b := by
  obtain ⟨k, rfl⟩ : ∃ m, k = m + 1 := ⟨k - 1, by omega⟩
  unfold spec_ProgramOK.f impl_ProgramOK.f spec_l01Between.f
  by_cases h1 : (p.length : Int) < 1
  · rw [if_neg (by omega), if_pos h1]
    simp [impl_ProgramOK.j0]
  rw [if_pos (by omega), if_neg h1]
  by_cases h2 : (p.length : Int) ≤ 50000
  · simp only [Option.bind_some, decide_eq_true h2, if_true, show decide ((p.length : Int) > 50000) = false from decide_eq_false (by omega), impl_ProgramOK.j0]
    obtain ⟨b, h3, h4⟩ := loops_ p (by omega) (by omega) p.length 0 (k + 1) k (by omega) (by omega) (by omega)
    exact ⟨b, by simpa using h3, by simpa using h4⟩
  · simp [show decide ((p.length : Int) > 50000) = true from decide_eq_true (by omega), impl_ProgramOK.j0, h2]
def convI (x : S91) : S88 := ⟨x.f0, x.f1, x.f2⟩
theorem to_loop (l : List S91) (hl : l.length ≤ 9223372036854775807) (d : Nat) : ∀ (i : Nat) (acc : List S88) (k : Nat), i + d = l.length → acc.length = l.length → d < k →
    laws_toInsS.l0 k l acc (i : Int) = some (acc.take i ++ (l.drop i).map convI) := by
  induction d with
  | zero =>
    intro i acc k hi ha hk
    obtain ⟨k, rfl⟩ : ∃ m, k = m + 1 := ⟨k - 1, by omega⟩
    rw [laws_toInsS.l0, if_neg (by omega)]
    rw [List.take_of_length_le (by omega), List.drop_eq_nil_of_le (by omega)]
    simp
  | succ d ih =>
    intro i acc k hi ha hk
    obtain ⟨k, rfl⟩ : ∃ m, k = m + 1 := ⟨k - 1, by omega⟩
    rw [laws_toInsS.l0, if_pos (by omega), if_pos (by omega)]
    simp only [laws_toIns.f, Option.bind_some]
    rw [if_pos (by omega), po_wrap (x := (i : Int) + 1) (by omega) (by omega)]
    have h := ih (i + 1) (acc.set i (convI (rd_T91 l i))) k (by omega) (by simpa using ha) (by omega)
    have e : (acc.set (i : Int).toNat (⟨(rd_T91 l i).f0, (rd_T91 l i).f1, (rd_T91 l i).f2⟩ : S88)) = acc.set i (convI (rd_T91 l i)) := by simp [convI]
    rw [e]
    rw [show ((i : Int) + 1) = ((i + 1 : Nat) : Int) by omega, h]
    congr 1
    have hi2 : i < l.length := by omega
    rw [List.drop_eq_getElem_cons hi2, List.map_cons, List.take_add_one, List.take_set_of_le (Nat.le_refl i)]
    have : rd_T91 l i = l[i] := by simp [rd_T91, List.getD_eq_getElem?_getD, List.getElem?_eq_getElem hi2]
    simp [this, List.getElem?_set_self (show i < acc.length by omega)]
theorem to_all (l : List S91) (hl : l.length ≤ 1048576) (k : Nat) (hk : l.length < k) : laws_toInsS.f k l = some (l.map convI) := by
  unfold laws_toInsS.f
  rw [if_pos (by omega), if_pos (by omega)]
  have h := to_loop l (by omega) l.length 0 (List.replicate ((l.length : Int)).toNat z88) k (by omega) (by simp) hk
  simpa using h
theorem eq_loop (p : List S88) (hl : p.length ≤ 9223372036854775807) (d : Nat) : ∀ (i : Nat) (k : Nat), i + d = p.length → d < k → laws_eqInsS.l0 k p p (i : Int) = some true := by
  induction d with
  | zero =>
    intro i k hi hk
    obtain ⟨k, rfl⟩ : ∃ m, k = m + 1 := ⟨k - 1, by omega⟩
    rw [laws_eqInsS.l0, if_neg (by omega)]
  | succ d ih =>
    intro i k hi hk
    obtain ⟨k, rfl⟩ : ∃ m, k = m + 1 := ⟨k - 1, by omega⟩
    rw [laws_eqInsS.l0, if_pos (by omega), if_pos (by omega), if_pos (by omega)]
    simp only [laws_eqIns.f, if_true, Option.bind_some]
    rw [po_wrap (x := (i : Int) + 1) (by omega) (by omega)]
    exact ih (i + 1) k (by omega) (by omega)
theorem eq_all (p : List S88) (hl : p.length ≤ 9223372036854775807) (k : Nat) (hk : p.length < k) : laws_eqInsS.f k p p = some true := by
  unfold laws_eqInsS.f
  rw [if_pos rfl]
  exact eq_loop p hl p.length 0 k (by omega) hk
theorem ok_loop (p : List S88) (hl : p.length ≤ 50000) (hp : 1 ≤ p.length) (d : Nat) : ∀ (i k : Nat), i + d = p.length → 3 * d + 3 < k → impl_ProgramOK.l0 k p p (p.length : Int) (i : Int) = some true →
    (∀ j (h : j < p.length), i ≤ j → goodI p[j].f0 p[j].f1 p[j].f2 p.length) ∧ ((rd_T88 p ((p.length : Int) - 1)).f0 = 5 ∨ (rd_T88 p ((p.length : Int) - 1)).f0 = 9 ∨ (rd_T88 p ((p.length : Int) - 1)).f0 = 10) := by
  induction d with
  | zero =>
    intro i k hi hk h
    obtain ⟨k, rfl⟩ : ∃ m, k = m + 1 := ⟨k - 1, by omega⟩
    refine ⟨fun j h1 h2 => by omega, ?_⟩
    rw [impl_ProgramOK.l0, if_neg (by omega), tg_wrap (x := (p.length : Int) - 1) (by omega) (by omega), if_pos (by omega), if_pos (by omega)] at h
    by_cases h5 : (rd_T88 p ((p.length : Int) - 1)).f0 = 5
    · exact .inl h5
    rw [if_neg h5] at h
    by_cases h9 : (rd_T88 p ((p.length : Int) - 1)).f0 = 9
    · exact .inr (.inl h9)
    rw [if_neg h9] at h
    exact .inr (.inr (by simpa using h))
  | succ d ih =>
    intro i k hi hk h
    obtain ⟨k, rfl⟩ : ∃ m, k = m + 3 + 1 := ⟨k - 4, by omega⟩
    have hlt : i < p.length := by omega
    rw [impl_ProgramOK.l0, if_pos (by omega), if_pos (by omega), if_pos (by omega), rd88 p i hlt, impl_ins, Option.bind_some, tg_wrap (x := (i : Int) + 1) (by omega) (by omega)] at h
    by_cases hg : goodI p[i].f0 p[i].f1 p[i].f2 p.length
    · rw [decide_eq_true hg, if_pos rfl] at h
      obtain ⟨h1, h2⟩ := ih (i + 1) (k + 3) (by omega) (by omega) h
      refine ⟨fun j hj hij => ?_, h2⟩
      by_cases e : j = i
      · subst e; exact hg
      · exact h1 j hj (by omega)
    · rw [decide_eq_false hg, if_neg (by simp)] at h
      simp at h

def Good (p : List S88) : Prop := 1 ≤ p.length ∧ p.length ≤ 50000 ∧ (∀ j (h : j < p.length), goodI p[j].f0 p[j].f1 p[j].f2 p.length) ∧ ((rd_T88 p ((p.length : Int) - 1)).f0 = 5 ∨ (rd_T88 p ((p.length : Int) - 1)).f0 = 9 ∨ (rd_T88 p ((p.length : Int) - 1)).f0 = 10)
theorem ok_good (p : List S88) (k : Nat) (hk : 3 * p.length + 5 < k) (h : impl_ProgramOK.f k p = some true) : Good p := by
  obtain ⟨k, rfl⟩ : ∃ m, k = m + 1 := ⟨k - 1, by omega⟩
  unfold impl_ProgramOK.f at h
  by_cases h1 : (p.length : Int) < 1
  · rw [if_pos h1, impl_ProgramOK.j0, if_pos rfl] at h
    simp at h
  rw [if_neg h1, impl_ProgramOK.j0] at h
  by_cases h2 : (p.length : Int) > 50000
  · rw [decide_eq_true h2, if_pos rfl] at h
    simp at h
  rw [decide_eq_false h2, if_neg (by simp)] at h
  obtain ⟨a, b⟩ := ok_loop p (by omega) (by omega) p.length 0 k (by omega) (by omega) h
  exact ⟨by omega, by omega, fun j hj => a j hj (by omega), b⟩
/-- One round of the program's own loop, said by stepF. -/
theorem l1_step (p : List S88) (w : List Int) (f n pc : Int) (pile told : List Int) (place : Int) (k : Nat) (hs : StepOk p w pc pile told place = true) (hn : n ≠ f) (h0 : 0 ≤ n) (h1 : n ≤ 1000000) :
    impl_RunProgram.l1 (k + 1) p w f pile told place pc n = if (stepF (rd_T88 p pc) w pc pile told place 0).2.2.2.2.2 = true then some ((stepF (rd_T88 p pc) w pc pile told place 0).2.2.1, (stepF (rd_T88 p pc) w pc pile told place 0).2.2.2.2.1, (stepF (rd_T88 p pc) w pc pile told place 0).2.2.2.1, n + 1)
       else impl_RunProgram.l1 k p w f (stepF (rd_T88 p pc) w pc pile told place 0).2.1 (stepF (rd_T88 p pc) w pc pile told place 0).2.2.1 (stepF (rd_T88 p pc) w pc pile told place 0).2.2.2.1 (stepF (rd_T88 p pc) w pc pile told place 0).1 (n + 1) := by
  obtain ⟨q0, q1, q2, q3, q4, q5, q6, q7, q8, q9, qa, qb⟩ := of_decide_eq_true hs
  rw [impl_RunProgram.l1, if_neg hn, if_pos q0, if_pos q1, po_wrap (x := n + 1) (by omega) (by omega), po_wrap (x := pc + 1) (by omega) (by omega)]
  generalize rd_T88 p pc = x at *
  unfold stepF
  by_cases e1 : x.f0 = 1
  · simp only [if_pos e1]
    by_cases c : (pile.length : Int) = 10000
    · simp only [if_pos c, if_true]
    · simp only [if_neg c, if_pos (show pile.length < 17592186044416 by omega), Bool.false_eq_true, if_false]
  simp only [if_neg e1]
  by_cases e2 : x.f0 = 2
  · simp only [if_pos e2]
    by_cases c : (pile.length : Int) ≤ x.f1
    · simp only [if_pos c, if_true]
    · simp only [if_neg c, po_wrap (x := (pile.length : Int) - x.f1) (by omega) (by omega), if_pos (show 0 ≤ (pile.length : Int) - x.f1 by omega), if_pos (show (pile.length : Int) - x.f1 ≤ (pile.length : Int) by omega), Bool.false_eq_true, if_false]
  simp only [if_neg e2]
  by_cases e3 : x.f0 = 3
  · simp only [if_pos e3]
    by_cases c : (told.length : Int) = 10000
    · simp only [if_pos c, if_true]
    · simp only [if_neg c, if_pos (show told.length < 17592186044416 by omega), Bool.false_eq_true, if_false]
  simp only [if_neg e3]
  by_cases e4 : x.f0 = 4
  · simp only [if_pos e4]
    by_cases c : place = (w.length : Int)
    · simp only [if_pos c, if_true]
    · simp only [if_neg c, po_wrap (x := place + 1) (by omega) (by omega), Bool.false_eq_true, if_false]
  simp only [if_neg e4]
  by_cases e5 : x.f0 = 5
  · simp only [if_pos e5, Bool.false_eq_true, if_false]
  simp only [if_neg e5]
  by_cases e6 : x.f0 = 6
  · simp only [if_pos e6]
    by_cases c : place < (w.length : Int)
    · by_cases d : rd w place = x.f1
      · simp only [if_pos c, if_pos q5, if_pos d, if_pos (show place < (w.length : Int) ∧ rd w place = x.f1 from ⟨c, d⟩), Bool.false_eq_true, if_false]
      · simp only [if_pos c, if_pos q5, if_neg d, if_neg (show ¬ (place < (w.length : Int) ∧ rd w place = x.f1) from fun h => d h.2), Bool.false_eq_true, if_false]
    · simp only [if_neg c, if_neg (show ¬ (place < (w.length : Int) ∧ rd w place = x.f1) from fun h => c h.1), Bool.false_eq_true, if_false]
  simp only [if_neg e6]
  by_cases e7 : x.f0 = 7
  · simp only [if_pos e7]
    by_cases c : place = (w.length : Int)
    · simp only [if_pos c, Bool.false_eq_true, if_false]
    · simp only [if_neg c, Bool.false_eq_true, if_false]
  simp only [if_neg e7]
  by_cases e8 : x.f0 = 8
  · simp only [if_pos e8]
    by_cases c : 0 < (pile.length : Int)
    · rw [if_pos (show (pile.length : Int) > 0 from c), po_wrap (x := (pile.length : Int) - 1) (by omega) (by omega), if_pos (show 0 ≤ (pile.length : Int) - 1 by omega), if_pos (show (pile.length : Int) - 1 < (pile.length : Int) by omega)]
      by_cases d : rd pile ((pile.length : Int) - 1) = x.f1
      · simp only [if_pos d, if_pos (show 0 < (pile.length : Int) ∧ rd pile ((pile.length : Int) - 1) = x.f1 from ⟨c, d⟩), Bool.false_eq_true, if_false]
      · simp only [if_neg d, if_neg (show ¬ (0 < (pile.length : Int) ∧ rd pile ((pile.length : Int) - 1) = x.f1) from fun h => d h.2), Bool.false_eq_true, if_false]
    · rw [if_neg (show ¬ (pile.length : Int) > 0 from c)]
      simp only [if_neg (show ¬ (0 < (pile.length : Int) ∧ rd pile ((pile.length : Int) - 1) = x.f1) from fun h => c h.1), Bool.false_eq_true, if_false]
  simp only [if_neg e8]
  by_cases e9 : x.f0 = 9
  · simp only [if_pos e9, if_true]
  simp only [if_neg e9]
  by_cases e10 : x.f0 = 10
  · simp only [if_pos e10, if_true]
  omega
/-- What keeps the numbers right. -/
structure Inv (p : List S88) (w : List Int) (pc : Int) (pile told : List Int) (place : Int) : Prop where
  pc0 : 0 ≤ pc
  pc1 : pc < (p.length : Int)
  pi : pile.length ≤ 10000
  to_ : told.length ≤ 10000
  pl0 : 0 ≤ place
  pl1 : place ≤ (w.length : Int)
theorem good_at {p : List S88} (hp : Good p) {pc : Int} (h0 : 0 ≤ pc) (h1 : pc < (p.length : Int)) : goodI (rd_T88 p pc).f0 (rd_T88 p pc).f1 (rd_T88 p pc).f2 p.length ∧ (pc + 1 < (p.length : Int) ∨ (rd_T88 p pc).f0 = 5 ∨ (rd_T88 p pc).f0 = 9 ∨ (rd_T88 p pc).f0 = 10) := by
  obtain ⟨n, rfl⟩ : ∃ n : Nat, pc = (n : Int) := ⟨pc.toNat, by omega⟩
  refine ⟨by rw [rd88 p n (by omega)]; exact hp.2.2.1 n (by omega), ?_⟩
  by_cases e : (n : Int) + 1 < (p.length : Int)
  · exact .inl e
  · have e2 : (n : Int) = (p.length : Int) - 1 := by omega
    rw [e2]
    exact .inr hp.2.2.2
theorem inv_ok {p : List S88} (hp : Good p) {w : List Int} (hw : w.length ≤ 200) {pc : Int} {pile told : List Int} {place : Int} (h : Inv p w pc pile told place) : StepOk p w pc pile told place = true := by
  obtain ⟨hg, _⟩ := good_at hp h.pc0 h.pc1
  have h2 := hp.2.1
  refine decide_eq_true ⟨h.pc0, h.pc1, h2, h.pi, h.to_, h.pl0, h.pl1, hw, ?_⟩
  generalize rd_T88 p pc = x at hg ⊢
  unfold goodI at hg
  obtain ⟨⟨a1, a2⟩, a3, a4⟩ := hg
  refine ⟨?_, ?_, a1, a2⟩ <;> (repeat' (split at a4)) <;> omega
theorem stepF_elim {x : S88} {word : List Int} {pc : Int} {pile told : List Int} {place code : Int} {P : (Int × List Int × List Int × Int × Int × Bool) → Prop}
    (h1 : ∀ c, P (pc + 1, pile, told, place, c, true))
    (h2 : x.f0 = 1 → ¬ (pile.length : Int) = 10000 → P (pc + 1, pile ++ [x.f1], told, place, code, false))
    (h3 : x.f0 = 2 → ∀ m, P (pc + 1, pile.take m, told, place, code, false))
    (h4 : x.f0 = 3 → ¬ (told.length : Int) = 10000 → P (pc + 1, pile, told ++ [x.f1], place, code, false))
    (h5 : x.f0 = 4 → ¬ place = (word.length : Int) → P (pc + 1, pile, told, place + 1, code, false))
    (h6 : 5 ≤ x.f0 → x.f0 ≤ 8 → P (x.f2, pile, told, place, code, false))
    (h7 : x.f0 ≠ 5 → x.f0 ≠ 9 → x.f0 ≠ 10 → P (pc + 1, pile, told, place, code, false)) : P (stepF x word pc pile told place code) := by
  unfold stepF
  by_cases e1 : x.f0 = 1
  · rw [if_pos e1]; split
    · exact h1 _
    · exact h2 e1 (by assumption)
  rw [if_neg e1]
  by_cases e2 : x.f0 = 2
  · rw [if_pos e2]; split
    · exact h1 _
    · exact h3 e2 _
  rw [if_neg e2]
  by_cases e3 : x.f0 = 3
  · rw [if_pos e3]; split
    · exact h1 _
    · exact h4 e3 (by assumption)
  rw [if_neg e3]
  by_cases e4 : x.f0 = 4
  · rw [if_pos e4]; split
    · exact h1 _
    · exact h5 e4 (by assumption)
  rw [if_neg e4]
  by_cases e5 : x.f0 = 5
  · rw [if_pos e5]; exact h6 (by omega) (by omega)
  rw [if_neg e5]
  by_cases e6 : x.f0 = 6
  · rw [if_pos e6]; split
    · exact h6 (by omega) (by omega)
    · exact h7 (by omega) (by omega) (by omega)
  rw [if_neg e6]
  by_cases e7 : x.f0 = 7
  · rw [if_pos e7]; split
    · exact h6 (by omega) (by omega)
    · exact h7 (by omega) (by omega) (by omega)
  rw [if_neg e7]
  by_cases e8 : x.f0 = 8
  · rw [if_pos e8]; split
    · exact h6 (by omega) (by omega)
    · exact h7 (by omega) (by omega) (by omega)
  rw [if_neg e8]
  by_cases e9 : x.f0 = 9
  · rw [if_pos e9]; exact h1 _
  rw [if_neg e9]
  by_cases e10 : x.f0 = 10
  · rw [if_pos e10]; exact h1 _
  rw [if_neg e10]
  exact h7 (by omega) (by omega) (by omega)
theorem inv_step {p : List S88} (hp : Good p) {w : List Int} {pc : Int} {pile told : List Int} {place : Int} (h : Inv p w pc pile told place) (he : (stepF (rd_T88 p pc) w pc pile told place 0).2.2.2.2.2 = false) :
    Inv p w (stepF (rd_T88 p pc) w pc pile told place 0).1 (stepF (rd_T88 p pc) w pc pile told place 0).2.1 (stepF (rd_T88 p pc) w pc pile told place 0).2.2.1 (stepF (rd_T88 p pc) w pc pile told place 0).2.2.2.1 := by
  obtain ⟨hg, hl⟩ := good_at hp h.pc0 h.pc1
  obtain ⟨h1, h2, h3, h4, h5, h6⟩ := h
  generalize rd_T88 p pc = x at *
  unfold goodI at hg
  obtain ⟨⟨a1, a2⟩, a3, a4⟩ := hg
  revert he
  refine stepF_elim (P := fun s => s.2.2.2.2.2 = false → Inv p w s.1 s.2.1 s.2.2.1 s.2.2.2.1) ?_ ?_ ?_ ?_ ?_ ?_ ?_
  · intro c he; exact absurd he (by simp)
  · intro e1 e2 _; exact ⟨by simp only; omega, by simp only; omega, by simp only [List.length_append, List.length_cons, List.length_nil]; omega, h4, h5, h6⟩
  · intro e1 m _; exact ⟨by simp only; omega, by simp only; omega, by simp only [List.length_take]; omega, h4, h5, h6⟩
  · intro e1 e2 _; exact ⟨by simp only; omega, by simp only; omega, h3, by simp only [List.length_append, List.length_cons, List.length_nil]; omega, h5, h6⟩
  · intro e1 e2 _; exact ⟨by simp only; omega, by simp only; omega, h3, h4, by simp only; omega, by simp only; omega⟩
  · intro e1 e2 _
    rw [if_pos ⟨e1, e2⟩] at a3
    exact ⟨a3.1, a3.2, h3, h4, h5, h6⟩
  · intro e1 e2 e3 _; exact ⟨by simp only; omega, by simp only; omega, h3, h4, h5, h6⟩
theorem told_le {x : S88} {w : List Int} {pc : Int} {pile told : List Int} {place : Int} (h : told.length ≤ 10000) : (stepF x w pc pile told place 0).2.2.1.length ≤ 10000 := by
  refine stepF_elim (P := fun s => s.2.2.1.length ≤ 10000) ?_ ?_ ?_ ?_ ?_ ?_ ?_
  · intro c; exact h
  · intro _ _; exact h
  · intro _ _; exact h
  · intro _ e2; simp only [List.length_append, List.length_cons, List.length_nil]; omega
  · intro _ _; exact h
  · intro _ _; exact h
  · intro _ _ _; exact h
theorem runs_eq (p : List S88) (hp : Good p) (w : List Int) (hw : w.length ≤ 200) (f : Int) (hf : f ≤ 1000000) (d : Nat) : ∀ (n pc : Int) (pile told : List Int) (place : Int), 0 ≤ n → n + d = f → Inv p w pc pile told place →
    ∃ r, r.1.length ≤ 10000 ∧ Ev (fun k => runL k p w f n pc pile told place) r ∧ Ev (fun k => impl_RunProgram.l1 k p w f pile told place pc n) r := by
  induction d with
  | zero =>
    intro n pc pile told place hn hd hi
    refine ⟨(told, 11, place, n), hi.to_, ?_, ?_⟩
    · refine Ev.step (fun k => by rw [runL]) (Ev.pos (by omega) (Ev.now _))
    · refine Ev.step (fun k => by rw [impl_RunProgram.l1]) (Ev.pos (by omega) (Ev.now _))
  | succ d ih =>
    intro n pc pile told place hn hd hi
    have hs := inv_ok hp hw hi
    have hne : n ≠ f := by omega
    have e1 : ∀ k, runL (k + 1) p w f n pc pile told place = if (stepF (rd_T88 p pc) w pc pile told place 0).2.2.2.2.2 = true then some ((stepF (rd_T88 p pc) w pc pile told place 0).2.2.1, (stepF (rd_T88 p pc) w pc pile told place 0).2.2.2.2.1, (stepF (rd_T88 p pc) w pc pile told place 0).2.2.2.1, n + 1)
       else runL k p w f (n + 1) (stepF (rd_T88 p pc) w pc pile told place 0).1 (stepF (rd_T88 p pc) w pc pile told place 0).2.1 (stepF (rd_T88 p pc) w pc pile told place 0).2.2.1 (stepF (rd_T88 p pc) w pc pile told place 0).2.2.2.1 := by
      intro k
      rw [runL, if_neg hne, if_pos hs]
    cases he : (stepF (rd_T88 p pc) w pc pile told place 0).2.2.2.2.2 with
    | true =>
      exact ⟨_, told_le hi.to_, Ev.step e1 (Ev.pos he (Ev.now _)), Ev.step (fun k => l1_step p w f n pc pile told place k hs hne hn (by omega)) (Ev.pos he (Ev.now _))⟩
    | false =>
      obtain ⟨r, hr, i1, i2⟩ := ih (n + 1) _ _ _ _ (by omega) (by omega) (inv_step hp hi he)
      exact ⟨r, hr, Ev.step e1 (Ev.neg (by simp [he]) i1), Ev.step (fun k => l1_step p w f n pc pile told place k hs hne hn (by omega)) (Ev.neg (by simp [he]) i2)⟩
/-- The word's numbers. -/
theorem word_loop (p : List S88) (w : List Int) (hw : w.length ≤ 200) (f : Int) (r : List Int × Int × Int × Int) (hgo : nonneg w = true → Ev (fun k => impl_RunProgram.l1 k p w f [] [] 0 0 0) r) (hno : nonneg w = false → r = ([], 1, 0, 0)) (d : Nat) : ∀ i : Nat, i + d = w.length → nonneg (w.take i) = true → Ev (fun k => impl_RunProgram.l0 k p w f w (w.length : Int) (i : Int)) r := by
  induction d with
  | zero =>
    intro i hi hn
    refine Ev.step (fun k => by rw [impl_RunProgram.l0]) ?_
    refine Ev.neg (by omega) ?_
    exact hgo (by rw [List.take_of_length_le (by omega)] at hn; exact hn)
  | succ d ih =>
    intro i hi hn
    refine Ev.step (fun k => by rw [impl_RunProgram.l0]) ?_
    refine Ev.pos (by omega) (Ev.pos (by omega) (Ev.pos (by omega) ?_))
    have hnt := nonneg_take (l := w) (i := i) (by omega)
    by_cases c : rd w (i : Int) < 0
    · refine Ev.pos c ?_
      rw [hn, decide_eq_false (by omega)] at hnt
      rw [hno (nonneg_false (by simpa using hnt))]
      exact Ev.now _
    · refine Ev.neg c ?_
      rw [po_wrap (x := (i : Int) + 1) (by omega) (by omega), show (i : Int) + 1 = ((i + 1 : Nat) : Int) by omega]
      exact ih (i + 1) (by omega) (by rw [hnt, hn, decide_eq_true (by omega)]; rfl)
theorem both_run (p : List S88) (hl : p.length ≤ 1048576) (w : List Int) (f : Int) : ∃ r : List Int × Int × Int × Int, r.1.length ≤ 10000 ∧ Ev (fun k => spec_RunProgram.f k p w f) r ∧ Ev (fun k => impl_RunProgram.f k p w f) r := by
  obtain ⟨b, e1, e2⟩ := both_ok p hl (3 * p.length + 6) (by omega)
  have s1 : Ev (fun k => spec_ProgramOK.f k p) b := Ev.of (fun k => spec_ProgramOK.mono p k) e1
  have s2 : Ev (fun k => impl_ProgramOK.f k p) b := Ev.of (fun k => impl_ProgramOK.mono p k) e2
  unfold spec_RunProgram.f impl_RunProgram.f
  have bad : Ev (fun k => impl_RunProgram.j0 k p w f true) ([], 1, 0, 0) := Ev.step (fun k => by rw [impl_RunProgram.j0]) (Ev.pos rfl (Ev.now _))
  cases b with
  | false =>
    refine ⟨([], 1, 0, 0), by simp, Ev.bind s1 (Ev.neg (by simp [fine0]) (Ev.now _)), Ev.bind s2 (Ev.neg (by simp) bad)⟩
  | true =>
    have hp := ok_good p _ (by omega) e2
    by_cases c1 : (w.length : Int) ≤ 200
    · by_cases c2 : 0 ≤ f
      · by_cases c3 : f ≤ 1000000
        · have hf0 : fine0 true w f = true := by unfold fine0; rw [decide_eq_true c1, decide_eq_true c2, decide_eq_true c3]; rfl
          cases hn : nonneg w with
          | true =>
            obtain ⟨r, hr, i1, i2⟩ := runs_eq p hp w (by omega) f c3 f.toNat 0 0 [] [] 0 (by omega) (by omega) ⟨by omega, by have := hp.1; omega, by simp, by simp, by omega, by omega⟩
            refine ⟨r, hr, Ev.bind s1 (Ev.pos (by rw [hf0]; rfl) i1), Ev.bind s2 (Ev.pos rfl (Ev.neg (by omega) (Ev.neg (by omega) ?_)))⟩
            rw [decide_eq_false (show ¬ f > 1000000 by omega)]
            refine Ev.step (fun k => by rw [impl_RunProgram.j0]) (Ev.neg (by simp) ?_)
            exact word_loop p w (by omega) f r (fun _ => i2) (fun h => by rw [hn] at h; cases h) w.length 0 (by omega) (by simp [nonneg])
          | false =>
            refine ⟨([], 1, 0, 0), by simp, Ev.bind s1 (Ev.neg (by simp) (Ev.now _)), Ev.bind s2 (Ev.pos rfl (Ev.neg (by omega) (Ev.neg (by omega) ?_)))⟩
            rw [decide_eq_false (show ¬ f > 1000000 by omega)]
            refine Ev.step (fun k => by rw [impl_RunProgram.j0]) (Ev.neg (by simp) ?_)
            exact word_loop p w (by omega) f _ (fun h => by rw [hn] at h; cases h) (fun _ => rfl) w.length 0 (by omega) (by simp [nonneg])
        · have hf0 : fine0 true w f = false := by unfold fine0; rw [decide_eq_false c3]; simp
          refine ⟨([], 1, 0, 0), by simp, Ev.bind s1 (Ev.neg (by rw [hf0]; simp) (Ev.now _)), Ev.bind s2 (Ev.pos rfl (Ev.neg (by omega) (Ev.neg (by omega) ?_)))⟩
          rw [decide_eq_true (show f > 1000000 by omega)]
          exact bad
      · have hf0 : fine0 true w f = false := by unfold fine0; rw [decide_eq_false c2]; simp
        exact ⟨([], 1, 0, 0), by simp, Ev.bind s1 (Ev.neg (by rw [hf0]; simp) (Ev.now _)), Ev.bind s2 (Ev.pos rfl (Ev.neg (by omega) (Ev.pos (by omega) bad)))⟩
    · have hf0 : fine0 true w f = false := by unfold fine0; rw [decide_eq_false c1]; simp
      exact ⟨([], 1, 0, 0), by simp, Ev.bind s1 (Ev.neg (by rw [hf0]; simp) (Ev.now _)), Ev.bind s2 (Ev.pos rfl (Ev.pos (by omega) bad))⟩
/-! The marks -/
theorem mark_all (d : Nat) : ∀ (i : Nat) (l : List S88) (c : Int), i + d = l.length → l.length ≤ 1048576 → 0 ≤ c → c + 3 * d ≤ 1000000000 →
    ∃ l', l'.length = l.length ∧ Ev (fun k => laws_markInsS.l0 k l c (i : Int)) (c + 3 * d, l') ∧ (∀ x, x < i → l'[x]? = l[x]?) ∧ (∀ x, i ≤ x → x < l.length → l'[x]? = some ⟨c + 3 * ((x - i : Nat) : Int), c + 3 * ((x - i : Nat) : Int) + 1, c + 3 * ((x - i : Nat) : Int) + 2⟩) := by
  induction d with
  | zero =>
    intro i l c hi hl h0 h1
    refine ⟨l, rfl, ?_, fun x _ => rfl, fun x h2 h3 => by omega⟩
    refine Ev.step (fun k => by rw [laws_markInsS.l0]) ?_
    refine Ev.neg (by omega) ?_
    simpa using Ev.now (c, l)
  | succ d ih =>
    intro i l c hi hl h0 h1
    have hlt : i < l.length := by omega
    obtain ⟨l', e1, e2, e3, e4⟩ := ih (i + 1) (l.set i ⟨c, c + 1, c + 1 + 1⟩) (c + 1 + 1 + 1) (by rw [List.length_set]; omega) (by rw [List.length_set]; exact hl) (by omega) (by omega)
    rw [List.length_set] at e1 e4
    refine ⟨l', e1, ?_, ?_, ?_⟩
    · refine Ev.step (fun k => by rw [laws_markInsS.l0]) ?_
      refine Ev.pos (by omega) ?_
      refine Ev.pos (by omega) ?_
      have r1 : ∀ v : S88, rd_T88 (l.set i v) (i : Int) = v := by
        intro v
        rw [rd88 _ i (by rw [List.length_set]; exact hlt)]
        simp
      simp only [Option.bind_some, show ((i : Int)).toNat = i by omega, r1, List.set_set, tg_wrap (x := c + 1) (by omega) (by omega), tg_wrap (x := c + 1 + 1) (by omega) (by omega), tg_wrap (x := c + 1 + 1 + 1) (by omega) (by omega), tg_wrap (x := (i : Int) + 1) (by omega) (by omega)]
      rw [show c + 3 * ((d + 1 : Nat) : Int) = c + 1 + 1 + 1 + 3 * (d : Int) by omega]
      exact e2
    · intro x hx
      rw [e3 x (by omega), List.getElem?_set]
      rw [if_neg (by omega)]
    · intro x h2 h3
      by_cases e : x = i
      · subst e
        rw [e3 x (by omega), List.getElem?_set, if_pos rfl, if_pos hlt, Nat.sub_self]
        simp
        omega
      · rw [e4 x (by omega) h3]
        have : ((x - i : Nat) : Int) = ((x - (i + 1) : Nat) : Int) + 1 := by omega
        rw [this]
        congr 2 <;> omega
theorem mark_ints (d : Nat) : ∀ (i : Nat) (l : List Int) (c : Int), i + d = l.length → l.length ≤ 1048576 → 0 ≤ c → c + d ≤ 1000000000 →
    ∃ l', l'.length = l.length ∧ Ev (fun k => laws_markIntS.l0 k l c (i : Int)) (c + d, l') ∧ (∀ x, x < i → l'[x]? = l[x]?) ∧ (∀ x, i ≤ x → x < l.length → l'[x]? = some (c + ((x - i : Nat) : Int))) := by
  induction d with
  | zero =>
    intro i l c hi hl h0 h1
    refine ⟨l, rfl, ?_, fun x _ => rfl, fun x h2 h3 => by omega⟩
    refine Ev.step (fun k => by rw [laws_markIntS.l0]) ?_
    refine Ev.neg (by omega) ?_
    simpa using Ev.now (c, l)
  | succ d ih =>
    intro i l c hi hl h0 h1
    have hlt : i < l.length := by omega
    obtain ⟨l', e1, e2, e3, e4⟩ := ih (i + 1) (l.set i c) (c + 1) (by rw [List.length_set]; omega) (by rw [List.length_set]; exact hl) (by omega) (by omega)
    rw [List.length_set] at e1 e4
    refine ⟨l', e1, ?_, ?_, ?_⟩
    · refine Ev.step (fun k => by rw [laws_markIntS.l0]) ?_
      refine Ev.pos (by omega) ?_
      refine Ev.pos (by omega) ?_
      simp only [show ((i : Int)).toNat = i by omega, tg_wrap (x := c + 1) (by omega) (by omega), tg_wrap (x := (i : Int) + 1) (by omega) (by omega)]
      rw [show c + ((d + 1 : Nat) : Int) = c + 1 + (d : Int) by omega, show (i : Int) + 1 = ((i + 1 : Nat) : Int) by omega]
      exact e2
    · intro x hx
      rw [e3 x (by omega), List.getElem?_set]
      rw [if_neg (by omega)]
    · intro x h2 h3
      by_cases e : x = i
      · subst e
        rw [e3 x (by omega), List.getElem?_set, if_pos rfl, if_pos hlt, Nat.sub_self]
        simp
      · rw [e4 x (by omega) h3]
        have : ((x - i : Nat) : Int) = ((x - (i + 1) : Nat) : Int) + 1 := by omega
        rw [this]
        congr 1
        omega
theorem held_ints (l : List Int) (hl : l.length ≤ 1048576) (h : ∀ x, x < l.length → l[x]? = some (1 + (x : Int))) (d : Nat) : ∀ i : Nat, i + d = l.length → Ev (fun k => laws_heldIntS.l0 k l (1 + (i : Int)) (i : Int)) (1 + (l.length : Int)) := by
  induction d with
  | zero =>
    intro i hi
    refine Ev.step (fun k => by rw [laws_heldIntS.l0]) ?_
    refine Ev.neg (by omega) ?_
    rw [show i = l.length by omega]
    exact Ev.now _
  | succ d ih =>
    intro i hi
    have hlt : i < l.length := by omega
    have hr : rd l (i : Int) = 1 + (i : Int) := by
      rw [rdI l i hlt]
      have := h i hlt
      rw [List.getElem?_eq_getElem hlt] at this
      exact Option.some.inj this
    refine Ev.step (fun k => by rw [laws_heldIntS.l0]) ?_
    rw [hr, tg_wrap (x := 1 + (i : Int) + 1) (by omega) (by omega), tg_wrap (x := (i : Int) + 1) (by omega) (by omega)]
    refine Ev.pos (by omega) ?_
    refine Ev.pos (by omega) ?_
    refine Ev.pos rfl ?_
    have := ih (i + 1) (by omega)
    rw [show 1 + ((i + 1 : Nat) : Int) = 1 + (i : Int) + 1 by omega] at this
    exact this
theorem marksI (l : List Int) (hl : l.length ≤ 1048576) : ∃ l', Ev (fun k => laws_markIntS.f k l 1) (1 + (l.length : Int), l') ∧ Ev (fun k => laws_heldIntS.f k l' 1) (1 + (l.length : Int)) := by
  obtain ⟨l', e1, e2, e3, e4⟩ := mark_ints l.length 0 l 1 (by omega) hl (by omega) (by omega)
  refine ⟨l', ?_, ?_⟩
  · unfold laws_markIntS.f
    exact e2
  · unfold laws_heldIntS.f
    have := held_ints l' (by omega) (fun x hx => by simpa using e4 x (by omega) (by omega)) l'.length 0 (by omega)
    rw [e1] at this
    simpa using this
theorem eqI_loop (p : List Int) (hl : p.length ≤ 9223372036854775807) (d : Nat) : ∀ (i : Nat) (k : Nat), i + d = p.length → d < k → laws_eqIntS.l0 k p p (i : Int) = some true := by
  induction d with
  | zero =>
    intro i k hi hk
    obtain ⟨k, rfl⟩ : ∃ m, k = m + 1 := ⟨k - 1, by omega⟩
    rw [laws_eqIntS.l0, if_neg (by omega)]
  | succ d ih =>
    intro i k hi hk
    obtain ⟨k, rfl⟩ : ∃ m, k = m + 1 := ⟨k - 1, by omega⟩
    rw [laws_eqIntS.l0, if_pos (by omega), if_pos (by omega), if_pos (by omega), if_pos rfl, po_wrap (x := (i : Int) + 1) (by omega) (by omega)]
    exact ih (i + 1) k (by omega) (by omega)
theorem eqI_all (p : List Int) (hl : p.length ≤ 9223372036854775807) : Ev (fun k => laws_eqIntS.f k p p) true := by
  refine Ev.of (fun k => laws_eqIntS.mono p p k) (k := p.length + 1) ?_
  unfold laws_eqIntS.f
  rw [if_pos rfl]
  exact eqI_loop p hl p.length 0 _ (by omega) (by omega)
theorem toI_loop (l : List Int) (hl : l.length ≤ 9223372036854775807) (d : Nat) : ∀ (i : Nat) (acc : List Int) (k : Nat), i + d = l.length → acc.length = l.length → d < k →
    laws_toIntS.l0 k l acc (i : Int) = some (acc.take i ++ l.drop i) := by
  induction d with
  | zero =>
    intro i acc k hi ha hk
    obtain ⟨k, rfl⟩ : ∃ m, k = m + 1 := ⟨k - 1, by omega⟩
    rw [laws_toIntS.l0, if_neg (by omega), List.take_of_length_le (by omega), List.drop_eq_nil_of_le (by omega)]
    simp
  | succ d ih =>
    intro i acc k hi ha hk
    obtain ⟨k, rfl⟩ : ∃ m, k = m + 1 := ⟨k - 1, by omega⟩
    rw [laws_toIntS.l0, if_pos (by omega), if_pos (by omega), if_pos (by omega), po_wrap (x := (i : Int) + 1) (by omega) (by omega), rdI l i (by omega)]
    have hi2 : i < l.length := by omega
    have h := ih (i + 1) (acc.set i l[i]) k (by omega) (by simpa using ha) (by omega)
    rw [show ((i : Int)).toNat = i by omega, show ((i : Int) + 1) = ((i + 1 : Nat) : Int) by omega, h]
    congr 1
    rw [List.drop_eq_getElem_cons hi2, List.take_add_one, List.take_set_of_le (Nat.le_refl i)]
    simp [List.getElem?_set_self (show i < acc.length by omega)]
theorem toI_all (l : List Int) (hl : l.length ≤ 1048576) : Ev (fun k => laws_toIntS.f k l) l := by
  refine Ev.of (fun k => laws_toIntS.mono l k) (k := l.length + 1) ?_
  unfold laws_toIntS.f
  rw [if_pos (by omega), if_pos (by omega)]
  have h := toI_loop l (by omega) l.length 0 (List.replicate ((l.length : Int)).toNat 0) (l.length + 1) (by omega) (by simp) (by omega)
  simpa using h
theorem FnExactRunProgram.pure : FnExactRunProgram.Pure := by
  intro l w f hl hw hf
  refine Ev.rounds (g := fun k => laws_FnExactRunProgram.f k l w f) ?_
  have hl0 := hl.1
  unfold laws_FnExactRunProgram.f laws_szInsS.f
  by_cases hw2 : (w.length : Int) > 1048576
  · exact Ev.pos hw2 (Ev.now _)
  refine Ev.neg hw2 ?_
  rw [tg_wrap (x := 1048576 - (l.length : Int)) (by omega) (by omega)]
  by_cases h : 1048576 - (l.length : Int) < 0
  · rw [if_pos h]
    simp only [Option.bind_some]
    exact Ev.pos (by omega) (Ev.now _)
  rw [if_neg h]
  simp only [Option.bind_some]
  refine Ev.neg h ?_
  have hto : Ev (fun k => laws_toInsS.f k l) (l.map convI) := Ev.of (fun k => laws_toInsS.mono l k) (to_all l (by omega) (l.length + 1) (by omega))
  have htw : Ev (fun k => laws_toIntS.f k w) w := toI_all w (by omega)
  have hcl : (l.map convI).length ≤ 1048576 := by rw [List.length_map]; omega
  have heq : Ev (fun k => laws_eqInsS.f k (l.map convI) (l.map convI)) true := Ev.of (fun k => laws_eqInsS.mono _ _ k) (eq_all _ (by omega) ((l.map convI).length + 1) (by omega))
  have hew : Ev (fun k => laws_eqIntS.f k w w) true := eqI_all w (by omega)
  obtain ⟨o, ho, s1, s2⟩ := both_run (l.map convI) hcl w f
  have heo : Ev (fun k => laws_eqIntS.f k o.1 o.1) true := eqI_all o.1 (by omega)
  obtain ⟨m1, a1e, a1, -, -⟩ := mark_all (l.map convI).length 0 (l.map convI) 1 (by omega) hcl (by omega) (by omega)
  obtain ⟨m2, a2e, a2, -, -⟩ := mark_ints w.length 0 w (1 + 3 * ((l.map convI).length : Int)) (by omega) (by omega) (by omega) (by omega)
  obtain ⟨m3, a3, b3⟩ := marksI o.1 (by omega)
  have a1' : Ev (fun k => laws_markInsS.f k (l.map convI) 1) (1 + 3 * ((l.map convI).length : Int), m1) := a1
  have a2' : Ev (fun k => laws_markIntS.f k w (1 + 3 * ((l.map convI).length : Int))) (1 + 3 * ((l.map convI).length : Int) + (w.length : Int), m2) := a2
  refine Ev.bind hto (Ev.bind htw (Ev.bind s1 (Ev.bind hto (Ev.bind htw (Ev.bind s2 (Ev.bind heo (Ev.pos rfl (Ev.pos rfl (Ev.pos rfl ?_)))))))))
  refine Ev.step (fun k => by rw [laws_FnExactRunProgram.j0]) ?_
  refine Ev.neg (by simp) ?_
  refine Ev.bind hto (Ev.bind heq (Ev.pos rfl (Ev.bind htw (Ev.bind hew (Ev.pos rfl (Ev.bind a1' (Ev.bind a2' (Ev.neg (by simp only; omega) (Ev.bind heo (Ev.pos rfl (Ev.pos rfl (Ev.pos rfl ?_))))))))))))
  refine Ev.step (fun k => by rw [laws_FnExactRunProgram.j1]) ?_
  refine Ev.neg (by simp) ?_
  refine Ev.bind a3 (Ev.bind b3 (Ev.neg (by omega) (Ev.pos rfl (Ev.bind hto (Ev.bind htw (Ev.bind s2 (Ev.bind heo (Ev.pos rfl (Ev.pos rfl (Ev.pos rfl ?_))))))))))
  refine Ev.step (fun k => by rw [laws_FnExactRunProgram.j2]) ?_
  refine Ev.neg (by simp) ?_
  exact Ev.bind b3 (Ev.neg (by omega) (Ev.pos rfl (Ev.now _)))
end Go.Proofs.Ytgdecbliegelmaa.Q
