/- ProgramOK of the program and of the reference come to the same, plainly. -/
import Derived.Test.YtgdecbliegelmaaStatFnExactProgramOK
namespace Go.Proofs.Ytgdecbliegelmaa.Q
open Go.RowKit Go.Proofs.YtgdecbliegelmaaW.PrintWords
theorem po_wrap {x : Int} (h0 : -9223372036854775808 ≤ x) (h1 : x ≤ 9223372036854775807) : wrap64 x = x := by
  unfold wrap64
  omega
/-- An instruction is right. -/
def goodI (op nn tt len : Int) : Prop :=
  (1 ≤ op ∧ op ≤ 10) ∧ (if 5 ≤ op ∧ op ≤ 8 then 0 ≤ tt ∧ tt < len else tt = 0) ∧ (if op = 4 ∨ op = 5 ∨ op = 7 ∨ op = 9 then nn = 0 else if op = 10 then nn = 2 ∨ nn = 4 else 0 ≤ nn ∧ nn ≤ 1000)
instance (op nn tt len : Int) : Decidable (goodI op nn tt len) := by unfold goodI; infer_instance
theorem ops_ {op : Int} (h1 : 1 ≤ op) (h2 : op ≤ 10) : op = 1 ∨ op = 2 ∨ op = 3 ∨ op = 4 ∨ op = 5 ∨ op = 6 ∨ op = 7 ∨ op = 8 ∨ op = 9 ∨ op = 10 := by omega
theorem impl_ins (k : Nat) (op nn tt len : Int) : impl_insOK.f (k + 3) op nn tt len = some (decide (goodI op nn tt len)) := by
  by_cases h1 : op < 1
  · have : ¬ goodI op nn tt len := by unfold goodI; omega
    simp [impl_insOK.f, impl_insOK.j0, h1, this]
  by_cases h2 : op > 10
  · have : ¬ goodI op nn tt len := by unfold goodI; omega
    simp [impl_insOK.f, impl_insOK.j0, h1, h2, this]
  rcases ops_ (by omega) (show op ≤ 10 by omega) with rfl | rfl | rfl | rfl | rfl | rfl | rfl | rfl | rfl | rfl <;>
    simp [impl_insOK.f, impl_insOK.j0, impl_insOK.j1, impl_insOK.j2, impl_jumps.f, impl_ifs.f, goodI] <;> (repeat' split) <;> first | (simp_all; done) | (simp_all; omega) | (refine congrArg some ?_; rw [Bool.eq_iff_iff]; simp_all; done) | (refine congrArg some ?_; rw [Bool.eq_iff_iff]; simp_all; omega)
theorem spec_ins (k : Nat) (p : List S88) (i op nn tt : Int) (hl : p.length ≤ 9223372036854775807) (hp : 1 ≤ p.length) :
    (spec_l17HasTo.f op).bind (fun t => if t = true then spec_ProgramOK.j1 (k + 2) p i (wrap64 ((p.length : Int) - 1)) op nn tt else spec_ProgramOK.j1 (k + 2) p i 0 op nn tt) =
      if goodI op nn tt p.length then spec_ProgramOK.l0 k p (wrap64 (i + 1)) else some false := by
  rw [po_wrap (x := (p.length : Int) - 1) (by omega) (by omega)]
  by_cases h1 : op < 1
  · have : ¬ goodI op nn tt p.length := by unfold goodI; omega
    simp [spec_l17HasTo.f, spec_l01Between.f, spec_ProgramOK.j1, spec_ProgramOK.j2, this, show ¬ op ≥ 5 by omega, show ¬ op ≥ 1 by omega]
  by_cases h2 : op > 10
  · have : ¬ goodI op nn tt p.length := by unfold goodI; omega
    simp [spec_l17HasTo.f, spec_l01Between.f, spec_ProgramOK.j1, spec_ProgramOK.j2, this, show op ≥ 5 by omega, show op ≥ 1 by omega, show ¬ op ≤ 8 by omega, show ¬ op ≤ 10 by omega]
  rcases ops_ (by omega) (show op ≤ 10 by omega) with rfl | rfl | rfl | rfl | rfl | rfl | rfl | rfl | rfl | rfl <;>
    simp [spec_l17HasTo.f, spec_l17HasN.f, spec_l01Between.f, spec_ProgramOK.j1, spec_ProgramOK.j2, goodI] <;> (repeat' split) <;> first | (simp_all; done) | (simp_all; omega)
theorem last_eq (x : Int) : (spec_l17Goes.f x).bind (fun t => some (!t)) = if x = 5 then some true else if x = 9 then some true else some (x == 10) := by
  unfold spec_l17Goes.f
  by_cases h1 : x = 5
  · simp [h1]
  by_cases h2 : x = 9
  · simp [h2]
  by_cases h3 : x = 10
  · simp [h3]
  · simp [h1, h2]; rfl
theorem loops_ (p : List S88) (hl : p.length ≤ 9223372036854775807) (hp : 1 ≤ p.length) (d : Nat) : ∀ (i : Nat) (k k' : Nat), i + d = p.length → 3 * d < k → 3 * d + 3 < k' →
    ∃ b, spec_ProgramOK.l0 k p (i : Int) = some b ∧ impl_ProgramOK.l0 k' p p (p.length : Int) (i : Int) = some b := by
  induction d with
  | zero =>
    intro i k k' hi hk hk'
    obtain ⟨k, rfl⟩ : ∃ m, k = m + 1 := ⟨k - 1, by omega⟩
    obtain ⟨k', rfl⟩ : ∃ m, k' = m + 1 := ⟨k' - 1, by omega⟩
    have hw : wrap64 ((p.length : Int) - 1) = (p.length : Int) - 1 := po_wrap (by omega) (by omega)
    have c1 : ¬ ((i : Int) < (p.length : Int)) := by omega
    have c2 : 0 ≤ (p.length : Int) - 1 := by omega
    have c3 : (p.length : Int) - 1 < (p.length : Int) := by omega
    simp only [spec_ProgramOK.l0, impl_ProgramOK.l0, c1, if_false, hw, c2, c3, if_true, last_eq]
    split
    · exact ⟨_, rfl, rfl⟩
    split
    · exact ⟨_, rfl, rfl⟩
    · exact ⟨_, rfl, rfl⟩
  | succ d ih =>
    intro i k k' hi hk hk'
    obtain ⟨k, rfl⟩ : ∃ m, k = m + 1 := ⟨k - 1, by omega⟩
    obtain ⟨k, rfl⟩ : ∃ m, k = m + 2 := ⟨k - 2, by omega⟩
    obtain ⟨k', rfl⟩ : ∃ m, k' = m + 1 := ⟨k' - 1, by omega⟩
    obtain ⟨k', rfl⟩ : ∃ m, k' = m + 3 := ⟨k' - 3, by omega⟩
    rw [spec_ProgramOK.l0, impl_ProgramOK.l0]
    have c1 : (i : Int) < (p.length : Int) := by omega
    have c2 : 0 ≤ (i : Int) := by omega
    simp only [c1, c2, if_true, impl_ins, spec_ins _ _ _ _ _ _ hl hp, Option.bind_some]
    by_cases h : goodI (rd_T88 p i).f0 (rd_T88 p i).f1 (rd_T88 p i).f2 p.length
    · simp only [h, decide_true, if_true]
      rw [po_wrap (x := (i : Int) + 1) (by omega) (by omega)]
      obtain ⟨b, h1, h2⟩ := ih (i + 1) k (k' + 3) (by omega) (by omega) (by omega)
      refine ⟨b, ?_, ?_⟩
      · simpa using h1
      · simpa using h2
    · simp only [h, decide_false, if_false]
      exact ⟨false, rfl, by simp⟩
theorem both_ok (p : List S88) (hl : p.length ≤ 1048576) (k : Nat) (hk : 3 * p.length + 5 < k) : ∃ b, spec_ProgramOK.f k p = some b ∧ impl_ProgramOK.f k p = some b := by
  obtain ⟨k, rfl⟩ : ∃ m, k = m + 1 := ⟨k - 1, by omega⟩
  unfold spec_ProgramOK.f impl_ProgramOK.f spec_l01Between.f
  by_cases h1 : (p.length : Int) < 1
  · rw [if_neg (by omega), if_pos h1]
    simp [impl_ProgramOK.j0]
  rw [if_pos (by omega), if_neg h1]
  by_cases h2 : (p.length : Int) ≤ 50000
  · simp only [Option.bind_some, decide_eq_true h2, if_true, show decide ((p.length : Int) > 50000) = false from decide_eq_false (by omega), impl_ProgramOK.j0]
    obtain ⟨b, h3, h4⟩ := loops_ p (by omega) (by omega) p.length 0 (k + 1) k (by omega) (by omega) (by omega)
    exact ⟨b, by simpa using h3, by simpa using h4⟩
  · simp [show decide ((p.length : Int) > 50000) = true from decide_eq_true (by omega), impl_ProgramOK.j0, h2]
def convI (x : S91) : S88 := ⟨x.f0, x.f1, x.f2⟩
theorem to_loop (l : List S91) (hl : l.length ≤ 9223372036854775807) (d : Nat) : ∀ (i : Nat) (acc : List S88) (k : Nat), i + d = l.length → acc.length = l.length → d < k →
    laws_toInsS.l0 k l acc (i : Int) = some (acc.take i ++ (l.drop i).map convI) := by
  induction d with
  | zero =>
    intro i acc k hi ha hk
    obtain ⟨k, rfl⟩ : ∃ m, k = m + 1 := ⟨k - 1, by omega⟩
    rw [laws_toInsS.l0, if_neg (by omega)]
    rw [List.take_of_length_le (by omega), List.drop_eq_nil_of_le (by omega)]
    simp
  | succ d ih =>
    intro i acc k hi ha hk
    obtain ⟨k, rfl⟩ : ∃ m, k = m + 1 := ⟨k - 1, by omega⟩
    rw [laws_toInsS.l0, if_pos (by omega), if_pos (by omega)]
    simp only [laws_toIns.f, Option.bind_some]
    rw [if_pos (by omega), po_wrap (x := (i : Int) + 1) (by omega) (by omega)]
    have h := ih (i + 1) (acc.set i (convI (rd_T91 l i))) k (by omega) (by simpa using ha) (by omega)
    have e : (acc.set (i : Int).toNat (⟨(rd_T91 l i).f0, (rd_T91 l i).f1, (rd_T91 l i).f2⟩ : S88)) = acc.set i (convI (rd_T91 l i)) := by simp [convI]
    rw [e]
    rw [show ((i : Int) + 1) = ((i + 1 : Nat) : Int) by omega, h]
    congr 1
    have hi2 : i < l.length := by omega
    rw [List.drop_eq_getElem_cons hi2, List.map_cons, List.take_add_one, List.take_set_of_le (Nat.le_refl i)]
    have : rd_T91 l i = l[i] := by simp [rd_T91, List.getD_eq_getElem?_getD, List.getElem?_eq_getElem hi2]
    simp [this, List.getElem?_set_self (show i < acc.length by omega)]
theorem to_all (l : List S91) (hl : l.length ≤ 1048576) (k : Nat) (hk : l.length < k) : laws_toInsS.f k l = some (l.map convI) := by
  unfold laws_toInsS.f
  rw [if_pos (by omega), if_pos (by omega)]
  have h := to_loop l (by omega) l.length 0 (List.replicate ((l.length : Int)).toNat z88) k (by omega) (by simp) hk
  simpa using h
theorem eq_loop (p : List S88) (hl : p.length ≤ 9223372036854775807) (d : Nat) : ∀ (i : Nat) (k : Nat), i + d = p.length → d < k → laws_eqInsS.l0 k p p (i : Int) = some true := by
  induction d with
  | zero =>
    intro i k hi hk
    obtain ⟨k, rfl⟩ : ∃ m, k = m + 1 := ⟨k - 1, by omega⟩
    rw [laws_eqInsS.l0, if_neg (by omega)]
  | succ d ih =>
    intro i k hi hk
    obtain ⟨k, rfl⟩ : ∃ m, k = m + 1 := ⟨k - 1, by omega⟩
    rw [laws_eqInsS.l0, if_pos (by omega), if_pos (by omega), if_pos (by omega)]
    simp only [laws_eqIns.f, if_true, Option.bind_some]
    rw [po_wrap (x := (i : Int) + 1) (by omega) (by omega)]
    exact ih (i + 1) k (by omega) (by omega)
theorem eq_all (p : List S88) (hl : p.length ≤ 9223372036854775807) (k : Nat) (hk : p.length < k) : laws_eqInsS.f k p p = some true := by
  unfold laws_eqInsS.f
  rw [if_pos rfl]
  exact eq_loop p hl p.length 0 k (by omega) hk
theorem FnExactProgramOK.pure : FnExactProgramOK.Pure := by
  intro l hl
  refine ⟨3 * l.length + 9, ?_⟩
  have hl0 := hl.1
  unfold laws_FnExactProgramOK.f laws_szInsS.f
  rw [po_wrap (x := 1048576 - (l.length : Int)) (by omega) (by omega)]
  by_cases h : 1048576 - (l.length : Int) < 0
  · rw [if_pos h]
    simp
  rw [if_neg h]
  simp only [Option.bind_some]
  rw [if_neg h, to_all l (by omega) _ (by omega)]
  simp only [Option.bind_some]
  obtain ⟨b, h1, h2⟩ := both_ok (l.map convI) (by simp; omega) (3 * l.length + 9) (by simp)
  rw [h1, h2]
  simp only [Option.bind_some, bne_self_eq_false, Bool.false_eq_true, if_false]
  rw [eq_all _ (by simp; omega) _ (by simp; omega)]
  simp
end Go.Proofs.Ytgdecbliegelmaa.Q
