/- MoveEdit of the program and of the reference come to the same, plainly. -/
import Derived.Test.YtgdecbliegelmaaStatFnExactMoveEdit
namespace Go.Proofs.Ytgdecbliegelmaa.Q
set_option linter.unusedVariables false
open Go.RowKit Go.Proofs.YtgdecbliegelmaaW.PrintWords
def meB (a b : Int) (s : ByteArray) : Prop := 0 ≤ a ∧ a ≤ 4000 ∧ 0 ≤ b ∧ b ≤ 4000 ∧ (s.size : Int) ≤ 4000
instance (a b : Int) (s : ByteArray) : Decidable (meB a b s) := by unfold meB; infer_instance
theorem me_wrap {x : Int} (h0 : -9223372036854775808 ≤ x) (h1 : x ≤ 9223372036854775807) : wrap64 x = x := by
  unfold wrap64
  omega
theorem me_fits (a b : Int) (s : ByteArray) : spec_l18Fits.f a b s = some (decide (meB a b s)) := by
  unfold spec_l18Fits.f spec_l01Between.f meB
  by_cases h1 : a ≥ 0
  · by_cases h2 : a ≤ 4000
    · by_cases h3 : b ≥ 0
      · by_cases h4 : b ≤ 4000
        · simp [h1, h2, h3, h4]
        · simp [h1, h2, h3, h4]
      · simp [h1, h2, h3]
    · simp [h1, h2]
  · simp [h1]
theorem me_ok (a b : Int) (s : ByteArray) : impl_editOK.f a b s = some (decide (meB a b s)) := by
  unfold impl_editOK.f meB
  by_cases h1 : a ≥ 0
  · by_cases h2 : a ≤ 4000
    · by_cases h3 : b ≥ 0
      · by_cases h4 : b ≤ 4000
        · simp [h1, h2, h3, h4]
        · simp [h1, h2, h3, h4]
      · simp [h1, h2, h3]
    · simp [h1, h2]
  · simp [h1]
theorem me_mx (x y : Int) : mx x y = if x < y then y else x := rfl
theorem me_j (k k2 : Nat) (b d l f e n m p q : Int) (s u : ByteArray) (hb : 0 ≤ b ∧ b ≤ 4000) (hf : -4000 ≤ f ∧ f ≤ 12000) (he : 0 ≤ e ∧ e ≤ 8000) (hl : 0 ≤ l ∧ l ≤ 4000) (hq : 0 ≤ q ∧ q ≤ 4000) :
    (spec_l18Move.j0 (k + 1) b d (l - q) f e n m s).bind (fun bt106 => some (bt106.1, bt106.2.1, bt106.2.2, (0 : Int))) = impl_MoveEdit.j1 (k2 + 1) b d l f e n m s p q u := by
  rw [spec_l18Move.j0, impl_MoveEdit.j1]
  rw [me_wrap (x := l - q) (by omega) (by omega), me_wrap (x := e + (l - q)) (by omega) (by omega)]
  simp only [me_mx]
  by_cases h1 : e ≤ b
  · rw [if_pos h1, if_pos h1]
    by_cases h2 : e < f
    · rw [if_pos h2, if_pos h2, Int.sub_self, me_wrap (x := 0) (by omega) (by omega)]; rfl
    · rw [if_neg h2, if_neg h2]; rfl
  · rw [if_neg h1, if_neg h1]
    by_cases h3 : e < d
    · rw [if_pos h3, if_pos h3]
      by_cases h2 : b < f
      · rw [if_pos h2, if_pos h2, Int.sub_self, me_wrap (x := 0) (by omega) (by omega)]; rfl
      · rw [if_neg h2, if_neg h2]; rfl
    · rw [if_neg h3, if_neg h3]
      by_cases h2 : e + (l - q) < f
      · rw [if_pos h2, if_pos h2, Int.sub_self, me_wrap (x := 0) (by omega) (by omega)]; rfl
      · rw [if_neg h2, if_neg h2]; rfl
theorem me_j_some (k : Nat) (b d l f e n m p q : Int) (s u : ByteArray) : ∃ r, impl_MoveEdit.j1 (k + 1) b d l f e n m s p q u = some r := by
  rw [impl_MoveEdit.j1]
  repeat' split
  all_goals exact ⟨_, rfl⟩
theorem me_both (a b : Int) (s : ByteArray) (c d : Int) (u : ByteArray) : spec_MoveEdit.f 2 a b s c d u = impl_MoveEdit.f 2 a b s c d u ∧ ∃ r, impl_MoveEdit.f 2 a b s c d u = some r := by
  unfold spec_MoveEdit.f impl_MoveEdit.f
  rw [me_fits, me_fits, me_ok, me_ok]
  simp only [Option.bind_some]
  by_cases h1 : meB a b s
  · rw [decide_eq_true h1, if_pos rfl, if_pos rfl]
    by_cases h2 : meB c d u
    · rw [decide_eq_true h2, if_pos rfl]
      obtain ⟨a0, a1, b0, b1, s1⟩ := h1
      obtain ⟨c0, c1, d0, d1, u1⟩ := h2
      unfold spec_l18Move.f
      rw [impl_MoveEdit.j0, if_neg (show ¬ ((!true) = true) by decide)]
      rw [me_wrap (x := c + d) (by omega) (by omega), me_wrap (x := (u.size : Int) - d) (by omega) (by omega), me_wrap (x := a + ((u.size : Int) - d)) (by omega) (by omega), me_wrap (x := a + b) (by omega) (by omega), me_wrap (x := c + (u.size : Int)) (by omega) (by omega)]
      by_cases h3 : a < c
      · rw [if_pos h3, if_neg (show ¬ a > c + d by omega), if_neg (show ¬ a ≥ c by omega)]
        refine ⟨me_j 1 0 _ _ _ _ _ _ _ _ _ _ _ (by omega) (by omega) (by omega) (by omega) (by omega), me_j_some 0 _ _ _ _ _ _ _ _ _ _ _⟩
      · rw [if_neg h3]
        by_cases h4 : a ≤ c + d
        · rw [if_pos h4, if_neg (show ¬ a > c + d by omega), if_pos (show a ≥ c by omega)]
          refine ⟨me_j 1 0 _ _ _ _ _ _ _ _ _ _ _ (by omega) (by omega) (by omega) (by omega) (by omega), me_j_some 0 _ _ _ _ _ _ _ _ _ _ _⟩
        · rw [if_neg h4, if_pos (show a > c + d by omega)]
          refine ⟨me_j 1 0 _ _ _ _ _ _ _ _ _ _ _ (by omega) (by omega) (by omega) (by omega) (by omega), me_j_some 0 _ _ _ _ _ _ _ _ _ _ _⟩
    · rw [decide_eq_false h2, if_neg (by simp), impl_MoveEdit.j0, if_pos (show (!false) = true from rfl)]
      exact ⟨rfl, _, rfl⟩
  · rw [decide_eq_false h1, if_neg (by simp), if_neg (by simp), impl_MoveEdit.j0, if_pos rfl]
    exact ⟨rfl, _, rfl⟩
theorem FnExactMoveEdit.pure : FnExactMoveEdit.Pure := by
  intro x y hx hy
  refine ⟨2, ?_⟩
  unfold laws_FnExactMoveEdit.f laws_szTextEdit.f laws_toTextEdit.f
  have h1 := hx.2.2
  have h2 := hy.2.2
  simp only at h1 h2
  rw [me_wrap (x := 1048576 - (x.f2.size : Int)) (by omega) (by omega)]
  by_cases c1 : 1048576 - (x.f2.size : Int) < 0
  · rw [if_pos c1]; simp
  rw [if_neg c1]
  simp only [Option.bind_some]
  rw [if_neg c1, me_wrap (x := 1048576 - (x.f2.size : Int) - y.f2.size) (by omega) (by omega)]
  by_cases c2 : 1048576 - (x.f2.size : Int) - y.f2.size < 0
  · rw [if_pos c2]; simp
  rw [if_neg c2]
  simp only [Option.bind_some]
  rw [if_neg c2]
  obtain ⟨e, r, hr⟩ := me_both x.f0 x.f1 x.f2 y.f0 y.f1 y.f2
  rw [e, hr]
  simp [laws_eqTextEdit.f]
end Go.Proofs.Ytgdecbliegelmaa.Q
