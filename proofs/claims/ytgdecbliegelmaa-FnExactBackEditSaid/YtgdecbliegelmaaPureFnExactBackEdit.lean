/- BackEdit of the program and of the reference come to the same, plainly. -/
import Derived.Test.YtgdecbliegelmaaStatFnExactBackEdit
namespace Go.Proofs.Ytgdecbliegelmaa.Q
open Go.RowKit Go.Proofs.YtgdecbliegelmaaW.PrintWords
theorem be_wrap {x : Int} (h0 : -9223372036854775808 ≤ x) (h1 : x ≤ 9223372036854775807) : wrap64 x = x := by
  unfold wrap64
  omega
theorem be_j0 (k : Nat) (a : ByteArray) (b : Bool) (x y : Int) (s : ByteArray) : impl_Edited.j0 k a b x y s = spec_Edited.j0 k a b x y s := by
  cases k with
  | zero => rfl
  | succ k => simp only [impl_Edited.j0, spec_Edited.j0]
theorem be_edited (k : Nat) (a : ByteArray) (x y : Int) (s : ByteArray) : impl_Edited.f k a x y s = spec_Edited.f k a x y s := by
  unfold impl_Edited.f spec_Edited.f spec_l01Between.f
  simp only [be_j0]
  by_cases h1 : (a.size : Int) > 4000
  · rw [if_pos h1, if_pos h1]
  rw [if_neg h1, if_neg h1]
  by_cases h2 : x < 0
  · rw [if_pos h2, if_neg (show ¬ x ≥ 0 by omega)]; simp
  rw [if_neg h2, if_pos (show x ≥ 0 by omega)]
  by_cases h3 : x > (a.size : Int)
  · rw [if_pos h3]; simp [show ¬ x ≤ (a.size : Int) by omega]
  rw [if_neg h3]
  simp only [Option.bind_some, show decide (x ≤ (a.size : Int)) = true from decide_eq_true (by omega), if_true]
  by_cases h4 : y < 0
  · rw [if_pos h4, if_neg (show ¬ y ≥ 0 by omega)]; simp
  rw [if_neg h4, if_pos (show y ≥ 0 by omega)]
  simp only [Option.bind_some]
  congr 1
  by_cases h5 : y ≤ wrap64 ((a.size : Int) - x)
  · simp [h5]
  · simp [h5]; omega
theorem be_some (a : ByteArray) (x y : Int) (s : ByteArray) (hs : s.size ≤ 140737488351232) : ∃ t c, spec_Edited.f 1 a x y s = some (t, c) ∧ (c = 0 → 0 ≤ x ∧ 0 ≤ y ∧ x + y ≤ a.size ∧ a.size ≤ 4000) := by
  unfold spec_Edited.f spec_l01Between.f
  by_cases h1 : (a.size : Int) > 4000
  · rw [if_pos h1]
    simp only [spec_Edited.j0, if_true]
    exact ⟨_, _, rfl, by simp⟩
  rw [if_neg h1]
  by_cases h2 : x ≥ 0
  · rw [if_pos h2]
    by_cases h3 : x ≤ (a.size : Int)
    · simp only [Option.bind_some, show decide (x ≤ (a.size : Int)) = true from decide_eq_true h3, if_true]
      by_cases h4 : y ≥ 0
      · rw [if_pos h4]
        simp only [Option.bind_some]
        rw [be_wrap (x := (a.size : Int) - x) (by omega) (by omega)]
        by_cases h5 : y ≤ (a.size : Int) - x
        · simp only [show decide (y ≤ (a.size : Int) - x) = true from decide_eq_true h5, spec_Edited.j0, Bool.not_true]
          rw [if_neg (by simp), be_wrap (x := (a.size : Int) - y) (by omega) (by omega), be_wrap (x := x + y) (by omega) (by omega), be_wrap (x := (a.size : Int) - y + s.size) (by omega) (by omega)]
          by_cases h6 : (a.size : Int) - y + s.size > 4000
          · rw [if_pos h6]
            exact ⟨_, _, rfl, by simp⟩
          rw [if_neg h6, if_pos h2, if_pos h3, if_pos (by simp only [ByteArray.size_extract]; omega), if_pos (by omega), if_pos (by omega), if_pos (by simp only [ByteArray.size_extract, ByteArray.size_append]; omega)]
          exact ⟨_, _, rfl, fun _ => by omega⟩
        · simp only [show decide (y ≤ (a.size : Int) - x) = false from decide_eq_false h5, spec_Edited.j0, Bool.not_false, if_true]
          exact ⟨_, _, rfl, by simp⟩
      · rw [if_neg h4]
        simp only [Option.bind_some, spec_Edited.j0, Bool.not_false, if_true]
        exact ⟨_, _, rfl, by simp⟩
    · simp only [Option.bind_some, show decide (x ≤ (a.size : Int)) = false from decide_eq_false h3, spec_Edited.j0]
      exact ⟨_, _, rfl, by simp⟩
  · rw [if_neg h2]
    simp only [Option.bind_some, spec_Edited.j0]
    exact ⟨_, _, rfl, by simp⟩
theorem be_back (k : Nat) (a : ByteArray) (x y : Int) (s : ByteArray) : impl_BackEdit.f k a x y s = spec_BackEdit.f k a x y s := by
  unfold impl_BackEdit.f spec_BackEdit.f
  rw [be_edited]
theorem be_back_some (a : ByteArray) (x y : Int) (s : ByteArray) (hs : s.size ≤ 140737488351232) : ∃ r, spec_BackEdit.f 1 a x y s = some r := by
  obtain ⟨t, c, h, hc⟩ := be_some a x y s hs
  unfold spec_BackEdit.f
  rw [h]
  simp only [Option.bind_some]
  by_cases h0 : c = 0
  · have := hc h0
    rw [if_pos h0, be_wrap (x := x + y) (by omega) (by omega), if_pos (by omega), if_pos (by omega), if_pos (by omega)]
    exact ⟨_, rfl⟩
  · rw [if_neg h0]
    exact ⟨_, rfl⟩
theorem FnExactBackEdit.pure : FnExactBackEdit.Pure := by
  intro a e ha he
  refine ⟨1, ?_⟩
  unfold laws_FnExactBackEdit.f laws_szTextEdit.f laws_toTextEdit.f
  by_cases h0 : (a.size : Int) > 1048576
  · rw [if_pos h0]
  rw [if_neg h0]
  have h1 : ∃ t, (if wrap64 (1048576 - (e.f2.size : Int)) < 0 then some (-1) else some (wrap64 (1048576 - (e.f2.size : Int)))) = some t := by
    split
    · exact ⟨_, rfl⟩
    · exact ⟨_, rfl⟩
  obtain ⟨t, h1⟩ := h1
  rw [h1]
  simp only [Option.bind_some]
  by_cases h2 : t < 0
  · rw [if_pos h2]
  rw [if_neg h2]
  obtain ⟨r, hr⟩ := be_back_some a e.f0 e.f1 e.f2 he.2.2
  rw [be_back, hr]
  simp [laws_eqTextEdit.f]
end Go.Proofs.Ytgdecbliegelmaa.Q
