/- Two edits of one text, plainly: moved edits fit; edits that do not touch give one text in either order. -/
import Derived.Test.YtgdecbliegelmaaStatFnEditsMeet
namespace Go.Proofs.Ytgdecbliegelmaa.Q
open Go.RowKit Go.Proofs.YtgdecbliegelmaaW.PrintWords Go.Proofs.YtgdecbliegelmaaX
set_option linter.unusedVariables false
theorem em_wrap {x : Int} (h0 : -9223372036854775808 ≤ x) (h1 : x ≤ 9223372036854775807) : wrap64 x = x := by
  unfold wrap64
  omega
theorem Ev.pos {α : Type} {c : Prop} [Decidable c] {f g : Nat → Option α} {r : α} (hc : c) (h : Ev f r) : Ev (fun n => if c then f n else g n) r := by
  simpa only [if_pos hc] using h
theorem Ev.neg {α : Type} {c : Prop} [Decidable c] {f g : Nat → Option α} {r : α} (hc : ¬ c) (h : Ev g r) : Ev (fun n => if c then f n else g n) r := by
  simpa only [if_neg hc] using h
/-! The draw -/
def emI (l : List Int) (p q : Int) : Prop := 0 ≤ p ∧ p ≤ l.length ∧ 0 ≤ q ∧ q < 2147483648
theorem em_rd (l : List Int) (p : Int) (hl : ∀ a ∈ l, 0 ≤ a ∧ a ≤ 255) : 0 ≤ rd l p ∧ rd l p ≤ 255 := by
  unfold rd
  rw [List.getD_eq_getElem?_getD]
  cases h : l[p.toNat]? with
  | none => simp
  | some v =>
    simp only [Option.getD_some]
    exact hl v (List.mem_of_getElem? h)
theorem em_byte (l : List Int) (p q : Int) (hn : l.length ≤ 1048576) (hl : ∀ a ∈ l, 0 ≤ a ∧ a ≤ 255) (hi : emI l p q) :
    ∃ v p' q', spec_l01Cur_byte.f l p q = some (v, p', q') ∧ 0 ≤ v ∧ v ≤ 255 ∧ emI l p' q' := by
  obtain ⟨h0, h1, h2, h3⟩ := hi
  unfold spec_l01Cur_byte.f
  rw [em_wrap (x := p + 1) (by omega) (by omega), em_wrap (x := p + 1 - 1) (by omega) (by omega), show p + 1 - 1 = p by omega]
  have hr := em_rd l p hl
  rw [em_wrap (x := rd l p) (by omega) (by omega)]
  by_cases c1 : p < (l.length : Int)
  · rw [if_pos c1, if_pos h0, if_pos c1]
    exact ⟨_, _, _, rfl, hr.1, hr.2, by omega, by omega, h2, h3⟩
  rw [if_neg c1]
  rw [em_wrap (x := q * 1103515245) (by omega) (by omega), em_wrap (x := q * 1103515245 + 12345) (by omega) (by omega), Int.tmod_eq_emod_of_nonneg (a := q * 1103515245 + 12345) (by omega)]
  by_cases c2 : (l.length : Int) = 0
  · rw [if_pos c2]
    exact ⟨_, _, _, rfl, by omega, by omega, h0, h1, by omega, by omega⟩
  · rw [if_neg c2]
    rw [Int.tdiv_eq_ediv_of_nonneg (a := (q * 1103515245 + 12345) % 2147483648) (by omega), em_wrap (x := (q * 1103515245 + 12345) % 2147483648 / 65536) (by omega) (by omega), Int.tmod_eq_emod_of_nonneg (a := (q * 1103515245 + 12345) % 2147483648 / 65536) (by omega)]
    exact ⟨_, _, _, rfl, by omega, by omega, h0, h1, by omega, by omega⟩
theorem em_pick (l : List Int) (p q n : Int) (hn : l.length ≤ 1048576) (hl : ∀ a ∈ l, 0 ≤ a ∧ a ≤ 255) (hi : emI l p q) (h2 : 2 ≤ n) (h256 : n ≤ 256) :
    ∃ v p' q', spec_l01Cur_pick.f l p q n = some (v, p', q') ∧ 0 ≤ v ∧ v < n ∧ emI l p' q' := by
  obtain ⟨v, p', q', e, v0, v1, i⟩ := em_byte l p q hn hl hi
  unfold spec_l01Cur_pick.f
  rw [if_neg (by omega), if_pos h256, e, Option.bind_some, if_neg (by omega)]
  refine ⟨_, _, _, rfl, ?_, ?_, i⟩
  · exact Int.tmod_nonneg _ v0
  · exact Int.tmod_lt_of_pos _ (by omega)
def emS (e : S25) : Prop := e.f2.size ≤ 4001
theorem em_tail (l : List Int) (p q : Int) (hn : l.length ≤ 1048576) (hl : ∀ a ∈ l, 0 ≤ a ∧ a ≤ 255) (hi : emI l p q) (e0 e1 : S25) (h0 : emS e0) (h1 : emS e1) :
    ∃ z0 z1 : S25, Ev (fun k => spec_DrawMoveEdit.l0 k [e0, e1] 2 l p q) (z0.f0, z0.f1, z0.f2, z1.f0, z1.f1, z1.f2) ∧ emS z0 ∧ emS z1 := by
  have len : (([e0, e1] : List S25).length : Int) = 2 := rfl
  have r0 : ∀ a b : S25, rd_T25 [a, b] 0 = a := fun _ _ => rfl
  have r1 : ∀ a b : S25, rd_T25 [a, b] 1 = b := fun _ _ => rfl
  obtain ⟨v, p1, q1, e, v0, v1, i⟩ := em_pick l p q 10 hn hl hi (by omega) (by omega)
  by_cases c1 : v = 0
  · obtain ⟨w, p2, q2, f, w0, w1, i2⟩ := em_pick l p1 q1 2 hn hl i (by omega) (by omega)
    obtain ⟨u, p3, q3, g, u0, u1, i3⟩ := em_pick l p2 q2 3 hn hl i2 (by omega) (by omega)
    obtain ⟨y, p4, q4, m, y0, y1, i4⟩ := em_pick l p3 q3 3 hn hl i3 (by omega) (by omega)
    obtain ⟨y', p4', q4', m', y0', y1', i4'⟩ := em_pick l p3 q3 2 hn hl i3 (by omega) (by omega)
    have hw : w = 0 ∨ w = 1 := by omega
    have hy' : wrap64 (4000 + y') = 4000 + y' := em_wrap (by omega) (by omega)
    have hz : (strOfNums (List.replicate (4000 + y' : Int).toNat 0)).size ≤ 4001 := by
      rw [strOfNums_size, List.length_replicate]; omega
    rcases hw with rfl | rfl
    · by_cases c2 : u = 0
      · refine ⟨⟨rd [(-1), 4000, 4001] y, e0.f1, e0.f2⟩, e1, ?_, h0, h1⟩
        refine Ev.step (fun k => by rw [spec_DrawMoveEdit.l0]) ?_
        refine Ev.neg (by omega) ?_
        simp only [e, f, g, m, Option.bind_some, c1, c2, if_true, len, r0, r1, List.set, Int.toNat_zero]
        rw [if_pos (by omega), if_pos (by omega), if_pos y0, if_pos (by simpa using y1), if_pos (by omega), if_pos (by omega)]
        exact Ev.now _
      by_cases c3 : u = 1
      · refine ⟨⟨e0.f0, rd [(-1), 4000, 4001] y, e0.f2⟩, e1, ?_, h0, h1⟩
        refine Ev.step (fun k => by rw [spec_DrawMoveEdit.l0]) ?_
        refine Ev.neg (by omega) ?_
        simp only [e, f, g, m, Option.bind_some, c1, c3, if_true, len, r0, r1, List.set, Int.toNat_zero]
        rw [if_pos (by omega), if_pos (by omega), if_neg (by omega), if_pos y0, if_pos (by simpa using y1), if_pos (by omega), if_pos (by omega)]
        exact Ev.now _
      · have c4 : u = 2 := by omega
        refine ⟨⟨e0.f0, e0.f1, strOfNums (List.replicate (4000 + y' : Int).toNat 0)⟩, e1, ?_, hz, h1⟩
        refine Ev.step (fun k => by rw [spec_DrawMoveEdit.l0]) ?_
        refine Ev.neg (by omega) ?_
        simp only [e, f, g, m', hy', Option.bind_some, c1, c4, if_true, len, r0, r1, List.set, Int.toNat_zero]
        rw [if_pos (by omega), if_pos (by omega), if_neg (by omega), if_neg (by omega), if_pos (by omega), if_pos (by omega), if_pos (by omega), if_pos (by omega)]
        exact Ev.now _
    · by_cases c2 : u = 0
      · refine ⟨e0, ⟨rd [(-1), 4000, 4001] y, e1.f1, e1.f2⟩, ?_, h0, h1⟩
        refine Ev.step (fun k => by rw [spec_DrawMoveEdit.l0]) ?_
        refine Ev.neg (by omega) ?_
        simp only [e, f, g, m, Option.bind_some, c1, c2, if_true, len, r0, r1, List.set, Int.toNat_one]
        rw [if_pos (by omega), if_pos (by omega), if_pos y0, if_pos (by simpa using y1), if_pos (by omega), if_pos (by omega)]
        exact Ev.now _
      by_cases c3 : u = 1
      · refine ⟨e0, ⟨e1.f0, rd [(-1), 4000, 4001] y, e1.f2⟩, ?_, h0, h1⟩
        refine Ev.step (fun k => by rw [spec_DrawMoveEdit.l0]) ?_
        refine Ev.neg (by omega) ?_
        simp only [e, f, g, m, Option.bind_some, c1, c3, if_true, len, r0, r1, List.set, Int.toNat_one]
        rw [if_pos (by omega), if_pos (by omega), if_neg (by omega), if_pos y0, if_pos (by simpa using y1), if_pos (by omega), if_pos (by omega)]
        exact Ev.now _
      · have c4 : u = 2 := by omega
        refine ⟨e0, ⟨e1.f0, e1.f1, strOfNums (List.replicate (4000 + y' : Int).toNat 0)⟩, ?_, h0, hz⟩
        refine Ev.step (fun k => by rw [spec_DrawMoveEdit.l0]) ?_
        refine Ev.neg (by omega) ?_
        simp only [e, f, g, m', hy', Option.bind_some, c1, c4, if_true, len, r0, r1, List.set, Int.toNat_one]
        rw [if_pos (by omega), if_pos (by omega), if_neg (by omega), if_neg (by omega), if_pos (by omega), if_pos (by omega), if_pos (by omega), if_pos (by omega)]
        exact Ev.now _
  · refine ⟨e0, e1, ?_, h0, h1⟩
    refine Ev.step (fun k => by rw [spec_DrawMoveEdit.l0]) ?_
    refine Ev.neg (by omega) ?_
    simp only [e, Option.bind_some, len, r0, r1]
    rw [if_neg c1, if_pos (by omega), if_pos (by omega)]
    exact Ev.now _
theorem em_round (l : List Int) (p q : Int) (hn : l.length ≤ 1048576) (hl : ∀ a ∈ l, 0 ≤ a ∧ a ≤ 255) (hi : emI l p q) (x5 : List S25) (hx : x5.length < 2) (r : Int × Int × ByteArray × Int × Int × ByteArray)
    (h : ∀ (e : S25) p' q', emS e → emI l p' q' → ∃ r, Ev (fun k => spec_DrawMoveEdit.l0 k (x5 ++ [e]) ((x5.length : Int) + 1) l p' q') r) : ∃ e p' q', emS e ∧ emI l p' q' ∧ ∀ r, Ev (fun k => spec_DrawMoveEdit.l0 k (x5 ++ [e]) ((x5.length : Int) + 1) l p' q') r → Ev (fun k => spec_DrawMoveEdit.l0 k x5 (x5.length : Int) l p q) r := by
  obtain ⟨v, p1, q1, e, v0, v1, i⟩ := em_pick l p q 8 hn hl hi (by omega) (by omega)
  obtain ⟨w, p2, q2, f, w0, w1, i2⟩ := em_pick l p1 q1 5 hn hl i (by omega) (by omega)
  obtain ⟨u, p3, q3, g, u0, u1, i3⟩ := em_pick l p2 q2 4 hn hl i2 (by omega) (by omega)
  refine ⟨⟨v, w, rdOf ByteArray.empty [(⟨#[]⟩ : ByteArray), (⟨#[97]⟩ : ByteArray), (⟨#[98, 99]⟩ : ByteArray), (⟨#[100, 101, 102]⟩ : ByteArray)] u⟩, p3, q3, ?_, i3, fun r hr => ?_⟩
  · unfold emS
    have : u = 0 ∨ u = 1 ∨ u = 2 ∨ u = 3 := by omega
    rcases this with rfl | rfl | rfl | rfl <;> (simp only; decide)
  · refine Ev.step (fun k => by rw [spec_DrawMoveEdit.l0]) ?_
    refine Ev.pos (by omega) ?_
    simp only [e, f, g, Option.bind_some]
    refine Ev.pos u0 ?_
    refine Ev.pos (by simpa using u1) ?_
    refine Ev.pos (by omega) ?_
    rw [em_wrap (x := (x5.length : Int) + 1) (by omega) (by omega)]
    exact hr
theorem em_draw (l : List Int) (hn : l.length ≤ 1048576) (hl : ∀ a ∈ l, 0 ≤ a ∧ a ≤ 255) :
    ∃ z0 z1 : S25, Ev (fun k => spec_DrawMoveEdit.f k l) (z0.f0, z0.f1, z0.f2, z1.f0, z1.f1, z1.f2) ∧ emS z0 ∧ emS z1 := by
  have hi : emI l 0 (wrap64 (17 + (l.length : Int))) := by
    rw [em_wrap (by omega) (by omega)]
    exact ⟨by omega, by omega, by omega, by omega⟩
  obtain ⟨a, p1, q1, ha, i1, k1⟩ := em_round l _ _ hn hl hi [] (by simp) (0, 0, ByteArray.empty, 0, 0, ByteArray.empty) (fun e p q he hi => by
    obtain ⟨a, p1, q1, ha, i1, k1⟩ := em_round l _ _ hn hl hi [e] (by simp) (0, 0, ByteArray.empty, 0, 0, ByteArray.empty) (fun e2 p q he2 hi => by
      obtain ⟨z0, z1, h, _, _⟩ := em_tail l p q hn hl hi e e2 he he2
      exact ⟨_, h⟩)
    obtain ⟨z0, z1, h, _, _⟩ := em_tail l p1 q1 hn hl i1 e a he ha
    exact ⟨_, k1 _ h⟩)
  obtain ⟨b, p2, q2, hb, i2, k2⟩ := em_round l _ _ hn hl i1 [a] (by simp) (0, 0, ByteArray.empty, 0, 0, ByteArray.empty) (fun e2 p q he2 hi => by
      obtain ⟨z0, z1, h, _, _⟩ := em_tail l p q hn hl hi a e2 ha he2
      exact ⟨_, h⟩)
  obtain ⟨z0, z1, h, s0, s1⟩ := em_tail l p2 q2 hn hl i2 a b ha hb
  refine ⟨z0, z1, ?_, s0, s1⟩
  unfold spec_DrawMoveEdit.f spec_l01DrawCur.f
  simp only [Option.bind_some]
  exact k1 _ (k2 _ h)
/-! Edits -/
def emFit (t : ByteArray) (x y : Int) : Prop := (t.size : Int) ≤ 4000 ∧ 0 ≤ x ∧ x ≤ t.size ∧ 0 ≤ y ∧ y ≤ (t.size : Int) - x
instance (t : ByteArray) (x y : Int) : Decidable (emFit t x y) := by unfold emFit; infer_instance
def emEd (t : ByteArray) (x y : Int) (s : ByteArray) : ByteArray × Int :=
  if emFit t x y then (if (t.size : Int) - y + s.size > 4000 then (⟨#[]⟩, 3) else ((t.extract 0 x.toNat ++ s) ++ t.extract (x + y).toNat t.size, 0)) else (⟨#[]⟩, 1)
theorem em_ij (k : Nat) (t : ByteArray) (x y : Int) (s : ByteArray) (hs : s.size ≤ 1000000) (h : emFit t x y) : impl_Edited.j0 (k + 1) t false x y s = some (emEd t x y s) := by
  have h' := h
  obtain ⟨h0, h1, h2, h3, h4⟩ := h
  rw [impl_Edited.j0, if_neg (by simp), emEd, if_pos h']
  rw [em_wrap (x := (t.size : Int) - y) (by omega) (by omega), em_wrap (x := x + y) (by omega) (by omega), em_wrap (x := (t.size : Int) - y + s.size) (by omega) (by omega)]
  by_cases c : (t.size : Int) - y + s.size > 4000
  · rw [if_pos c, if_pos c]
  · rw [if_neg c, if_neg c, if_pos h1, if_pos h2, if_pos (by simp only [ByteArray.size_extract]; omega), if_pos (by omega), if_pos (by omega), if_pos (by simp only [ByteArray.size_extract, ByteArray.size_append]; omega)]
theorem em_sj (k : Nat) (t : ByteArray) (x y : Int) (s : ByteArray) (hs : s.size ≤ 1000000) (h : emFit t x y) : spec_Edited.j0 (k + 1) t false x y s = some (emEd t x y s) := by
  have h' := h
  obtain ⟨h0, h1, h2, h3, h4⟩ := h
  rw [spec_Edited.j0, if_neg (by simp), emEd, if_pos h']
  rw [em_wrap (x := (t.size : Int) - y) (by omega) (by omega), em_wrap (x := x + y) (by omega) (by omega), em_wrap (x := (t.size : Int) - y + s.size) (by omega) (by omega)]
  by_cases c : (t.size : Int) - y + s.size > 4000
  · rw [if_pos c, if_pos c]
  · rw [if_neg c, if_neg c, if_pos h1, if_pos h2, if_pos (by simp only [ByteArray.size_extract]; omega), if_pos (by omega), if_pos (by omega), if_pos (by simp only [ByteArray.size_extract, ByteArray.size_append]; omega)]
theorem em_bad (t : ByteArray) (x y : Int) (s : ByteArray) (h : ¬ emFit t x y) : emEd t x y s = (⟨#[]⟩, 1) := by rw [emEd, if_neg h]
theorem em_i (t : ByteArray) (x y : Int) (s : ByteArray) (hs : s.size ≤ 1000000) : Ev (fun k => impl_Edited.f k t x y s) (emEd t x y s) := by
  refine Ev.step (f := fun _ => some (emEd t x y s)) (fun k => ?_) (Ev.now _)
  unfold impl_Edited.f
  by_cases h : emFit t x y
  · have h' := h
    obtain ⟨h0, h1, h2, h3, h4⟩ := h
    rw [if_neg (by omega), if_neg (by omega), if_neg (by omega), if_neg (by omega), em_wrap (x := (t.size : Int) - x) (by omega) (by omega), decide_eq_false (by omega)]
    exact em_ij k t x y s hs h'
  · rw [em_bad t x y s h]
    have j : impl_Edited.j0 (k + 1) t true x y s = some (⟨#[]⟩, 1) := by rw [impl_Edited.j0, if_pos rfl]
    unfold emFit at h
    by_cases c0 : (t.size : Int) > 4000
    · rw [if_pos c0, j]
    rw [if_neg c0]
    by_cases c1 : x < 0
    · rw [if_pos c1, j]
    rw [if_neg c1]
    by_cases c2 : x > (t.size : Int)
    · rw [if_pos c2, j]
    rw [if_neg c2]
    by_cases c3 : y < 0
    · rw [if_pos c3, j]
    rw [if_neg c3, em_wrap (x := (t.size : Int) - x) (by omega) (by omega), decide_eq_true (by omega), j]
theorem em_s (t : ByteArray) (x y : Int) (s : ByteArray) (hs : s.size ≤ 1000000) : Ev (fun k => spec_Edited.f k t x y s) (emEd t x y s) := by
  refine Ev.step (f := fun _ => some (emEd t x y s)) (fun k => ?_) (Ev.now _)
  unfold spec_Edited.f spec_l01Between.f
  by_cases h : emFit t x y
  · have h' := h
    obtain ⟨h0, h1, h2, h3, h4⟩ := h
    rw [if_neg (by omega), if_pos (by omega), em_wrap (x := (t.size : Int) - x) (by omega) (by omega), if_pos (by omega), decide_eq_true (by omega), decide_eq_true (by omega)]
    simp only [Option.bind_some, if_true, Bool.not_true]
    exact em_sj k t x y s hs h'
  · rw [em_bad t x y s h]
    have j : spec_Edited.j0 (k + 1) t true x y s = some (⟨#[]⟩, 1) := by rw [spec_Edited.j0, if_pos rfl]
    unfold emFit at h
    by_cases c0 : (t.size : Int) > 4000
    · rw [if_pos c0, j]
    rw [if_neg c0]
    by_cases c1 : x ≥ 0
    · rw [if_pos c1]
      by_cases c2 : x ≤ (t.size : Int)
      · rw [decide_eq_true c2, em_wrap (x := (t.size : Int) - x) (by omega) (by omega)]
        simp only [Option.bind_some, if_true]
        by_cases c3 : y ≥ 0
        · rw [if_pos c3, decide_eq_false (by omega)]
          simp only [Option.bind_some, Bool.not_false, j]
        · rw [if_neg c3]
          simp only [Option.bind_some, Bool.not_false, j]
      · rw [decide_eq_false c2]
        simp only [Option.bind_some, Bool.false_eq_true, if_false, j]
    · rw [if_neg c1]
      simp only [Option.bind_some, Bool.false_eq_true, if_false, j]
/-! Moved edits -/
def meB (a b : Int) (s : ByteArray) : Prop := 0 ≤ a ∧ a ≤ 4000 ∧ 0 ≤ b ∧ b ≤ 4000 ∧ (s.size : Int) ≤ 4000
instance (a b : Int) (s : ByteArray) : Decidable (meB a b s) := by unfold meB; infer_instance
theorem me_fits (a b : Int) (s : ByteArray) : spec_l18Fits.f a b s = some (decide (meB a b s)) := by
  unfold spec_l18Fits.f spec_l01Between.f meB
  by_cases h1 : a ≥ 0
  · by_cases h2 : a ≤ 4000
    · by_cases h3 : b ≥ 0
      · by_cases h4 : b ≤ 4000
        · simp [h1, h2, h3, h4]
        · simp [h1, h2, h3, h4]
      · simp [h1, h2, h3]
    · simp [h1, h2]
  · simp [h1]
theorem me_ok (a b : Int) (s : ByteArray) : impl_editOK.f a b s = some (decide (meB a b s)) := by
  unfold impl_editOK.f meB
  by_cases h1 : a ≥ 0
  · by_cases h2 : a ≤ 4000
    · by_cases h3 : b ≥ 0
      · by_cases h4 : b ≤ 4000
        · simp [h1, h2, h3, h4]
        · simp [h1, h2, h3, h4]
      · simp [h1, h2, h3]
    · simp [h1, h2]
  · simp [h1]
theorem me_mx (x y : Int) : mx x y = if x < y then y else x := rfl
def emF (a c d l : Int) : Int := if a < c then a else if a ≤ c + d then c + l else a + (l - d)
def emT (e c d l : Int) : Int := if e ≤ c then e else if e < c + d then c else e + (l - d)
def emMv (a b : Int) (s : ByteArray) (c d : Int) (u : ByteArray) : Int × Int × ByteArray × Int :=
  if meB a b s ∧ meB c d u then (emF a c d u.size, mx (emT (a + b) c d u.size) (emF a c d u.size) - emF a c d u.size, s, 0) else (0, 0, ⟨#[]⟩, 1)
theorem em_i1 (k : Nat) (a b : Int) (s : ByteArray) (c d : Int) (u : ByteArray) (f : Int) (h1 : meB a b s) (h2 : meB c d u) (hf : f = emF a c d u.size) :
    impl_MoveEdit.j1 (k + 1) c (c + d) u.size f (a + b) a b s c d u = some (f, mx (emT (a + b) c d u.size) f - f, s, 0) := by
  obtain ⟨a0, a1, b0, b1, s1⟩ := h1
  obtain ⟨c0, c1, d0, d1, u1⟩ := h2
  have hf' : -4000 ≤ f ∧ f ≤ 12000 := by
    rw [hf, emF]; split
    · omega
    · split <;> omega
  rw [impl_MoveEdit.j1, emT]
  rw [em_wrap (x := (u.size : Int) - d) (by omega) (by omega), em_wrap (x := a + b + ((u.size : Int) - d)) (by omega) (by omega)]
  simp only [me_mx]
  by_cases g1 : a + b ≤ c
  · rw [if_pos g1, if_pos g1, em_wrap (by split <;> omega) (by split <;> omega)]
  rw [if_neg g1, if_neg g1]
  by_cases g2 : a + b < c + d
  · rw [if_pos g2, if_pos g2, em_wrap (by split <;> omega) (by split <;> omega)]
  · rw [if_neg g2, if_neg g2, em_wrap (by split <;> omega) (by split <;> omega)]
theorem em_mi (a b : Int) (s : ByteArray) (c d : Int) (u : ByteArray) : Ev (fun k => impl_MoveEdit.f k a b s c d u) (emMv a b s c d u) := by
  refine Ev.step (f := fun k => impl_MoveEdit.f (k + 1) a b s c d u) (fun k => rfl) ?_
  refine Ev.step (f := fun _ => some (emMv a b s c d u)) (fun k => ?_) (Ev.now _)
  unfold impl_MoveEdit.f
  rw [me_ok, me_ok]
  simp only [Option.bind_some]
  by_cases h1 : meB a b s
  · rw [decide_eq_true h1, if_pos rfl]
    by_cases h2 : meB c d u
    · rw [decide_eq_true h2, emMv, if_pos ⟨h1, h2⟩]
      have h1' := h1
      have h2' := h2
      obtain ⟨a0, a1, b0, b1, s1⟩ := h1
      obtain ⟨c0, c1, d0, d1, u1⟩ := h2
      rw [impl_MoveEdit.j0, if_neg (show ¬ ((!true) = true) by decide)]
      rw [em_wrap (x := c + d) (by omega) (by omega), em_wrap (x := (u.size : Int) - d) (by omega) (by omega), em_wrap (x := a + ((u.size : Int) - d)) (by omega) (by omega), em_wrap (x := a + b) (by omega) (by omega), em_wrap (x := c + (u.size : Int)) (by omega) (by omega)]
      by_cases h3 : a < c
      · rw [if_pos h3, em_i1 k a b s c d u a h1' h2' (by rw [emF, if_pos h3]), show emF a c d u.size = a by rw [emF, if_pos h3]]
      · rw [if_neg h3]
        by_cases h4 : a ≤ c + d
        · rw [if_pos h4, em_i1 k a b s c d u _ h1' h2' (by rw [emF, if_neg h3, if_pos h4]), show emF a c d u.size = c + u.size by rw [emF, if_neg h3, if_pos h4]]
        · rw [if_neg h4, em_i1 k a b s c d u _ h1' h2' (by rw [emF, if_neg h3, if_neg h4]), show emF a c d u.size = a + (u.size - d) by rw [emF, if_neg h3, if_neg h4]]
    · rw [decide_eq_false h2, impl_MoveEdit.j0, if_pos (show (!false) = true from rfl), emMv, if_neg (fun h => h2 h.2)]
  · rw [decide_eq_false h1, if_neg (by simp), impl_MoveEdit.j0, if_pos rfl, emMv, if_neg (fun h => h1 h.1)]
theorem em_s1 (k : Nat) (a b : Int) (s : ByteArray) (c d : Int) (u : ByteArray) (f : Int) (h1 : meB a b s) (h2 : meB c d u) (hf : f = emF a c d u.size) :
    spec_l18Move.j0 (k + 1) c (c + d) (u.size - d) f (a + b) a b s = some (f, mx (emT (a + b) c d u.size) f - f, s) := by
  obtain ⟨a0, a1, b0, b1, s1⟩ := h1
  obtain ⟨c0, c1, d0, d1, u1⟩ := h2
  have hf' : -4000 ≤ f ∧ f ≤ 12000 := by
    rw [hf, emF]; split
    · omega
    · split <;> omega
  rw [spec_l18Move.j0, emT]
  rw [em_wrap (x := a + b + ((u.size : Int) - d)) (by omega) (by omega)]
  simp only [me_mx]
  by_cases g1 : a + b ≤ c
  · rw [if_pos g1, if_pos g1]
    by_cases g3 : a + b < f
    · rw [if_pos g3, if_pos g3, Int.sub_self]
    · rw [if_neg g3, if_neg g3, em_wrap (by omega) (by omega)]
  rw [if_neg g1, if_neg g1]
  by_cases g2 : a + b < c + d
  · rw [if_pos g2, if_pos g2]
    by_cases g3 : c < f
    · rw [if_pos g3, if_pos g3, Int.sub_self]
    · rw [if_neg g3, if_neg g3, em_wrap (by omega) (by omega)]
  · rw [if_neg g2, if_neg g2]
    by_cases g3 : a + b + ((u.size : Int) - d) < f
    · rw [if_pos g3, if_pos g3, Int.sub_self]
    · rw [if_neg g3, if_neg g3, em_wrap (by omega) (by omega)]
theorem em_ms (a b : Int) (s : ByteArray) (c d : Int) (u : ByteArray) : Ev (fun k => spec_MoveEdit.f k a b s c d u) (emMv a b s c d u) := by
  refine Ev.step (f := fun _ => some (emMv a b s c d u)) (fun k => ?_) (Ev.now _)
  unfold spec_MoveEdit.f
  rw [me_fits, me_fits]
  simp only [Option.bind_some]
  by_cases h1 : meB a b s
  · rw [decide_eq_true h1, if_pos rfl]
    by_cases h2 : meB c d u
    · rw [decide_eq_true h2, if_pos rfl, emMv, if_pos ⟨h1, h2⟩]
      have h1' := h1
      have h2' := h2
      obtain ⟨a0, a1, b0, b1, s1⟩ := h1
      obtain ⟨c0, c1, d0, d1, u1⟩ := h2
      unfold spec_l18Move.f
      rw [em_wrap (x := c + d) (by omega) (by omega), em_wrap (x := (u.size : Int) - d) (by omega) (by omega), em_wrap (x := a + ((u.size : Int) - d)) (by omega) (by omega), em_wrap (x := a + b) (by omega) (by omega), em_wrap (x := c + (u.size : Int)) (by omega) (by omega)]
      by_cases h3 : a < c
      · rw [if_neg (show ¬ a > c + d by omega), if_neg (show ¬ a ≥ c by omega), em_s1 k a b s c d u a h1' h2' (by rw [emF, if_pos h3]), show emF a c d u.size = a by rw [emF, if_pos h3]]
        rfl
      · by_cases h4 : a ≤ c + d
        · rw [if_neg (show ¬ a > c + d by omega), if_pos (show a ≥ c by omega), em_s1 k a b s c d u _ h1' h2' (by rw [emF, if_neg h3, if_pos h4]), show emF a c d u.size = c + u.size by rw [emF, if_neg h3, if_pos h4]]
          rfl
        · rw [if_pos (show a > c + d by omega), em_s1 k a b s c d u _ h1' h2' (by rw [emF, if_neg h3, if_neg h4]), show emF a c d u.size = a + (u.size - d) by rw [emF, if_neg h3, if_neg h4]]
          rfl
    · rw [decide_eq_false h2, if_neg (by simp), emMv, if_neg (fun h => h2 h.2)]
  · rw [decide_eq_false h1, if_neg (by simp), emMv, if_neg (fun h => h1 h.1)]
/-! What meets -/
theorem em_size (t : ByteArray) (x y : Int) (s : ByteArray) (h : emFit t x y) (h2 : ¬ (t.size : Int) - y + s.size > 4000) : ((emEd t x y s).1.size : Int) = (t.size : Int) - y + s.size ∧ (emEd t x y s).2 = 0 := by
  rw [emEd, if_pos h, if_neg h2]
  obtain ⟨h0, h1, h2, h3, h4⟩ := h
  refine ⟨?_, rfl⟩
  simp only [ByteArray.size_append, ByteArray.size_extract]
  omega
theorem em_code0 (t : ByteArray) (x y : Int) (s : ByteArray) (h : (emEd t x y s).2 = 0) : emFit t x y ∧ ¬ (t.size : Int) - y + s.size > 4000 := by
  unfold emEd at h
  by_cases h1 : emFit t x y
  · rw [if_pos h1] at h
    by_cases h2 : (t.size : Int) - y + s.size > 4000
    · rw [if_pos h2] at h; simp at h
    · exact ⟨h1, h2⟩
  · rw [if_neg h1] at h; simp at h
theorem em_code1 (t : ByteArray) (x y : Int) (s : ByteArray) (h : emFit t x y) : (emEd t x y s).2 ≠ 1 := by
  rw [emEd, if_pos h]
  split <;> simp
/-- An edit that is moved fits. -/
theorem em_movefit (t : ByteArray) (a b : Int) (s : ByteArray) (c d : Int) (u : ByteArray) (h1 : emFit t a b) (h2 : emFit t c d) (h3 : ¬ (t.size : Int) - d + u.size > 4000) (m1 : meB a b s) (m2 : meB c d u) :
    emFit (emEd t c d u).1 (emMv a b s c d u).1 (emMv a b s c d u).2.1 := by
  have hs := (em_size t c d u h2 h3).1
  rw [emMv, if_pos ⟨m1, m2⟩]
  obtain ⟨g0, g1, g2, g3, g4⟩ := h1
  obtain ⟨k0, k1, k2, k3, k4⟩ := h2
  unfold emFit
  simp only [me_mx]
  rw [hs]
  have hF : 0 ≤ emF a c d u.size ∧ emF a c d u.size ≤ (t.size : Int) - d + u.size := by
    unfold emF
    split
    · omega
    · split <;> omega
  have hT : 0 ≤ emT (a + b) c d u.size ∧ emT (a + b) c d u.size ≤ (t.size : Int) - d + u.size := by
    unfold emT
    split
    · omega
    · split <;> omega
  refine ⟨by omega, by omega, by omega, ?_, ?_⟩ <;> split <;> omega
theorem em_ext {a b : ByteArray} (h : a.data.toList = b.data.toList) : a = b := by
  cases a with
  | mk a =>
    cases b with
    | mk b =>
      cases a
      cases b
      simp at h
      rw [h]
theorem em_list (t : ByteArray) (x y : Int) (s : ByteArray) (h : emFit t x y) (h2 : ¬ (t.size : Int) - y + s.size > 4000) : (emEd t x y s).1.data.toList = t.data.toList.take x.toNat ++ (s.data.toList ++ t.data.toList.drop (x + y).toNat) := by
  rw [emEd, if_pos h, if_neg h2]
  have hl : t.data.toList.length = t.size := by rw [Array.length_toList]; rfl
  simp only [ByteArray.data_append, ByteArray.data_extract, Array.toList_append, Array.toList_extract, List.append_assoc]
  rw [List.extract_eq_take_drop, List.extract_eq_take_drop, Nat.sub_zero, List.drop_zero]
  rw [List.take_of_length_le (l := List.drop (x + y).toNat t.data.toList) (by rw [List.length_drop, hl]; omega)]
theorem em_meet (t : ByteArray) (a b : Int) (s : ByteArray) (c d : Int) (u : ByteArray) (h1 : emFit t a b) (h2 : emFit t c d) (h3 : ¬ (t.size : Int) - b + s.size > 4000) (h4 : ¬ (t.size : Int) - d + u.size > 4000) (m1 : meB a b s) (m2 : meB c d u) (hl : a + b < c) :
    emEd (emEd t c d u).1 (emMv a b s c d u).1 (emMv a b s c d u).2.1 (emMv a b s c d u).2.2.1 = emEd (emEd t a b s).1 (emMv c d u a b s).1 (emMv c d u a b s).2.1 (emMv c d u a b s).2.2.1 := by
  have f1 := em_movefit t a b s c d u h1 h2 h4 m1 m2
  have f2 := em_movefit t c d u a b s h2 h1 h3 m2 m1
  have s1 := (em_size t c d u h2 h4).1
  have s2 := (em_size t a b s h1 h3).1
  have l1 := em_list t c d u h2 h4
  have l2 := em_list t a b s h1 h3
  obtain ⟨g0, g1, g2, g3, g4⟩ := h1
  obtain ⟨k0, k1, k2, k3, k4⟩ := h2
  have v1 : emMv a b s c d u = (a, b, s, 0) := by
    rw [emMv, if_pos ⟨m1, m2⟩, show emF a c d u.size = a by rw [emF, if_pos (by omega)], show emT (a + b) c d u.size = a + b by rw [emT, if_pos (by omega)], me_mx, if_neg (by omega)]
    rw [show a + b - a = b by omega]
  have v2 : emMv c d u a b s = (c + ((s.size : Int) - b), d, u, 0) := by
    rw [emMv, if_pos ⟨m2, m1⟩, show emF c a b s.size = c + (s.size - b) by rw [emF, if_neg (by omega), if_neg (by omega)], show emT (c + d) a b s.size = c + d + (s.size - b) by rw [emT, if_neg (by omega), if_neg (by omega)], me_mx, if_neg (by omega)]
    rw [show c + d + ((s.size : Int) - b) - (c + ((s.size : Int) - b)) = d by omega]
  rw [v1] at f1
  rw [v2] at f2
  rw [v1, v2]
  simp only at f1 f2 ⊢
  by_cases big : ((emEd t c d u).1.size : Int) - b + s.size > 4000
  · rw [emEd, if_pos f1, if_pos big]
    rw [emEd, if_pos f2, if_pos (by omega)]
  · have e1 := em_list _ _ _ s f1 big
    have e2 := em_list _ _ _ u f2 (by omega)
    refine Prod.ext ?_ ?_
    · apply em_ext
      rw [e1, e2, l1, l2]
      have ht : t.data.toList.length = t.size := by rw [Array.length_toList]; rfl
      have hsl : s.data.toList.length = s.size := by rw [Array.length_toList]; rfl
      generalize t.data.toList = T at ht ⊢
      generalize hS : s.data.toList = S at hsl ⊢
      generalize u.data.toList = U
      have ta : (T.take a.toNat).length = a.toNat := by rw [List.length_take]; omega
      have tc : (T.take c.toNat).length = c.toNat := by rw [List.length_take]; omega
      rw [List.take_append_of_le_length (l₁ := T.take c.toNat) (by omega), List.take_take, Nat.min_eq_left (show a.toNat ≤ c.toNat by omega)]
      rw [List.drop_append_of_le_length (l₁ := T.take c.toNat) (by omega)]
      rw [List.take_append, ta, List.take_of_length_le (l := T.take a.toNat) (by omega), List.take_append, hsl, List.take_of_length_le (l := S) (by omega)]
      rw [List.drop_append, ta, List.drop_eq_nil_of_le (show (T.take a.toNat).length ≤ (c + ((s.size : Int) - b) + d).toNat by omega), List.drop_append, hsl, List.drop_eq_nil_of_le (show S.length ≤ (c + ((s.size : Int) - b) + d).toNat - a.toNat by omega)]
      rw [List.drop_take, List.drop_drop]
      rw [show (c + ((s.size : Int) - b)).toNat - a.toNat - s.size = c.toNat - (a + b).toNat by omega]
      rw [show (a + b).toNat + ((c + ((s.size : Int) - b) + d).toNat - a.toNat - s.size) = (c + d).toNat by omega]
      simp only [List.append_assoc, List.nil_append]
    · rw [(em_size _ _ _ s f1 big).2, (em_size _ _ _ u f2 (by omega)).2]
theorem FnEditsMeet.pure : FnEditsMeet.Pure := by
  intro l hl
  refine Ev.rounds (g := fun k => laws_FnEditsMeet.f k l) ?_
  unfold laws_FnEditsMeet.f laws_big.f
  simp only [Option.bind_some]
  by_cases hb : (l.length : Int) > 1048576
  · exact Ev.pos (by simpa using hb) (Ev.now _)
  refine Ev.neg (by simpa using hb) ?_
  obtain ⟨x, y, hd, hx, hy⟩ := em_draw l (by omega) hl.2
  unfold emS at hx hy
  refine Ev.bind hd ?_
  refine Ev.bind hd ?_
  refine Ev.bind (em_ms _ _ _ _ _ _) ?_
  refine Ev.bind (em_mi _ _ _ _ _ _) ?_
  refine Ev.pos rfl ?_
  refine Ev.step (fun k => by rw [laws_FnEditsMeet.j0]) ?_
  refine Ev.neg (by simp) ?_
  refine Ev.bind (em_i _ _ _ _ (by simp only; omega)) ?_
  refine Ev.bind (em_i _ _ _ _ (by simp only; omega)) ?_
  refine Ev.bind (em_s _ _ _ _ (by simp only; omega)) ?_
  refine Ev.bind (em_s _ _ _ _ (by simp only; omega)) ?_
  refine Ev.pos rfl ?_
  refine Ev.pos rfl ?_
  refine Ev.pos rfl ?_
  refine Ev.step (fun k => by rw [laws_FnEditsMeet.j1]) ?_
  refine Ev.neg (by simp) ?_
  simp only
  have j2t : ∀ p q, Ev (fun k => laws_FnEditsMeet.j2 k p q true x.f0 x.f1 x.f2 y.f0 y.f1 y.f2 (emMv x.f0 x.f1 x.f2 y.f0 y.f1 y.f2).1 (emMv x.f0 x.f1 x.f2 y.f0 y.f1 y.f2).2.1 (emMv x.f0 x.f1 x.f2 y.f0 y.f1 y.f2).2.2.1) true := by
    intro p q
    refine Ev.step (fun k => by rw [laws_FnEditsMeet.j2]) ?_
    exact Ev.pos rfl (Ev.now _)
  by_cases c1 : (emMv x.f0 x.f1 x.f2 y.f0 y.f1 y.f2).2.2.2 = 0
  · refine Ev.pos c1 ?_
    have m : meB x.f0 x.f1 x.f2 ∧ meB y.f0 y.f1 y.f2 := by
      unfold emMv at c1
      by_cases hm : meB x.f0 x.f1 x.f2 ∧ meB y.f0 y.f1 y.f2
      · exact hm
      · rw [if_neg hm] at c1; simp at c1
    obtain ⟨m1, m2⟩ := m
    generalize hT : (⟨#[97, 98, 99, 100, 101, 102, 103, 104, 105, 106, 107, 108, 109, 110, 111, 112, 113, 114, 115, 116]⟩ : ByteArray) = T
    by_cases c2 : (emEd T x.f0 x.f1 x.f2).2 = 0
    · refine Ev.pos c2 ?_
      by_cases c3 : (emEd T y.f0 y.f1 y.f2).2 = 0
      · obtain ⟨f1, z1⟩ := em_code0 _ _ _ _ c2
        obtain ⟨f2, z2⟩ := em_code0 _ _ _ _ c3
        rw [c3]
        refine Ev.step (fun k => by rw [laws_FnEditsMeet.j2]) ?_
        refine Ev.neg (by simp) ?_
        refine Ev.bind (em_mi _ _ _ _ _ _) ?_
        have c4 : (emMv y.f0 y.f1 y.f2 x.f0 x.f1 x.f2).2.2.2 = 0 := by rw [emMv, if_pos ⟨m2, m1⟩]
        refine Ev.pos c4 ?_
        have t1 : (emMv x.f0 x.f1 x.f2 y.f0 y.f1 y.f2).2.2.1 = x.f2 := by rw [emMv, if_pos ⟨m1, m2⟩]
        have t2 : (emMv y.f0 y.f1 y.f2 x.f0 x.f1 x.f2).2.2.1 = y.f2 := by rw [emMv, if_pos ⟨m2, m1⟩]
        refine Ev.bind (em_i _ _ _ _ (by rw [t1]; omega)) ?_
        refine Ev.bind (em_i _ _ _ _ (by rw [t2]; omega)) ?_
        have n1 := em_code1 _ _ _ (emMv x.f0 x.f1 x.f2 y.f0 y.f1 y.f2).2.2.1 (em_movefit T _ _ _ _ _ _ f1 f2 z2 m1 m2)
        have n2 := em_code1 _ _ _ (emMv y.f0 y.f1 y.f2 x.f0 x.f1 x.f2).2.2.1 (em_movefit T _ _ _ _ _ _ f2 f1 z1 m2 m1)
        refine Ev.neg n1 ?_
        refine Ev.step (fun k => by rw [laws_FnEditsMeet.j3]) ?_
        refine Ev.neg (by simpa using n2) ?_
        have m1' := m1
        have m2' := m2
        obtain ⟨a0, a1, b0, b1, u1⟩ := m1'
        obtain ⟨d0, d1, e0, e1, v1⟩ := m2'
        rw [em_wrap (x := x.f0 + x.f1) (by omega) (by omega), em_wrap (x := y.f0 + y.f1) (by omega) (by omega)]
        by_cases c5 : x.f0 + x.f1 < y.f0
        · refine Ev.pos c5 ?_
          have h := em_meet T _ _ _ _ _ _ f1 f2 z1 z2 m1 m2 c5
          rw [h]
          refine Ev.pos rfl ?_
          simpa using Ev.now true
        refine Ev.neg c5 ?_
        by_cases c6 : y.f0 + y.f1 < x.f0
        · refine Ev.pos c6 ?_
          have h := em_meet T _ _ _ _ _ _ f2 f1 z2 z1 m2 m1 c6
          rw [h]
          refine Ev.pos rfl ?_
          simpa using Ev.now true
        exact Ev.neg c6 (Ev.now _)
      · rw [show ((emEd T y.f0 y.f1 y.f2).2 != 0) = true by simpa using c3]
        exact j2t _ _
    · exact Ev.neg c2 (j2t _ _)
  · exact Ev.neg c1 (j2t _ _)
end Go.Proofs.Ytgdecbliegelmaa.Q
