/- Trees, plainly: size, turning, comparing; right trees; shown trees. -/
import Derived.Test.YtgdecbliegelmaaQlawsszTreeS
import Derived.Test.YtgdecbliegelmaaQlawstoTreeS
import Derived.Test.YtgdecbliegelmaaQlawseqTreeS
import Derived.Test.YtgdecbliegelmaaXKinds
import Derived.Test.YtgdecbliegelmaaQspecTreeOK
import Derived.Test.YtgdecbliegelmaaQimplTreeOK
import Derived.Test.YtgdecbliegelmaaQimpltext
import Derived.Test.YtgdecbliegelmaaQspecl01Show
namespace Go.Proofs.Ytgdecbliegelmaa.Q
open Go.RowKit Go.Proofs.YtgdecbliegelmaaW.PrintWords
set_option linter.unusedVariables false
theorem pt_wrap {x : Int} (h0 : -9223372036854775808 ≤ x) (h1 : x ≤ 9223372036854775807) : wrap64 x = x := by
  unfold wrap64
  omega
theorem Ev.pos {α : Type} {c : Prop} [Decidable c] {f g : Nat → Option α} {r : α} (hc : c) (h : Ev f r) : Ev (fun n => if c then f n else g n) r := by
  simpa only [if_pos hc] using h
theorem Ev.neg {α : Type} {c : Prop} [Decidable c] {f g : Nat → Option α} {r : α} (hc : ¬ c) (h : Ev g r) : Ev (fun n => if c then f n else g n) r := by
  simpa only [if_neg hc] using h
/-- A tree's induction. -/
theorem ind48 {p : S48 → Prop} (h : ∀ t, (∀ u ∈ t.f3, p u) → p t) : ∀ t, p t
  | ⟨a, b, c, l⟩ => h _ (fun u hu => ind48 h u)
termination_by t => SizeOf.sizeOf t
decreasing_by
  have := List.sizeOf_lt_of_mem (show u ∈ l from hu)
  simp
  omega
theorem ind53 {p : S53 → Prop} (h : ∀ t, (∀ u ∈ t.f3, p u) → p t) : ∀ t, p t
  | ⟨a, b, c, l⟩ => h _ (fun u hu => ind53 h u)
termination_by t => SizeOf.sizeOf t
decreasing_by
  have := List.sizeOf_lt_of_mem (show u ∈ l from hu)
  simp
  omega
theorem eta53 (x : S53) : (⟨x.f0, x.f1, x.f2, x.f3⟩ : S53) = x := by cases x; rfl
/-- The size that the laws measure: letters and kids. -/
def Sz : S48 → Nat
  | ⟨a, b, _, l⟩ => a.size + b.size + l.length + (l.attach.map fun x => Sz x.1).sum
termination_by t => SizeOf.sizeOf t
decreasing_by
  have := List.sizeOf_lt_of_mem x.2
  simp
  omega
def SzL (l : List S48) : Nat := l.length + (l.map Sz).sum
theorem Sz_eq (t : S48) : Sz t = t.f0.size + t.f1.size + SzL t.f3 := by
  obtain ⟨a, b, c, l⟩ := t
  unfold Sz
  rw [List.attach_map_val]
  simp only [SzL]
  omega
theorem B48.inv {x : S48} (h : B48 x) : x.f0.size ≤ 140737488351232 ∧ x.f1.size ≤ 140737488351232 ∧ x.f3.length * 64 ≤ 140737488351232 ∧ ∀ a ∈ x.f3, B48 a := by
  cases h with
  | mk _ h0 h1 h2 h3 h4 => exact ⟨h0, h1, h3, h4⟩
theorem sum_drop_cons {α : Type} (f : α → Nat) (l : List α) (i : Nat) (h : i < l.length) : ((l.drop i).map f).sum = f l[i] + ((l.drop (i + 1)).map f).sum := by
  rw [List.drop_eq_getElem_cons h, List.map_cons, List.sum_cons]
theorem rd48 (l : List S48) (i : Nat) (h : i < l.length) : rd_T48 l (i : Int) = l[i] := by
  simp [rd_T48, List.getD_eq_getElem?_getD, List.getElem?_eq_getElem h]
theorem rd53 (l : List S53) (i : Nat) (h : i < l.length) : rd_T53 l (i : Int) = l[i] := by
  simp [rd_T53, List.getD_eq_getElem?_getD, List.getElem?_eq_getElem h]
/-- szTree tells the rest, or less than nothing. -/
theorem sz_tree (t : S48) (ht : B48 t) : ∀ left : Int, 0 ≤ left → left ≤ 1048576 → ∃ r, Ev (fun k => laws_szTree.f k t.f0 t.f1 t.f2 t.f3 left) r ∧ r ≤ 1048576 ∧ (0 ≤ r → (Sz t : Int) + r = left) := by
  induction t using ind48 with
  | h t ih =>
  intro left h0 h1
  obtain ⟨b0, b1, b3, bk⟩ := ht.inv
  have loop : ∀ d i (lf : Int), i + d = t.f3.length → 0 ≤ lf → lf ≤ 1048576 → ∃ r, Ev (fun k => laws_szTreeS.l0 k t.f3 lf (i : Int)) r ∧ r ≤ 1048576 ∧ (0 ≤ r → ((((t.f3.drop i).map Sz).sum : Nat) : Int) + r = lf) := by
    intro d
    induction d with
    | zero =>
      intro i lf hi hl0 hl1
      refine ⟨lf, ?_, hl1, ?_⟩
      · refine Ev.step (fun k => by rw [laws_szTreeS.l0]) ?_
        refine Ev.neg (by omega) ?_
        exact Ev.now _
      intro h
      rw [List.drop_eq_nil_of_le (by omega)]
      simp
    | succ d ihd =>
      intro i lf hi hl0 hl1
      have hlt : i < t.f3.length := by omega
      obtain ⟨r1, hr1, hr1b, hr1e⟩ := ih t.f3[i] (List.getElem_mem hlt) (bk _ (List.getElem_mem hlt)) lf hl0 hl1
      by_cases hn : r1 < 0
      · refine ⟨-1, ?_, by omega, fun h => by omega⟩
        refine Ev.step (fun k => by rw [laws_szTreeS.l0]) ?_
        refine Ev.pos (by omega) ?_
        refine Ev.pos (by omega) ?_
        rw [rd48 _ _ hlt]
        exact Ev.bind hr1 (Ev.pos hn (Ev.now _))
      · obtain ⟨r2, hr2, hr2b, hr2e⟩ := ihd (i + 1) r1 (by omega) (by omega) hr1b
        refine ⟨r2, ?_, hr2b, ?_⟩
        · refine Ev.step (fun k => by rw [laws_szTreeS.l0]) ?_
          refine Ev.pos (by omega) ?_
          refine Ev.pos (by omega) ?_
          rw [rd48 _ _ hlt]
          refine Ev.bind hr1 (Ev.neg hn ?_)
          rw [pt_wrap (x := (i : Int) + 1) (by omega) (by omega)]
          exact hr2
        · intro h
          have e1 := hr1e (by omega)
          have e2 := hr2e h
          rw [sum_drop_cons _ _ _ hlt]
          omega
  have w1 : wrap64 (left - (t.f0.size : Int)) = left - t.f0.size := pt_wrap (by omega) (by omega)
  by_cases c1 : left - (t.f0.size : Int) < 0
  · refine ⟨-1, ?_, by omega, fun h => by omega⟩
    · refine Ev.step (fun k => by rw [laws_szTree.f, w1]) ?_
      refine Ev.pos c1 ?_
      exact Ev.now _
  have w2 : wrap64 (left - (t.f0.size : Int) - (t.f1.size : Int)) = left - t.f0.size - t.f1.size := pt_wrap (by omega) (by omega)
  by_cases c2 : left - (t.f0.size : Int) - t.f1.size < 0
  · refine ⟨-1, ?_, by omega, fun h => by omega⟩
    · refine Ev.step (fun k => by rw [laws_szTree.f, w1, w2]) ?_
      refine Ev.neg c1 ?_
      refine Ev.pos c2 ?_
      exact Ev.now _
  have w3 : wrap64 (left - (t.f0.size : Int) - (t.f1.size : Int) - (t.f3.length : Int)) = left - t.f0.size - t.f1.size - t.f3.length := pt_wrap (by omega) (by omega)
  by_cases c3 : left - (t.f0.size : Int) - t.f1.size - t.f3.length < 0
  · refine ⟨-1, ?_, by omega, fun h => by omega⟩
    · refine Ev.step (fun k => by rw [laws_szTree.f, w1, w2]) ?_
      refine Ev.neg c1 ?_
      refine Ev.neg c2 ?_
      refine Ev.bind (a := -1) ?_ ?_
      · refine Ev.step (fun k => by rw [laws_szTreeS.f, w3]) ?_
        refine Ev.pos c3 ?_
        exact Ev.now _
      · refine Ev.pos (by omega) ?_
        exact Ev.now _
  obtain ⟨r, hr, hrb, hre⟩ := loop t.f3.length 0 _ (by omega) (show 0 ≤ left - (t.f0.size : Int) - t.f1.size - t.f3.length by omega) (by omega)
  have hS : Ev (fun k => laws_szTreeS.f k t.f3 (left - (t.f0.size : Int) - t.f1.size)) r := by
    refine Ev.step (fun k => by rw [laws_szTreeS.f, w3]) ?_
    exact Ev.neg c3 hr
  by_cases c4 : r < 0
  · refine ⟨-1, ?_, by omega, fun h => by omega⟩
    · refine Ev.step (fun k => by rw [laws_szTree.f, w1, w2]) ?_
      refine Ev.neg c1 ?_
      refine Ev.neg c2 ?_
      refine Ev.bind (a := r) ?_ ?_
      · exact hS
      · refine Ev.pos c4 ?_
        exact Ev.now _
  · refine ⟨r, ?_, hrb, ?_⟩
    · refine Ev.step (fun k => by rw [laws_szTree.f, w1, w2]) ?_
      refine Ev.neg c1 ?_
      refine Ev.neg c2 ?_
      refine Ev.bind (a := r) ?_ ?_
      · exact hS
      · refine Ev.neg c4 ?_
        exact Ev.now _
    intro h
    have := hre h
    rw [Sz_eq]
    simp only [SzL]
    simp only [List.drop_zero] at this
    omega
/-- A tree of the laws as a tree of the program. -/
def conv : S48 → S53
  | ⟨a, b, c, l⟩ => ⟨a, b, c, l.attach.map fun x => conv x.1⟩
termination_by t => SizeOf.sizeOf t
decreasing_by
  have := List.sizeOf_lt_of_mem x.2
  simp
  omega
theorem conv_eq (t : S48) : conv t = ⟨t.f0, t.f1, t.f2, t.f3.map conv⟩ := by
  obtain ⟨a, b, c, l⟩ := t
  unfold conv
  rw [List.attach_map_val]
theorem to_tree (t : S48) (ht : B48 t) : Ev (fun k => laws_toTree.f k t.f0 t.f1 t.f2 t.f3) ((conv t).f0, (conv t).f1, (conv t).f2, (conv t).f3) := by
  induction t using ind48 with
  | h t ih =>
  obtain ⟨b0, b1, b3, bk⟩ := ht.inv
  have loop : ∀ d i (acc : List S53), i + d = t.f3.length → acc.length = t.f3.length → Ev (fun k => laws_toTreeS.l0 k t.f3 acc (i : Int)) (acc.take i ++ (t.f3.drop i).map conv) := by
    intro d
    induction d with
    | zero =>
      intro i acc hi ha
      refine Ev.step (fun k => by rw [laws_toTreeS.l0]) ?_
      refine Ev.neg (by omega) ?_
      rw [List.take_of_length_le (by omega), List.drop_eq_nil_of_le (by omega)]
      simpa using Ev.now acc
    | succ d ihd =>
      intro i acc hi ha
      have hlt : i < t.f3.length := by omega
      have hk := ih t.f3[i] (List.getElem_mem hlt) (bk _ (List.getElem_mem hlt))
      refine Ev.step (fun k => by rw [laws_toTreeS.l0]) ?_
      refine Ev.pos (by omega) ?_
      refine Ev.pos (by omega) ?_
      rw [rd48 _ _ hlt]
      refine Ev.bind hk (Ev.pos (by omega) ?_)
      rw [pt_wrap (x := (i : Int) + 1) (by omega) (by omega)]
      have h := ihd (i + 1) (acc.set i (conv t.f3[i])) (by omega) (by simpa using ha)
      have e : (acc.set i (conv t.f3[i])).take (i + 1) ++ (t.f3.drop (i + 1)).map conv = acc.take i ++ (t.f3.drop i).map conv := by
        rw [List.drop_eq_getElem_cons hlt, List.map_cons, List.take_add_one, List.take_set_of_le (Nat.le_refl i)]
        simp [List.getElem?_set_self (show i < acc.length by omega)]
      rw [e] at h
      have e2 : ((i : Int)).toNat = i := by omega
      rw [e2]
      have e3 : ((i + 1 : Nat) : Int) = (i : Int) + 1 := by omega
      rw [e3] at h
      simp only [eta53]
      exact h
  rw [conv_eq]
  refine Ev.step (fun k => by rw [laws_toTree.f]) ?_
  refine Ev.bind (a := t.f3.map conv) ?_ (Ev.now _)
  refine Ev.step (fun k => by rw [laws_toTreeS.f]) ?_
  refine Ev.pos (by omega) ?_
  refine Ev.pos (by omega) ?_
  have h := loop t.f3.length 0 (List.replicate ((t.f3.length : Int)).toNat z53) (by omega) (by simp)
  simpa using h
/-- The bound of a tree of the program: each list of kids fits an int. -/
inductive FitI : S53 → Prop where
  | mk (x : S53) : x.f3.length ≤ 9223372036854775806 → (∀ a ∈ x.f3, FitI a) → FitI x
theorem FitI.inv {x : S53} (h : FitI x) : x.f3.length ≤ 9223372036854775806 ∧ ∀ a ∈ x.f3, FitI a := by
  cases h with
  | mk _ h0 h1 => exact ⟨h0, h1⟩
theorem fit_conv (t : S48) (ht : B48 t) : FitI (conv t) := by
  induction t using ind48 with
  | h t ih =>
  obtain ⟨b0, b1, b3, bk⟩ := ht.inv
  rw [conv_eq]
  refine FitI.mk _ (by simp; omega) ?_
  intro a ha
  obtain ⟨x, hx, rfl⟩ := List.mem_map.1 ha
  exact ih x hx (bk x hx)
theorem eq_tree (t : S53) (ht : FitI t) : Ev (fun k => laws_eqTree.f k t.f0 t.f1 t.f2 t.f3 t.f0 t.f1 t.f2 t.f3) true := by
  induction t using ind53 with
  | h t ih =>
  obtain ⟨b3, bk⟩ := ht.inv
  have loop : ∀ d i, i + d = t.f3.length → Ev (fun k => laws_eqTreeS.l0 k t.f3 t.f3 (i : Int)) true := by
    intro d
    induction d with
    | zero =>
      intro i hi
      refine Ev.step (fun k => by rw [laws_eqTreeS.l0]) ?_
      refine Ev.neg (by omega) ?_
      exact Ev.now _
    | succ d ihd =>
      intro i hi
      have hlt : i < t.f3.length := by omega
      have hk := ih t.f3[i] (List.getElem_mem hlt) (bk _ (List.getElem_mem hlt))
      refine Ev.step (fun k => by rw [laws_eqTreeS.l0]) ?_
      refine Ev.pos (by omega) ?_
      refine Ev.pos (by omega) ?_
      refine Ev.pos (by omega) ?_
      rw [rd53 _ _ hlt]
      refine Ev.bind hk (Ev.pos rfl ?_)
      rw [pt_wrap (x := (i : Int) + 1) (by omega) (by omega)]
      exact ihd (i + 1) (by omega)
  refine Ev.step (fun k => by rw [laws_eqTree.f]) ?_
  refine Ev.pos rfl ?_
  refine Ev.pos rfl ?_
  refine Ev.neg (by simp) ?_
  refine Ev.bind (a := true) ?_ (Ev.pos rfl (Ev.now _))
  refine Ev.step (fun k => by rw [laws_eqTreeS.f]) ?_
  refine Ev.pos rfl ?_
  exact loop t.f3.length 0 (by omega)
def letB (c : Int) : Bool := if c ≥ 97 then (if c ≤ 122 then true else decide (c ≥ 65 ∧ c ≤ 90)) else decide (c ≥ 65 ∧ c ≤ 90)
def nmB (c : Int) : Bool := letB c || decide (c ≥ 48 ∧ c ≤ 57) || (c == 95)
theorem letter_s (c : Int) : spec_l01Letter.f c = some (letB c) := by
  unfold spec_l01Letter.f letB
  repeat' split
  all_goals simp <;> omega
theorem letter_i (c : Int) : impl_isLetter.f c = some (letB c) := by
  unfold impl_isLetter.f letB
  repeat' split
  all_goals simp <;> omega
theorem nm_s (c : Int) : spec_l01NameByte.f c = some (nmB c) := by
  unfold spec_l01NameByte.f nmB spec_l01Digit.f
  rw [letter_s]
  cases h : letB c
  · by_cases h1 : c ≥ 48 <;> by_cases h2 : c ≤ 57 <;> simp [h1, h2]
  · simp
theorem nm_i (c : Int) : impl_inName.f c = some (nmB c) := by
  unfold impl_inName.f nmB impl_isDigit.f
  rw [letter_i]
  cases h : letB c
  · by_cases h1 : c ≥ 48 <;> by_cases h2 : c ≤ 57 <;> simp [h1, h2]
  · simp
def nmL (s : ByteArray) (i : Nat) : Bool := ((bytesOf s).drop i).all nmB
theorem bytesOf_at (s : ByteArray) (i : Nat) (h : i < (bytesOf s).length) : (bytesOf s)[i] = bt s i := by
  have := rd_bytesOf s (i : Int)
  rw [← this]
  simp [rd, List.getD_eq_getElem?_getD, List.getElem?_eq_getElem h]
theorem nmL_step (s : ByteArray) (i : Nat) (h : i < s.size) : nmL s i = (nmB (bt s i) && nmL s (i + 1)) := by
  unfold nmL
  have h' : i < (bytesOf s).length := by rw [bytesOf_length]; exact h
  rw [List.drop_eq_getElem_cons h', List.all_cons, bytesOf_at]
theorem nmL_end (s : ByteArray) (i : Nat) (h : s.size ≤ i) : nmL s i = true := by
  unfold nmL
  rw [List.drop_eq_nil_of_le (by rw [bytesOf_length]; exact h)]
  rfl
def NmB (s : ByteArray) : Bool := decide (1 ≤ s.size ∧ s.size ≤ 24) && (letB (bt s 0) && nmL s 0)
theorem name_ls (s : ByteArray) (hs : s.size ≤ 24) : ∀ d i, i + d = s.size → Ev (fun k => spec_l01Name.l0 k s (i : Int)) (nmL s i) := by
  intro d
  induction d with
  | zero =>
    intro i hi
    rw [nmL_end s i (by omega)]
    refine Ev.step (fun k => by rw [spec_l01Name.l0]) ?_
    refine Ev.neg (by omega) ?_
    exact Ev.now _
  | succ d ih =>
    intro i hi
    rw [nmL_step s i (by omega)]
    refine Ev.step (fun k => by rw [spec_l01Name.l0]) ?_
    refine Ev.pos (by omega) ?_
    refine Ev.pos (by omega) ?_
    simp only [nm_s, Option.bind_some]
    cases h : nmB (bt s i)
    · exact Ev.neg (by simp) (Ev.now _)
    · refine Ev.pos rfl ?_
      rw [pt_wrap (x := (i : Int) + 1) (by omega) (by omega), Bool.true_and]
      exact ih (i + 1) (by omega)
theorem name_li (s : ByteArray) (hs : s.size ≤ 24) : ∀ d i, i + d = s.size → Ev (fun k => impl_nameOK.l0 k s (i : Int)) (nmL s i) := by
  intro d
  induction d with
  | zero =>
    intro i hi
    rw [nmL_end s i (by omega)]
    refine Ev.step (fun k => by rw [impl_nameOK.l0]) ?_
    refine Ev.neg (by omega) ?_
    exact Ev.now _
  | succ d ih =>
    intro i hi
    rw [nmL_step s i (by omega)]
    refine Ev.step (fun k => by rw [impl_nameOK.l0]) ?_
    refine Ev.pos (by omega) ?_
    refine Ev.pos (by omega) ?_
    simp only [nm_i, Option.bind_some]
    cases h : nmB (bt s i)
    · exact Ev.neg (by simp) (Ev.now _)
    · refine Ev.pos rfl ?_
      rw [pt_wrap (x := (i : Int) + 1) (by omega) (by omega), Bool.true_and]
      exact ih (i + 1) (by omega)
theorem name_s (s : ByteArray) : Ev (fun k => spec_l01Name.f k s) (NmB s) := by
  unfold NmB
  unfold spec_l01Name.f
  by_cases h1 : (s.size : Int) < 1
  · refine Ev.pos h1 ?_
    rw [decide_eq_false (by omega)]
    refine Ev.step (fun k => by rw [spec_l01Name.j0]) ?_
    exact Ev.pos rfl (Ev.now _)
  refine Ev.neg h1 ?_
  by_cases h2 : (s.size : Int) > 24
  · refine Ev.pos h2 ?_
    rw [decide_eq_false (by omega)]
    refine Ev.step (fun k => by rw [spec_l01Name.j0]) ?_
    exact Ev.pos rfl (Ev.now _)
  refine Ev.neg h2 ?_
  refine Ev.pos (by omega) ?_
  rw [decide_eq_true (by omega)]
  simp only [letter_s, Option.bind_some, Bool.true_and]
  refine Ev.step (fun k => by rw [spec_l01Name.j0]) ?_
  have h0 : nmL s 0 = (nmB (bt s 0) && nmL s 1) := nmL_step s 0 (by omega)
  cases h : letB (bt s 0)
  · exact Ev.pos rfl (Ev.now _)
  · refine Ev.neg (by simp) ?_
    have h3 : nmB (bt s 0) = true := by simp [nmB, h]
    rw [h0, h3, Bool.true_and, Bool.true_and]
    exact name_ls s (by omega) (s.size - 1) 1 (by omega)
theorem name_i (s : ByteArray) : Ev (fun k => impl_nameOK.f k s) (NmB s) := by
  unfold NmB
  unfold impl_nameOK.f
  by_cases h1 : (s.size : Int) < 1
  · refine Ev.pos h1 ?_
    rw [decide_eq_false (by omega)]
    refine Ev.step (fun k => by rw [impl_nameOK.j0]) ?_
    exact Ev.pos rfl (Ev.now _)
  refine Ev.neg h1 ?_
  by_cases h2 : (s.size : Int) > 24
  · refine Ev.pos h2 ?_
    rw [decide_eq_false (by omega)]
    refine Ev.step (fun k => by rw [impl_nameOK.j0]) ?_
    exact Ev.pos rfl (Ev.now _)
  refine Ev.neg h2 ?_
  refine Ev.pos (by omega) ?_
  rw [decide_eq_true (by omega)]
  simp only [letter_i, Option.bind_some, Bool.true_and]
  refine Ev.step (fun k => by rw [impl_nameOK.j0]) ?_
  cases h : letB (bt s 0)
  · exact Ev.pos rfl (Ev.now _)
  · refine Ev.neg (by simp) ?_
    rw [Bool.true_and]
    exact name_li s (by omega) s.size 0 (by omega)
/-- A right tree: names, texts and kids. -/
def Rt : S53 → Bool
  | ⟨a, b, c, l⟩ => NmB a && ((if c = true then decide (l.length = 0 ∧ b.size ≤ 200) else decide (b.toList = [])) && l.attach.all fun x => Rt x.1)
termination_by t => SizeOf.sizeOf t
decreasing_by
  have := List.sizeOf_lt_of_mem x.2
  simp
  omega
theorem Rt_eq (t : S53) : Rt t = (NmB t.f0 && ((if t.f2 = true then decide (t.f3.length = 0 ∧ t.f1.size ≤ 200) else decide (t.f1.toList = [])) && t.f3.all Rt)) := by
  obtain ⟨a, b, c, l⟩ := t
  unfold Rt
  simp only [List.all_subtype, List.unattach_attach]
def Nn : S53 → Nat
  | ⟨a, b, c, l⟩ => 1 + (l.attach.map fun x => Nn x.1).sum
termination_by t => SizeOf.sizeOf t
decreasing_by
  have := List.sizeOf_lt_of_mem x.2
  simp
  omega
theorem Nn_eq (t : S53) : Nn t = 1 + (t.f3.map Nn).sum := by
  obtain ⟨a, b, c, l⟩ := t
  unfold Nn
  rw [List.attach_map_val]
def mxL (l : List Nat) : Nat := l.foldr max 0
def Dd : S53 → Nat
  | ⟨a, b, c, l⟩ => 1 + mxL (l.attach.map fun x => Dd x.1)
termination_by t => SizeOf.sizeOf t
decreasing_by
  have := List.sizeOf_lt_of_mem x.2
  simp
  omega
theorem Dd_eq (t : S53) : Dd t = 1 + mxL (t.f3.map Dd) := by
  obtain ⟨a, b, c, l⟩ := t
  unfold Dd
  rw [List.attach_map_val]
theorem mx_drop_cons {α : Type} (f : α → Nat) (l : List α) (i : Nat) (h : i < l.length) : mxL ((l.drop i).map f) = max (f l[i]) (mxL ((l.drop (i + 1)).map f)) := by
  rw [List.drop_eq_getElem_cons h, List.map_cons]
  rfl
theorem all_drop_cons {α : Type} (f : α → Bool) (l : List α) (i : Nat) (h : i < l.length) : (l.drop i).all f = (f l[i] && (l.drop (i + 1)).all f) := by
  rw [List.drop_eq_getElem_cons h, List.all_cons]
theorem right_s (t : S53) (ht : FitI t) : Ev (fun k => spec_l01Right.f k t.f0 t.f1 t.f2 t.f3) (Rt t) := by
  induction t using ind53 with
  | h t ih =>
  obtain ⟨b3, bk⟩ := ht.inv
  have loop : ∀ d i, i + d = t.f3.length → Ev (fun k => spec_l01Right.l0 k (i : Int) t.f0 t.f1 t.f2 t.f3) ((t.f3.drop i).all Rt) := by
    intro d
    induction d with
    | zero =>
      intro i hi
      rw [List.drop_eq_nil_of_le (by omega)]
      refine Ev.step (fun k => by rw [spec_l01Right.l0]) ?_
      refine Ev.neg (by omega) ?_
      exact Ev.now _
    | succ d ihd =>
      intro i hi
      have hlt : i < t.f3.length := by omega
      have hk := ih t.f3[i] (List.getElem_mem hlt) (bk _ (List.getElem_mem hlt))
      rw [all_drop_cons _ _ _ hlt]
      refine Ev.step (fun k => by rw [spec_l01Right.l0]) ?_
      refine Ev.pos (by omega) ?_
      refine Ev.pos (by omega) ?_
      rw [rd53 _ _ hlt]
      refine Ev.bind hk ?_
      cases h : Rt t.f3[i]
      · exact Ev.neg (by simp) (Ev.now _)
      · refine Ev.pos rfl ?_
        rw [pt_wrap (x := (i : Int) + 1) (by omega) (by omega), Bool.true_and]
        exact ihd (i + 1) (by omega)
  have hl := loop t.f3.length 0 (by omega)
  rw [Rt_eq]
  refine Ev.step (fun k => by rw [spec_l01Right.f]) ?_
  refine Ev.bind (name_s t.f0) ?_
  cases hn : NmB t.f0
  · refine Ev.neg (by simp) ?_
    refine Ev.step (fun k => by rw [spec_l01Right.j0]) ?_
    exact Ev.pos rfl (Ev.now _)
  refine Ev.pos rfl ?_
  rw [Bool.true_and]
  by_cases hc : t.f2 = true
  · refine Ev.pos hc ?_
    rw [if_pos hc]
    by_cases h1 : (t.f3.length : Int) > 0
    · refine Ev.pos h1 ?_
      rw [decide_eq_false (by omega)]
      refine Ev.step (fun k => by rw [spec_l01Right.j0]) ?_
      exact Ev.pos rfl (Ev.now _)
    refine Ev.neg h1 ?_
    by_cases h2 : (t.f1.size : Int) > 200
    · refine Ev.pos h2 ?_
      rw [decide_eq_false (by omega)]
      refine Ev.step (fun k => by rw [spec_l01Right.j0]) ?_
      exact Ev.pos rfl (Ev.now _)
    refine Ev.neg h2 ?_
    rw [decide_eq_true (by omega), Bool.true_and]
    refine Ev.step (fun k => by rw [spec_l01Right.j0]) ?_
    refine Ev.neg (by simp) ?_
    exact hl
  · refine Ev.neg hc ?_
    rw [if_neg hc]
    refine Ev.step (fun k => by rw [spec_l01Right.j0]) ?_
    by_cases h1 : t.f1.toList = []
    · rw [decide_eq_true h1, Bool.true_and]
      refine Ev.neg (by simp [h1]) ?_
      exact hl
    · rw [decide_eq_false h1]
      refine Ev.pos (by simpa using h1) ?_
      exact Ev.now _
theorem room_s (t : S53) : ∀ left deep : Int, 0 ≤ left → left ≤ 1000 → 0 ≤ deep → deep ≤ 60 → ∃ r, Ev (fun k => spec_l01Room.f k t.f0 t.f1 t.f2 t.f3 left deep) r ∧ -1 ≤ r ∧ (0 ≤ r ↔ ((Nn t : Int) ≤ left ∧ (Dd t : Int) ≤ deep)) ∧ (0 ≤ r → r = left - Nn t) := by
  induction t using ind53 with
  | h t ih =>
  intro left deep h0 h1 h2 h3
  rw [Nn_eq, Dd_eq]
  by_cases hd : deep < 1
  · refine ⟨-1, ?_, by omega, by omega, by omega⟩
    refine Ev.step (fun k => by rw [spec_l01Room.f]) ?_
    exact Ev.pos hd (Ev.now _)
  have loop : ∀ d i (lf : Int), i + d = t.f3.length → i + lf ≤ 1000 → -1 ≤ lf → ∃ r, Ev (fun k => spec_l01Room.l0 k lf deep (i : Int) t.f0 t.f1 t.f2 t.f3) r ∧ -1 ≤ r ∧ (0 ≤ r ↔ ((((t.f3.drop i).map Nn).sum : Nat) : Int) ≤ lf ∧ ((mxL ((t.f3.drop i).map Dd) : Nat) : Int) ≤ deep - 1) ∧ (0 ≤ r → r = lf - (((t.f3.drop i).map Nn).sum : Nat)) := by
    intro d
    induction d with
    | zero =>
      intro i lf hi hl hl0
      rw [List.drop_eq_nil_of_le (by omega)]
      refine ⟨lf, ?_, hl0, ?_, ?_⟩
      · refine Ev.step (fun k => by rw [spec_l01Room.l0]) ?_
        refine Ev.neg (by omega) ?_
        exact Ev.now _
      · simp [mxL]
        omega
      · simp
    | succ d ihd =>
      intro i lf hi hl hl0
      have hlt : i < t.f3.length := by omega
      by_cases hn : 0 ≤ lf
      · obtain ⟨r1, e1, g1, q1, s1⟩ := ih t.f3[i] (List.getElem_mem hlt) lf (deep - 1) hn (by omega) (by omega) (by omega)
        have hN : 1 ≤ Nn t.f3[i] := by rw [Nn_eq]; omega
        rw [mx_drop_cons _ _ _ hlt, sum_drop_cons _ _ _ hlt]
        obtain ⟨r, e2, g2, q2, s2⟩ := ihd (i + 1) r1 (by omega) (by omega) g1
        refine ⟨r, ?_, g2, ?_, ?_⟩
        · refine Ev.step (fun k => by rw [spec_l01Room.l0]) ?_
          refine Ev.pos (by omega) ?_
          refine Ev.pos (by omega) ?_
          refine Ev.pos (by omega) ?_
          rw [rd53 _ _ hlt, pt_wrap (x := deep - 1) (by omega) (by omega)]
          refine Ev.bind e1 ?_
          rw [pt_wrap (x := (i : Int) + 1) (by omega) (by omega)]
          exact e2
        · omega
        · omega
      · refine ⟨lf, ?_, hl0, ?_, ?_⟩
        · refine Ev.step (fun k => by rw [spec_l01Room.l0]) ?_
          refine Ev.pos (by omega) ?_
          refine Ev.neg (by omega) ?_
          exact Ev.now _
        · omega
        · omega
  obtain ⟨r, e, g, q, s⟩ := loop t.f3.length 0 (left - 1) (by omega) (by omega) (by omega)
  rw [List.drop_zero] at q s
  refine ⟨r, ?_, g, by omega, by omega⟩
  refine Ev.step (fun k => by rw [spec_l01Room.f]) ?_
  refine Ev.neg hd ?_
  rw [pt_wrap (x := left - 1) (by omega) (by omega)]
  exact e
def OKT (t : S53) : Bool := decide (Nn t ≤ 1000 ∧ Dd t ≤ 60) && Rt t
theorem ok_s (t : S53) (ht : FitI t) : Ev (fun k => spec_TreeOK.f k t.f0 t.f1 t.f2 t.f3) (OKT t) := by
  obtain ⟨r, e, g, q, s⟩ := room_s t 1000 60 (by omega) (by omega) (by omega) (by omega)
  unfold spec_TreeOK.f OKT
  refine Ev.bind e ?_
  by_cases h : r ≥ 0
  · refine Ev.pos h ?_
    rw [decide_eq_true (by omega), Bool.true_and]
    exact Ev.bind (right_s t ht) (Ev.now _)
  · refine Ev.neg h ?_
    rw [decide_eq_false (by omega)]
    exact Ev.now _
theorem mea_i (t : S53) (ht : FitI t) : ∀ d n dp : Int, 1 ≤ d → d ≤ 61 → 0 ≤ n → n ≤ 1000 → ∃ b n' dp', Ev (fun k => impl_measure.f k t.f0 t.f1 t.f2 t.f3 d n dp) (b, n', dp') ∧ (b = true ↔ (Rt t = true ∧ n + Nn t ≤ 1000 ∧ d + Dd t ≤ 61)) ∧ (b = true → n' = n + Nn t) := by
  induction t using ind53 with
  | h t ih =>
  obtain ⟨b3, bk⟩ := ht.inv
  intro d n dp h0 h1 h2 h3
  rw [Nn_eq, Dd_eq, Rt_eq]
  have loop : ∀ c i (n dp : Int), d ≤ 60 → i + c = t.f3.length → 0 ≤ n → n ≤ 1000 → ∃ b n' dp', Ev (fun k => impl_measure.l0 k t.f3 d (i : Int) n dp) (b, n', dp') ∧ (b = true ↔ ((t.f3.drop i).all Rt = true ∧ n + (((t.f3.drop i).map Nn).sum : Nat) ≤ 1000 ∧ d + 1 + (mxL ((t.f3.drop i).map Dd) : Nat) ≤ 61)) ∧ (b = true → n' = n + (((t.f3.drop i).map Nn).sum : Nat)) := by
    intro c
    induction c with
    | zero =>
      intro i n dp hd hi hn0 hn1
      rw [List.drop_eq_nil_of_le (by omega)]
      refine ⟨true, n, dp, ?_, ?_, ?_⟩
      · refine Ev.step (fun k => by rw [impl_measure.l0]) ?_
        refine Ev.neg (by omega) ?_
        exact Ev.now _
      · simp [mxL]
        omega
      · simp
    | succ c ihd =>
      intro i n dp hd hi hn0 hn1
      have hlt : i < t.f3.length := by omega
      obtain ⟨b1, n1, dp1, e1, q1, s1⟩ := ih t.f3[i] (List.getElem_mem hlt) (bk _ (List.getElem_mem hlt)) (d + 1) n dp (by omega) (by omega) hn0 hn1
      rw [mx_drop_cons _ _ _ hlt, sum_drop_cons _ _ _ hlt, all_drop_cons _ _ _ hlt, Bool.and_eq_true]
      cases b1 with
      | false =>
        refine ⟨false, n1, dp1, ?_, ?_, by simp⟩
        · refine Ev.step (fun k => by rw [impl_measure.l0]) ?_
          refine Ev.pos (by omega) ?_
          refine Ev.pos (by omega) ?_
          rw [rd53 _ _ hlt, pt_wrap (x := d + 1) (by omega) (by omega)]
          refine Ev.bind e1 ?_
          exact Ev.neg (by simp) (Ev.now _)
        · refine ⟨fun h => Bool.noConfusion h, fun h => ?_⟩
          exact q1.2 ⟨h.1.1, by omega, by omega⟩
      | true =>
        have q1' := q1.1 rfl
        have s1' := s1 rfl
        obtain ⟨b, n', dp', e2, q2, s2⟩ := ihd (i + 1) n1 dp1 hd (by omega) (by omega) (by omega)
        refine ⟨b, n', dp', ?_, ?_, ?_⟩
        · refine Ev.step (fun k => by rw [impl_measure.l0]) ?_
          refine Ev.pos (by omega) ?_
          refine Ev.pos (by omega) ?_
          rw [rd53 _ _ hlt, pt_wrap (x := d + 1) (by omega) (by omega)]
          refine Ev.bind e1 ?_
          refine Ev.pos rfl ?_
          rw [pt_wrap (x := (i : Int) + 1) (by omega) (by omega)]
          exact e2
        · rw [q2]
          refine ⟨fun h => ⟨⟨q1'.1, h.1⟩, by omega, by omega⟩, fun h => ⟨h.1.2, by omega, by omega⟩⟩
        · intro h
          have := s2 h
          omega
  have w1 : wrap64 (n + 1) = n + 1 := pt_wrap (by omega) (by omega)
  by_cases c1 : n + 1 > 1000
  · refine ⟨false, n + 1, mx dp d, ?_, ?_, by simp⟩
    · refine Ev.step (fun k => by rw [impl_measure.f, w1]) ?_
      exact Ev.pos c1 (Ev.now _)
    · refine ⟨fun h => (Bool.noConfusion h), fun h => by omega⟩
  by_cases c2 : d > 60
  · refine ⟨false, n + 1, mx dp d, ?_, ?_, by simp⟩
    · refine Ev.step (fun k => by rw [impl_measure.f, w1]) ?_
      refine Ev.neg c1 ?_
      exact Ev.pos c2 (Ev.now _)
    · refine ⟨fun h => (Bool.noConfusion h), fun h => by omega⟩
  cases c3 : NmB t.f0 with
  | false =>
    refine ⟨false, n + 1, mx dp d, ?_, by simp, by simp⟩
    refine Ev.step (fun k => by rw [impl_measure.f, w1]) ?_
    refine Ev.neg c1 ?_
    refine Ev.neg c2 ?_
    refine Ev.bind (name_i t.f0) ?_
    rw [c3]
    exact Ev.neg (by simp) (Ev.now _)
  | true =>
  by_cases c4 : t.f2 = true
  · rw [if_pos c4, Bool.true_and]
    by_cases c5 : (t.f3.length : Int) = 0
    · have hnil : t.f3 = [] := List.eq_nil_of_length_eq_zero (by omega)
      refine ⟨decide ((t.f1.size : Int) ≤ 200), n + 1, mx dp d, ?_, ?_, ?_⟩
      · refine Ev.step (fun k => by rw [impl_measure.f, w1]) ?_
        refine Ev.neg c1 ?_
        refine Ev.neg c2 ?_
        refine Ev.bind (name_i t.f0) ?_
        rw [c3]
        refine Ev.pos rfl ?_
        refine Ev.pos c4 ?_
        exact Ev.pos c5 (Ev.now _)
      · rw [hnil]
        simp [mxL]
        omega
      · rw [hnil]
        simp
    · refine ⟨false, n + 1, mx dp d, ?_, ?_, by simp⟩
      · refine Ev.step (fun k => by rw [impl_measure.f, w1]) ?_
        refine Ev.neg c1 ?_
        refine Ev.neg c2 ?_
        refine Ev.bind (name_i t.f0) ?_
        rw [c3]
        refine Ev.pos rfl ?_
        refine Ev.pos c4 ?_
        exact Ev.neg c5 (Ev.now _)
      · rw [decide_eq_false (by omega)]
        simp
  · rw [if_neg c4, Bool.true_and]
    by_cases c5 : t.f1.toList = []
    · obtain ⟨b, n', dp', e, q, s⟩ := loop t.f3.length 0 (n + 1) (mx dp d) (by omega) (by omega) (by omega) (by omega)
      rw [List.drop_zero] at q s
      rw [decide_eq_true c5, Bool.true_and]
      refine ⟨b, n', dp', ?_, ?_, ?_⟩
      · refine Ev.step (fun k => by rw [impl_measure.f, w1]) ?_
        refine Ev.neg c1 ?_
        refine Ev.neg c2 ?_
        refine Ev.bind (name_i t.f0) ?_
        rw [c3]
        refine Ev.pos rfl ?_
        refine Ev.neg c4 ?_
        exact Ev.pos c5 e
      · rw [q]
        refine ⟨fun h => ⟨h.1, by omega, by omega⟩, fun h => ⟨h.1, by omega, by omega⟩⟩
      · intro h
        have := s h
        omega
    · refine ⟨false, n + 1, mx dp d, ?_, ?_, by simp⟩
      · refine Ev.step (fun k => by rw [impl_measure.f, w1]) ?_
        refine Ev.neg c1 ?_
        refine Ev.neg c2 ?_
        refine Ev.bind (name_i t.f0) ?_
        rw [c3]
        refine Ev.pos rfl ?_
        refine Ev.neg c4 ?_
        exact Ev.neg c5 (Ev.now _)
      · rw [decide_eq_false c5]
        simp
theorem ok_i (t : S53) (ht : FitI t) : Ev (fun k => impl_TreeOK.f k t.f0 t.f1 t.f2 t.f3) (OKT t) := by
  obtain ⟨b, n, dp, e, q, s⟩ := mea_i t ht 1 0 0 (by omega) (by omega) (by omega) (by omega)
  unfold impl_TreeOK.f OKT
  refine Ev.bind e ?_
  have : b = (decide (Nn t ≤ 1000 ∧ Dd t ≤ 60) && Rt t) := by
    rw [Bool.eq_iff_iff, q, Bool.and_eq_true, decide_eq_true_iff]
    refine ⟨fun h => ⟨⟨by omega, by omega⟩, h.1⟩, fun h => ⟨h.2, by omega, by omega⟩⟩
  rw [← this]
  exact Ev.now _
def shw : S53 → List Int
  | ⟨a, b, c, l⟩ => if c = true then bytesOf a ++ [34] ++ (bytesOf b).flatMap escB ++ [34] else [40] ++ bytesOf a ++ (l.attach.map fun x => [32] ++ shw x.1).flatten ++ [41]
termination_by t => SizeOf.sizeOf t
decreasing_by
  have := List.sizeOf_lt_of_mem x.2
  simp
  omega
def shk (t : S53) : List Int := [32] ++ shw t
theorem shw_eq (t : S53) : shw t = if t.f2 = true then bytesOf t.f0 ++ [34] ++ (bytesOf t.f1).flatMap escB ++ [34] else [40] ++ bytesOf t.f0 ++ (t.f3.map shk).flatten ++ [41] := by
  obtain ⟨a, b, c, l⟩ := t
  unfold shw
  have : (l.attach.map fun x => [32] ++ shw x.1) = l.map shk := by
    rw [List.attach_map_val (f := fun x => [32] ++ shw x)]
    rfl
  simp only [this]
theorem esc_len (c : Int) : 1 ≤ (escB c).length ∧ (escB c).length ≤ 4 := by
  unfold escB
  repeat' split
  all_goals simp
theorem esc_all (c : Int) (h : 0 ≤ c ∧ c ≤ 255) : ∀ x ∈ escB c, 0 ≤ x ∧ x ≤ 255 := by
  unfold escB
  repeat' split
  all_goals simp <;> omega
theorem flat_len (l : List Int) : (l.flatMap escB).length ≤ 4 * l.length ∧ l.length ≤ (l.flatMap escB).length := by
  induction l with
  | nil => simp
  | cons a l ih =>
    have := esc_len a
    simp only [List.flatMap_cons, List.length_append, List.length_cons]
    omega
theorem bytes_range (s : ByteArray) : ∀ x ∈ bytesOf s, 0 ≤ x ∧ x ≤ 255 := by
  intro x hx
  obtain ⟨b, hb, rfl⟩ := List.mem_map.1 hx
  have := b.toNat_lt
  omega
theorem shw_all (t : S53) : ∀ x ∈ shw t, 0 ≤ x ∧ x ≤ 255 := by
  induction t using ind53 with
  | h t ih =>
  intro x hx
  rw [shw_eq] at hx
  split at hx
  · simp only [List.mem_append, List.mem_flatMap, List.mem_singleton] at hx
    rcases hx with ((hx | hx) | ⟨c, hc, hx⟩) | hx
    · exact bytes_range _ x hx
    · omega
    · exact esc_all c (bytes_range _ c hc) x hx
    · omega
  · simp only [List.mem_append, List.mem_flatten, List.mem_map, List.mem_singleton] at hx
    rcases hx with ((hx | hx) | ⟨c, ⟨u, hu, rfl⟩, hx⟩) | hx
    · omega
    · exact bytes_range _ x hx
    · simp only [shk, List.mem_append, List.mem_singleton] at hx
      rcases hx with hx | hx
      · omega
      · exact ih u hu x hx
    · omega
theorem nm_size (s : ByteArray) (h : NmB s = true) : s.size ≤ 24 := by
  simp only [NmB, Bool.and_eq_true, decide_eq_true_eq] at h
  omega
theorem sum_flat (l : List S53) (h : ∀ u ∈ l, (shw u).length + 1 ≤ 827 * Nn u) : (l.map shk).flatten.length ≤ 827 * (l.map Nn).sum := by
  induction l with
  | nil => simp
  | cons a l ih =>
    have h1 := h a (by simp)
    have h2 := ih (fun u hu => h u (by simp [hu]))
    simp only [List.map_cons, List.flatten_cons, List.length_append, List.sum_cons, shk, List.length_cons, List.length_nil]
    omega
theorem Rt_kid (t : S53) (h : Rt t = true) : ∀ u ∈ t.f3, Rt u = true := by
  rw [Rt_eq, Bool.and_eq_true, Bool.and_eq_true] at h
  exact List.all_eq_true.1 h.2.2
theorem Rt_name (t : S53) (h : Rt t = true) : t.f0.size ≤ 24 := by
  rw [Rt_eq, Bool.and_eq_true] at h
  exact nm_size _ h.1
theorem Rt_leaf (t : S53) (h : Rt t = true) (hc : t.f2 = true) : t.f3.length = 0 ∧ t.f1.size ≤ 200 := by
  rw [Rt_eq, Bool.and_eq_true, Bool.and_eq_true, if_pos hc] at h
  simpa using h.2.1
theorem shw_len (t : S53) (h : Rt t = true) : (shw t).length + 1 ≤ 827 * Nn t := by
  induction t using ind53 with
  | h t ih =>
  have h1 := Rt_name t h
  have h2 := sum_flat t.f3 (fun u hu => ih u hu (Rt_kid t h u hu))
  rw [shw_eq, Nn_eq]
  split
  · rename_i hc
    have h3 := Rt_leaf t h hc
    have h4 := flat_len (bytesOf t.f1)
    have h5 := bytesOf_length t.f1
    have h6 := bytesOf_length t.f0
    simp only [List.length_append, List.length_cons, List.length_nil]
    omega
  · have h6 := bytesOf_length t.f0
    simp only [List.length_append, List.length_cons, List.length_nil]
    omega
theorem Nn_kids (l : List S53) : l.length ≤ (l.map Nn).sum := by
  induction l with
  | nil => simp
  | cons a l ih =>
    have : 1 ≤ Nn a := by rw [Nn_eq]; omega
    simp only [List.map_cons, List.sum_cons, List.length_cons]
    omega
theorem Nn_kid (l : List S53) (u : S53) (h : u ∈ l) : Nn u ≤ (l.map Nn).sum := by
  induction l with
  | nil => cases h
  | cons a l ih =>
    simp only [List.map_cons, List.sum_cons]
    rcases List.mem_cons.1 h with rfl | h
    · omega
    · have := ih h
      omega
theorem flat_drop (s : ByteArray) (i : Nat) (h : i < s.size) : ((bytesOf s).drop i).flatMap escB = escB (bt s i) ++ ((bytesOf s).drop (i + 1)).flatMap escB := by
  have h' : i < (bytesOf s).length := by rw [bytesOf_length]; exact h
  rw [List.drop_eq_getElem_cons h', List.flatMap_cons, bytesOf_at]
theorem kids_drop (l : List S53) (i : Nat) (h : i < l.length) : ((l.drop i).map shk).flatten = [32] ++ shw l[i] ++ ((l.drop (i + 1)).map shk).flatten := by
  rw [List.drop_eq_getElem_cons h, List.map_cons, List.flatten_cons]
  rfl
theorem show_i (t : S53) (h : Rt t = true) (hn : Nn t ≤ 1000) : ∀ acc : List Int, acc.length + 827 * Nn t ≤ 1000000 → Ev (fun k => impl_show.f k t.f0 t.f1 t.f2 t.f3 acc) (acc ++ shw t) := by
  induction t using ind53 with
  | h t ih =>
  intro acc ha
  rw [Nn_eq] at hn ha
  have hl := Nn_kids t.f3
  have hnm := Rt_name t h
  have hkid : ∀ u ∈ t.f3, (shw u).length + 1 ≤ 827 * Nn u := fun u hu => shw_len u (Rt_kid t h u hu)
  have hb0 := bytesOf_length t.f0
  by_cases hc : t.f2 = true
  · rw [shw_eq, if_pos hc]
    have htx := (Rt_leaf t h hc).2
    have loop : ∀ d i (ac : List Int), i + d = t.f1.size → ac.length + 4 * d ≤ 1000000 → Ev (fun k => impl_show.l1 k t.f1 (i : Int) ac) (ac ++ (((bytesOf t.f1).drop i).flatMap escB ++ [34])) := by
      intro d
      induction d with
      | zero =>
        intro i ac hi hac
        rw [List.drop_eq_nil_of_le (by rw [bytesOf_length]; omega)]
        refine Ev.step (fun k => by rw [impl_show.l1]) ?_
        refine Ev.neg (by omega) ?_
        refine Ev.pos (by omega) ?_
        exact Ev.now _
      | succ d ihd =>
        intro i ac hi hac
        have he := esc_len (bt t.f1 i)
        rw [flat_drop _ _ (by omega)]
        refine Ev.step (fun k => by rw [impl_show.l1]) ?_
        refine Ev.pos (by omega) ?_
        refine Ev.pos (by omega) ?_
        refine Ev.pos (by omega) ?_
        rw [pt_wrap (x := (i : Int) + 1) (by omega) (by omega)]
        have := ihd (i + 1) (ac ++ escB (bt t.f1 i)) (by omega) (by simp only [List.length_append]; omega)
        simp only [List.append_assoc] at this ⊢
        exact this
    refine Ev.step (fun k => by rw [impl_show.f]) ?_
    refine Ev.pos hc ?_
    refine Ev.pos (by omega) ?_
    have := loop t.f1.size 0 (acc ++ bytesOf t.f0 ++ [34]) (by omega) (by simp only [List.length_append, List.length_cons, List.length_nil]; omega)
    simp only [List.append_assoc, List.drop_zero] at this ⊢
    exact this
  · rw [shw_eq, if_neg hc]
    have loop : ∀ d i (ac : List Int), i + d = t.f3.length → ac.length + 827 * ((t.f3.drop i).map Nn).sum + 1 ≤ 1000000 → Ev (fun k => impl_show.l0 k t.f3 (i : Int) ac) (ac ++ (((t.f3.drop i).map shk).flatten ++ [41])) := by
      intro d
      induction d with
      | zero =>
        intro i ac hi hac
        rw [List.drop_eq_nil_of_le (by omega)]
        refine Ev.step (fun k => by rw [impl_show.l0]) ?_
        refine Ev.neg (by omega) ?_
        refine Ev.pos (by omega) ?_
        exact Ev.now _
      | succ d ihd =>
        intro i ac hi hac
        have hlt : i < t.f3.length := by omega
        have hm := List.getElem_mem hlt
        rw [sum_drop_cons _ _ _ hlt] at hac
        have hk := hkid _ hm
        have hkn := Nn_kid _ _ hm
        have e := ih _ hm (Rt_kid t h _ hm) (by omega) (ac ++ [32]) (by simp only [List.length_append, List.length_cons, List.length_nil]; omega)
        rw [kids_drop _ _ hlt]
        refine Ev.step (fun k => by rw [impl_show.l0]) ?_
        refine Ev.pos (by omega) ?_
        refine Ev.pos (by omega) ?_
        refine Ev.pos (by omega) ?_
        rw [rd53 _ _ hlt]
        refine Ev.bind e ?_
        rw [pt_wrap (x := (i : Int) + 1) (by omega) (by omega)]
        have := ihd (i + 1) (ac ++ [32] ++ shw t.f3[i]) (by omega) (by simp only [List.length_append, List.length_cons, List.length_nil]; omega)
        simp only [List.append_assoc] at this ⊢
        exact this
    refine Ev.step (fun k => by rw [impl_show.f]) ?_
    refine Ev.neg hc ?_
    refine Ev.pos (by omega) ?_
    have := loop t.f3.length 0 (acc ++ [40] ++ bytesOf t.f0) (by omega) (by simp only [List.length_append, List.length_cons, List.length_nil, List.drop_zero]; omega)
    simp only [List.append_assoc, List.drop_zero] at this ⊢
    exact this
theorem text_i (t : S53) (h : Rt t = true) (hn : Nn t ≤ 1000) : Ev (fun k => impl_text.f k t.f0 t.f1 t.f2 t.f3) (strOfNums (shw t)) := by
  unfold impl_text.f
  refine Ev.bind (show_i t h hn [] (by simp; omega)) ?_
  refine Ev.pos ?_ ?_
  · rw [List.nil_append, List.all_eq_true]
    intro x hx
    have := shw_all t x hx
    simp
    omega
  · exact Ev.now _
theorem ba_ext {a b : ByteArray} (h : a.data.toList = b.data.toList) : a = b := by
  cases a with
  | mk a =>
    cases b with
    | mk b =>
      cases a
      cases b
      simp at h
      rw [h]
theorem son_append (a b : List Int) : strOfNums (a ++ b) = strOfNums a ++ strOfNums b := by
  apply ba_ext
  rw [strOfNums_data, List.map_append, ByteArray.data_append, Array.toList_append, strOfNums_data, strOfNums_data]
theorem son_bytes (s : ByteArray) : strOfNums (bytesOf s) = s := by
  apply ba_ext
  rw [strOfNums_data, bytesOf, List.map_map]
  conv => rhs; rw [← List.map_id s.data.toList]
  apply List.map_congr_left
  intro b hb
  simp
theorem quote_s (s : ByteArray) (hs : s.size ≤ 200) : Ev (fun k => spec_l01Quote.f k s) (strOfNums ([34] ++ (bytesOf s).flatMap escB ++ [34])) := by
  have loop : ∀ d i (ac : List Int), i + d = s.size → ac.length + 4 * d ≤ 1000000 → Ev (fun k => spec_l01Quote.l0 k s ac (i : Int)) (strOfNums (ac ++ (((bytesOf s).drop i).flatMap escB ++ [34]))) := by
    intro d
    induction d with
    | zero =>
      intro i ac hi hac
      rw [List.drop_eq_nil_of_le (by rw [bytesOf_length]; omega)]
      refine Ev.step (fun k => by rw [spec_l01Quote.l0]) ?_
      refine Ev.neg (by omega) ?_
      refine Ev.pos (by omega) ?_
      exact Ev.now _
    | succ d ihd =>
      intro i ac hi hac
      have he := esc_len (bt s i)
      have hr := bt_range s i
      have h := ihd (i + 1) (ac ++ escB (bt s i)) (by omega) (by simp only [List.length_append]; omega)
      rw [flat_drop _ _ (by omega)]
      rw [List.append_assoc, ← List.append_assoc] at h
      have e3 : ((i + 1 : Nat) : Int) = (i : Int) + 1 := by omega
      rw [e3] at h
      have hw : wrap64 ((i : Int) + 1) = (i : Int) + 1 := pt_wrap (by omega) (by omega)
      refine Ev.step (fun k => by rw [spec_l01Quote.l0]) ?_
      refine Ev.pos (by omega) ?_
      refine Ev.pos (by omega) ?_
      have esc : ∀ c, 0 ≤ c → c ≤ 255 → ([92, (48 + ((Int.tdiv c 100) % 256)) % 256, 48 + (((Int.tdiv c 10) % 256) % 10), (48 + (Int.tmod c 10)) % 256] : List Int) = [92, 48 + c / 100, 48 + c / 10 % 10, 48 + c % 10] := by
        intro c h0 h1
        rw [Int.tdiv_eq_ediv_of_nonneg h0, Int.tdiv_eq_ediv_of_nonneg h0, Int.tmod_eq_emod_of_nonneg h0]
        simp only [List.cons.injEq, and_true, true_and]
        omega
      by_cases c1 : bt s i = 34
      · refine Ev.pos c1 ?_
        refine Ev.step (fun k => by rw [spec_l01Quote.j1]) ?_
        refine Ev.pos rfl ?_
        have e : escB (bt s i) = [92, bt s i] := by unfold escB; rw [if_pos c1]
        rw [e] at h he ⊢
        simp only [Option.bind_some]
        refine Ev.pos (by simp; omega) ?_
        rw [hw]
        simp only [List.append_assoc] at h ⊢
        exact h
      · refine Ev.neg c1 ?_
        refine Ev.step (fun k => by rw [spec_l01Quote.j1]) ?_
        by_cases c2 : bt s i = 92
        · refine Ev.pos (by simp [c2]) ?_
          have e : escB (bt s i) = [92, bt s i] := by unfold escB; rw [if_neg c1, if_pos c2]
          rw [e] at h he ⊢
          simp only [Option.bind_some]
          refine Ev.pos (by simp; omega) ?_
          rw [hw]
          simp only [List.append_assoc] at h ⊢
          exact h
        · refine Ev.neg (by simp [c2]) ?_
          by_cases c3 : bt s i ≥ 32
          · refine Ev.pos c3 ?_
            by_cases c4 : bt s i ≤ 126
            · refine Ev.pos c4 ?_
              have e : escB (bt s i) = [bt s i] := by unfold escB; rw [if_neg c1, if_neg c2, if_pos c3, if_pos c4]
              rw [e] at h he ⊢
              refine Ev.pos (by omega) ?_
              rw [hw]
              simp only [List.append_assoc] at h ⊢
              exact h
            · refine Ev.neg c4 ?_
              have e : escB (bt s i) = [92, 48 + bt s i / 100, 48 + bt s i / 10 % 10, 48 + bt s i % 10] := by unfold escB; rw [if_neg c1, if_neg c2, if_pos c3, if_neg c4]
              rw [e] at h he ⊢
              simp only [Option.bind_some]
              rw [esc _ hr.1 hr.2]
              refine Ev.pos (by simp; omega) ?_
              rw [hw]
              simp only [List.append_assoc] at h ⊢
              exact h
          · refine Ev.neg c3 ?_
            have e : escB (bt s i) = [92, 48 + bt s i / 100, 48 + bt s i / 10 % 10, 48 + bt s i % 10] := by unfold escB; rw [if_neg c1, if_neg c2, if_neg c3]
            rw [e] at h he ⊢
            simp only [Option.bind_some]
            rw [esc _ hr.1 hr.2]
            refine Ev.pos (by simp; omega) ?_
            rw [hw]
            simp only [List.append_assoc] at h ⊢
            exact h
  have h := loop s.size 0 [34] (by omega) (by simp; omega)
  simp only [List.append_assoc, List.drop_zero] at h ⊢
  exact h
theorem show_s (t : S53) (h : Rt t = true) (hn : Nn t ≤ 1000) : Ev (fun k => spec_l01Show.f k t.f0 t.f1 t.f2 t.f3) (strOfNums (shw t)) := by
  induction t using ind53 with
  | h t ih =>
  have hlen := shw_len t h
  rw [Nn_eq] at hn hlen
  have hl := Nn_kids t.f3
  have hnm := Rt_name t h
  have hkid : ∀ u ∈ t.f3, (shw u).length + 1 ≤ 827 * Nn u := fun u hu => shw_len u (Rt_kid t h u hu)
  have hb0 := bytesOf_length t.f0
  by_cases hc : t.f2 = true
  · rw [shw_eq, if_pos hc]
    have htx := (Rt_leaf t h hc).2
    have hfl := flat_len (bytesOf t.f1)
    have hb1 := bytesOf_length t.f1
    refine Ev.step (fun k => by rw [spec_l01Show.f]) ?_
    refine Ev.pos hc ?_
    refine Ev.bind (quote_s t.f1 htx) ?_
    refine Ev.pos (by rw [strOfNums_size]; simp only [List.length_append, List.length_cons, List.length_nil]; omega) ?_
    have e : t.f0 ++ strOfNums ([34] ++ (bytesOf t.f1).flatMap escB ++ [34]) = strOfNums (bytesOf t.f0 ++ [34] ++ (bytesOf t.f1).flatMap escB ++ [34]) := by
      conv => lhs; rw [← son_bytes t.f0]
      rw [← son_append]
      simp only [List.append_assoc]
    rw [e]
    exact Ev.now _
  · rw [shw_eq, if_neg hc]
    have b1 : ∀ a : ByteArray, a ++ (⟨#[32]⟩ : ByteArray) = a ++ strOfNums [32] := fun a => rfl
    have b2 : ∀ a : ByteArray, a ++ (⟨#[41]⟩ : ByteArray) = a ++ strOfNums [41] := fun a => rfl
    have loop : ∀ d i (ac : List Int), i + d = t.f3.length → ac.length + 827 * ((t.f3.drop i).map Nn).sum ≤ 1000000 → Ev (fun k => spec_l01Show.l0 k (strOfNums ac) (i : Int) t.f0 t.f1 t.f2 t.f3) (strOfNums (ac ++ (((t.f3.drop i).map shk).flatten ++ [41]))) := by
      intro d
      induction d with
      | zero =>
        intro i ac hi hac
        rw [List.drop_eq_nil_of_le (by omega)]
        refine Ev.step (fun k => by rw [spec_l01Show.l0]) ?_
        refine Ev.neg (by omega) ?_
        refine Ev.pos (by rw [strOfNums_size]; omega) ?_
        rw [b2, ← son_append]
        exact Ev.now _
      | succ d ihd =>
        intro i ac hi hac
        have hlt : i < t.f3.length := by omega
        have hm := List.getElem_mem hlt
        rw [sum_drop_cons _ _ _ hlt] at hac
        have hk := hkid _ hm
        have hkn := Nn_kid _ _ hm
        have e := ih _ hm (Rt_kid t h _ hm) (by omega)
        rw [kids_drop _ _ hlt]
        refine Ev.step (fun k => by rw [spec_l01Show.l0]) ?_
        refine Ev.pos (by omega) ?_
        refine Ev.pos (by rw [strOfNums_size]; omega) ?_
        refine Ev.pos (by omega) ?_
        rw [rd53 _ _ hlt]
        refine Ev.bind e ?_
        rw [b1, ← son_append]
        refine Ev.pos (by rw [strOfNums_size, strOfNums_size]; simp only [List.length_append, List.length_cons, List.length_nil]; omega) ?_
        rw [← son_append, pt_wrap (x := (i : Int) + 1) (by omega) (by omega)]
        have := ihd (i + 1) (ac ++ [32] ++ shw t.f3[i]) (by omega) (by simp only [List.length_append, List.length_cons, List.length_nil]; omega)
        simp only [List.append_assoc] at this ⊢
        exact this
    refine Ev.step (fun k => by rw [spec_l01Show.f]) ?_
    refine Ev.neg hc ?_
    refine Ev.pos (by omega) ?_
    have e : (⟨#[40]⟩ : ByteArray) ++ t.f0 = strOfNums ([40] ++ bytesOf t.f0) := by
      rw [son_append, son_bytes]
      rfl
    rw [e]
    have := loop t.f3.length 0 ([40] ++ bytesOf t.f0) (by omega) (by simp only [List.length_append, List.length_cons, List.length_nil, List.drop_zero]; omega)
    simp only [List.append_assoc, List.drop_zero] at this ⊢
    exact this
end Go.Proofs.Ytgdecbliegelmaa.Q
