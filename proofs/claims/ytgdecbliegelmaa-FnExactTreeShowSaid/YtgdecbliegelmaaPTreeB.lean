/- Right trees, plainly: the spec's count and the program's count agree; what both draw. -/
import Derived.Test.YtgdecbliegelmaaPTreeA
import Derived.Test.YtgdecbliegelmaaQspecTreeOK
import Derived.Test.YtgdecbliegelmaaQimplTreeOK
import Derived.Test.YtgdecbliegelmaaQimpltext
import Derived.Test.YtgdecbliegelmaaQspecl01Show
namespace Go.Proofs.Ytgdecbliegelmaa.Q
open Go.RowKit Go.Proofs.YtgdecbliegelmaaW.PrintWords
set_option linter.unusedVariables false
def letB (c : Int) : Bool := if c ≥ 97 then (if c ≤ 122 then true else decide (c ≥ 65 ∧ c ≤ 90)) else decide (c ≥ 65 ∧ c ≤ 90)
def nmB (c : Int) : Bool := letB c || decide (c ≥ 48 ∧ c ≤ 57) || (c == 95)
theorem letter_s (c : Int) : spec_l01Letter.f c = some (letB c) := by
  unfold spec_l01Letter.f letB
  repeat' split
  all_goals simp <;> omega
theorem letter_i (c : Int) : impl_isLetter.f c = some (letB c) := by
  unfold impl_isLetter.f letB
  repeat' split
  all_goals simp <;> omega
theorem nm_s (c : Int) : spec_l01NameByte.f c = some (nmB c) := by
  unfold spec_l01NameByte.f nmB spec_l01Digit.f
  rw [letter_s]
  cases h : letB c
  · by_cases h1 : c ≥ 48 <;> by_cases h2 : c ≤ 57 <;> simp [h1, h2]
  · simp
theorem nm_i (c : Int) : impl_inName.f c = some (nmB c) := by
  unfold impl_inName.f nmB impl_isDigit.f
  rw [letter_i]
  cases h : letB c
  · by_cases h1 : c ≥ 48 <;> by_cases h2 : c ≤ 57 <;> simp [h1, h2]
  · simp
def nmL (s : ByteArray) (i : Nat) : Bool := ((bytesOf s).drop i).all nmB
theorem bytesOf_at (s : ByteArray) (i : Nat) (h : i < (bytesOf s).length) : (bytesOf s)[i] = bt s i := by
  have := rd_bytesOf s (i : Int)
  rw [← this]
  simp [rd, List.getD_eq_getElem?_getD, List.getElem?_eq_getElem h]
theorem nmL_step (s : ByteArray) (i : Nat) (h : i < s.size) : nmL s i = (nmB (bt s i) && nmL s (i + 1)) := by
  unfold nmL
  have h' : i < (bytesOf s).length := by rw [bytesOf_length]; exact h
  rw [List.drop_eq_getElem_cons h', List.all_cons, bytesOf_at]
theorem nmL_end (s : ByteArray) (i : Nat) (h : s.size ≤ i) : nmL s i = true := by
  unfold nmL
  rw [List.drop_eq_nil_of_le (by rw [bytesOf_length]; exact h)]
  rfl
def NmB (s : ByteArray) : Bool := decide (1 ≤ s.size ∧ s.size ≤ 24) && (letB (bt s 0) && nmL s 0)
theorem name_ls (s : ByteArray) (hs : s.size ≤ 24) : ∀ d i, i + d = s.size → Ev (fun k => spec_l01Name.l0 k s (i : Int)) (nmL s i) := by
  intro d
  induction d with
  | zero =>
    intro i hi
    rw [nmL_end s i (by omega)]
    refine Ev.step (fun k => by rw [spec_l01Name.l0]) ?_
    refine Ev.neg (by omega) ?_
    exact Ev.now _
  | succ d ih =>
    intro i hi
    rw [nmL_step s i (by omega)]
    refine Ev.step (fun k => by rw [spec_l01Name.l0]) ?_
    refine Ev.pos (by omega) ?_
    refine Ev.pos (by omega) ?_
    simp only [nm_s, Option.bind_some]
    cases h : nmB (bt s i)
    · exact Ev.neg (by simp) (Ev.now _)
    · refine Ev.pos rfl ?_
      rw [pt_wrap (x := (i : Int) + 1) (by omega) (by omega), Bool.true_and]
      exact ih (i + 1) (by omega)
theorem name_li (s : ByteArray) (hs : s.size ≤ 24) : ∀ d i, i + d = s.size → Ev (fun k => impl_nameOK.l0 k s (i : Int)) (nmL s i) := by
  intro d
  induction d with
  | zero =>
    intro i hi
    rw [nmL_end s i (by omega)]
    refine Ev.step (fun k => by rw [impl_nameOK.l0]) ?_
    refine Ev.neg (by omega) ?_
    exact Ev.now _
  | succ d ih =>
    intro i hi
    rw [nmL_step s i (by omega)]
    refine Ev.step (fun k => by rw [impl_nameOK.l0]) ?_
    refine Ev.pos (by omega) ?_
    refine Ev.pos (by omega) ?_
    simp only [nm_i, Option.bind_some]
    cases h : nmB (bt s i)
    · exact Ev.neg (by simp) (Ev.now _)
    · refine Ev.pos rfl ?_
      rw [pt_wrap (x := (i : Int) + 1) (by omega) (by omega), Bool.true_and]
      exact ih (i + 1) (by omega)
theorem name_s (s : ByteArray) : Ev (fun k => spec_l01Name.f k s) (NmB s) := by
  unfold NmB
  unfold spec_l01Name.f
  by_cases h1 : (s.size : Int) < 1
  · refine Ev.pos h1 ?_
    rw [decide_eq_false (by omega)]
    refine Ev.step (fun k => by rw [spec_l01Name.j0]) ?_
    exact Ev.pos rfl (Ev.now _)
  refine Ev.neg h1 ?_
  by_cases h2 : (s.size : Int) > 24
  · refine Ev.pos h2 ?_
    rw [decide_eq_false (by omega)]
    refine Ev.step (fun k => by rw [spec_l01Name.j0]) ?_
    exact Ev.pos rfl (Ev.now _)
  refine Ev.neg h2 ?_
  refine Ev.pos (by omega) ?_
  rw [decide_eq_true (by omega)]
  simp only [letter_s, Option.bind_some, Bool.true_and]
  refine Ev.step (fun k => by rw [spec_l01Name.j0]) ?_
  have h0 : nmL s 0 = (nmB (bt s 0) && nmL s 1) := nmL_step s 0 (by omega)
  cases h : letB (bt s 0)
  · exact Ev.pos rfl (Ev.now _)
  · refine Ev.neg (by simp) ?_
    have h3 : nmB (bt s 0) = true := by simp [nmB, h]
    rw [h0, h3, Bool.true_and, Bool.true_and]
    exact name_ls s (by omega) (s.size - 1) 1 (by omega)
theorem name_i (s : ByteArray) : Ev (fun k => impl_nameOK.f k s) (NmB s) := by
  unfold NmB
  unfold impl_nameOK.f
  by_cases h1 : (s.size : Int) < 1
  · refine Ev.pos h1 ?_
    rw [decide_eq_false (by omega)]
    refine Ev.step (fun k => by rw [impl_nameOK.j0]) ?_
    exact Ev.pos rfl (Ev.now _)
  refine Ev.neg h1 ?_
  by_cases h2 : (s.size : Int) > 24
  · refine Ev.pos h2 ?_
    rw [decide_eq_false (by omega)]
    refine Ev.step (fun k => by rw [impl_nameOK.j0]) ?_
    exact Ev.pos rfl (Ev.now _)
  refine Ev.neg h2 ?_
  refine Ev.pos (by omega) ?_
  rw [decide_eq_true (by omega)]
  simp only [letter_i, Option.bind_some, Bool.true_and]
  refine Ev.step (fun k => by rw [impl_nameOK.j0]) ?_
  cases h : letB (bt s 0)
  · exact Ev.pos rfl (Ev.now _)
  · refine Ev.neg (by simp) ?_
    rw [Bool.true_and]
    exact name_li s (by omega) s.size 0 (by omega)
/-- A right tree: names, texts and kids. -/
def Rt : S53 → Bool
  | ⟨a, b, c, l⟩ => NmB a && ((if c = true then decide (l.length = 0 ∧ b.size ≤ 200) else decide (b.toList = [])) && l.attach.all fun x => Rt x.1)
termination_by t => SizeOf.sizeOf t
decreasing_by
  have := List.sizeOf_lt_of_mem x.2
  simp
  omega
theorem Rt_eq (t : S53) : Rt t = (NmB t.f0 && ((if t.f2 = true then decide (t.f3.length = 0 ∧ t.f1.size ≤ 200) else decide (t.f1.toList = [])) && t.f3.all Rt)) := by
  obtain ⟨a, b, c, l⟩ := t
  unfold Rt
  simp only [List.all_subtype, List.unattach_attach]
def Nn : S53 → Nat
  | ⟨a, b, c, l⟩ => 1 + (l.attach.map fun x => Nn x.1).sum
termination_by t => SizeOf.sizeOf t
decreasing_by
  have := List.sizeOf_lt_of_mem x.2
  simp
  omega
theorem Nn_eq (t : S53) : Nn t = 1 + (t.f3.map Nn).sum := by
  obtain ⟨a, b, c, l⟩ := t
  unfold Nn
  rw [List.attach_map_val]
def mxL (l : List Nat) : Nat := l.foldr max 0
def Dd : S53 → Nat
  | ⟨a, b, c, l⟩ => 1 + mxL (l.attach.map fun x => Dd x.1)
termination_by t => SizeOf.sizeOf t
decreasing_by
  have := List.sizeOf_lt_of_mem x.2
  simp
  omega
theorem Dd_eq (t : S53) : Dd t = 1 + mxL (t.f3.map Dd) := by
  obtain ⟨a, b, c, l⟩ := t
  unfold Dd
  rw [List.attach_map_val]
theorem mx_drop_cons {α : Type} (f : α → Nat) (l : List α) (i : Nat) (h : i < l.length) : mxL ((l.drop i).map f) = max (f l[i]) (mxL ((l.drop (i + 1)).map f)) := by
  rw [List.drop_eq_getElem_cons h, List.map_cons]
  rfl
theorem all_drop_cons {α : Type} (f : α → Bool) (l : List α) (i : Nat) (h : i < l.length) : (l.drop i).all f = (f l[i] && (l.drop (i + 1)).all f) := by
  rw [List.drop_eq_getElem_cons h, List.all_cons]
theorem right_s (t : S53) (ht : FitI t) : Ev (fun k => spec_l01Right.f k t.f0 t.f1 t.f2 t.f3) (Rt t) := by
  induction t using ind53 with
  | h t ih =>
  obtain ⟨b3, bk⟩ := ht.inv
  have loop : ∀ d i, i + d = t.f3.length → Ev (fun k => spec_l01Right.l0 k (i : Int) t.f0 t.f1 t.f2 t.f3) ((t.f3.drop i).all Rt) := by
    intro d
    induction d with
    | zero =>
      intro i hi
      rw [List.drop_eq_nil_of_le (by omega)]
      refine Ev.step (fun k => by rw [spec_l01Right.l0]) ?_
      refine Ev.neg (by omega) ?_
      exact Ev.now _
    | succ d ihd =>
      intro i hi
      have hlt : i < t.f3.length := by omega
      have hk := ih t.f3[i] (List.getElem_mem hlt) (bk _ (List.getElem_mem hlt))
      rw [all_drop_cons _ _ _ hlt]
      refine Ev.step (fun k => by rw [spec_l01Right.l0]) ?_
      refine Ev.pos (by omega) ?_
      refine Ev.pos (by omega) ?_
      rw [rd53 _ _ hlt]
      refine Ev.bind hk ?_
      cases h : Rt t.f3[i]
      · exact Ev.neg (by simp) (Ev.now _)
      · refine Ev.pos rfl ?_
        rw [pt_wrap (x := (i : Int) + 1) (by omega) (by omega), Bool.true_and]
        exact ihd (i + 1) (by omega)
  have hl := loop t.f3.length 0 (by omega)
  rw [Rt_eq]
  refine Ev.step (fun k => by rw [spec_l01Right.f]) ?_
  refine Ev.bind (name_s t.f0) ?_
  cases hn : NmB t.f0
  · refine Ev.neg (by simp) ?_
    refine Ev.step (fun k => by rw [spec_l01Right.j0]) ?_
    exact Ev.pos rfl (Ev.now _)
  refine Ev.pos rfl ?_
  rw [Bool.true_and]
  by_cases hc : t.f2 = true
  · refine Ev.pos hc ?_
    rw [if_pos hc]
    by_cases h1 : (t.f3.length : Int) > 0
    · refine Ev.pos h1 ?_
      rw [decide_eq_false (by omega)]
      refine Ev.step (fun k => by rw [spec_l01Right.j0]) ?_
      exact Ev.pos rfl (Ev.now _)
    refine Ev.neg h1 ?_
    by_cases h2 : (t.f1.size : Int) > 200
    · refine Ev.pos h2 ?_
      rw [decide_eq_false (by omega)]
      refine Ev.step (fun k => by rw [spec_l01Right.j0]) ?_
      exact Ev.pos rfl (Ev.now _)
    refine Ev.neg h2 ?_
    rw [decide_eq_true (by omega), Bool.true_and]
    refine Ev.step (fun k => by rw [spec_l01Right.j0]) ?_
    refine Ev.neg (by simp) ?_
    exact hl
  · refine Ev.neg hc ?_
    rw [if_neg hc]
    refine Ev.step (fun k => by rw [spec_l01Right.j0]) ?_
    by_cases h1 : t.f1.toList = []
    · rw [decide_eq_true h1, Bool.true_and]
      refine Ev.neg (by simp [h1]) ?_
      exact hl
    · rw [decide_eq_false h1]
      refine Ev.pos (by simpa using h1) ?_
      exact Ev.now _
theorem room_s (t : S53) : ∀ left deep : Int, 0 ≤ left → left ≤ 1000 → 0 ≤ deep → deep ≤ 60 → ∃ r, Ev (fun k => spec_l01Room.f k t.f0 t.f1 t.f2 t.f3 left deep) r ∧ -1 ≤ r ∧ (0 ≤ r ↔ ((Nn t : Int) ≤ left ∧ (Dd t : Int) ≤ deep)) ∧ (0 ≤ r → r = left - Nn t) := by
  induction t using ind53 with
  | h t ih =>
  intro left deep h0 h1 h2 h3
  rw [Nn_eq, Dd_eq]
  by_cases hd : deep < 1
  · refine ⟨-1, ?_, by omega, by omega, by omega⟩
    refine Ev.step (fun k => by rw [spec_l01Room.f]) ?_
    exact Ev.pos hd (Ev.now _)
  have loop : ∀ d i (lf : Int), i + d = t.f3.length → i + lf ≤ 1000 → -1 ≤ lf → ∃ r, Ev (fun k => spec_l01Room.l0 k lf deep (i : Int) t.f0 t.f1 t.f2 t.f3) r ∧ -1 ≤ r ∧ (0 ≤ r ↔ ((((t.f3.drop i).map Nn).sum : Nat) : Int) ≤ lf ∧ ((mxL ((t.f3.drop i).map Dd) : Nat) : Int) ≤ deep - 1) ∧ (0 ≤ r → r = lf - (((t.f3.drop i).map Nn).sum : Nat)) := by
    intro d
    induction d with
    | zero =>
      intro i lf hi hl hl0
      rw [List.drop_eq_nil_of_le (by omega)]
      refine ⟨lf, ?_, hl0, ?_, ?_⟩
      · refine Ev.step (fun k => by rw [spec_l01Room.l0]) ?_
        refine Ev.neg (by omega) ?_
        exact Ev.now _
      · simp [mxL]
        omega
      · simp
    | succ d ihd =>
      intro i lf hi hl hl0
      have hlt : i < t.f3.length := by omega
      by_cases hn : 0 ≤ lf
      · obtain ⟨r1, e1, g1, q1, s1⟩ := ih t.f3[i] (List.getElem_mem hlt) lf (deep - 1) hn (by omega) (by omega) (by omega)
        have hN : 1 ≤ Nn t.f3[i] := by rw [Nn_eq]; omega
        rw [mx_drop_cons _ _ _ hlt, sum_drop_cons _ _ _ hlt]
        obtain ⟨r, e2, g2, q2, s2⟩ := ihd (i + 1) r1 (by omega) (by omega) g1
        refine ⟨r, ?_, g2, ?_, ?_⟩
        · refine Ev.step (fun k => by rw [spec_l01Room.l0]) ?_
          refine Ev.pos (by omega) ?_
          refine Ev.pos (by omega) ?_
          refine Ev.pos (by omega) ?_
          rw [rd53 _ _ hlt, pt_wrap (x := deep - 1) (by omega) (by omega)]
          refine Ev.bind e1 ?_
          rw [pt_wrap (x := (i : Int) + 1) (by omega) (by omega)]
          exact e2
        · omega
        · omega
      · refine ⟨lf, ?_, hl0, ?_, ?_⟩
        · refine Ev.step (fun k => by rw [spec_l01Room.l0]) ?_
          refine Ev.pos (by omega) ?_
          refine Ev.neg (by omega) ?_
          exact Ev.now _
        · omega
        · omega
  obtain ⟨r, e, g, q, s⟩ := loop t.f3.length 0 (left - 1) (by omega) (by omega) (by omega)
  rw [List.drop_zero] at q s
  refine ⟨r, ?_, g, by omega, by omega⟩
  refine Ev.step (fun k => by rw [spec_l01Room.f]) ?_
  refine Ev.neg hd ?_
  rw [pt_wrap (x := left - 1) (by omega) (by omega)]
  exact e
def OKT (t : S53) : Bool := decide (Nn t ≤ 1000 ∧ Dd t ≤ 60) && Rt t
theorem ok_s (t : S53) (ht : FitI t) : Ev (fun k => spec_TreeOK.f k t.f0 t.f1 t.f2 t.f3) (OKT t) := by
  obtain ⟨r, e, g, q, s⟩ := room_s t 1000 60 (by omega) (by omega) (by omega) (by omega)
  unfold spec_TreeOK.f OKT
  refine Ev.bind e ?_
  by_cases h : r ≥ 0
  · refine Ev.pos h ?_
    rw [decide_eq_true (by omega), Bool.true_and]
    exact Ev.bind (right_s t ht) (Ev.now _)
  · refine Ev.neg h ?_
    rw [decide_eq_false (by omega)]
    exact Ev.now _
theorem mea_i (t : S53) (ht : FitI t) : ∀ d n dp : Int, 1 ≤ d → d ≤ 61 → 0 ≤ n → n ≤ 1000 → ∃ b n' dp', Ev (fun k => impl_measure.f k t.f0 t.f1 t.f2 t.f3 d n dp) (b, n', dp') ∧ (b = true ↔ (Rt t = true ∧ n + Nn t ≤ 1000 ∧ d + Dd t ≤ 61)) ∧ (b = true → n' = n + Nn t) := by
  induction t using ind53 with
  | h t ih =>
  obtain ⟨b3, bk⟩ := ht.inv
  intro d n dp h0 h1 h2 h3
  rw [Nn_eq, Dd_eq, Rt_eq]
  have loop : ∀ c i (n dp : Int), d ≤ 60 → i + c = t.f3.length → 0 ≤ n → n ≤ 1000 → ∃ b n' dp', Ev (fun k => impl_measure.l0 k t.f3 d (i : Int) n dp) (b, n', dp') ∧ (b = true ↔ ((t.f3.drop i).all Rt = true ∧ n + (((t.f3.drop i).map Nn).sum : Nat) ≤ 1000 ∧ d + 1 + (mxL ((t.f3.drop i).map Dd) : Nat) ≤ 61)) ∧ (b = true → n' = n + (((t.f3.drop i).map Nn).sum : Nat)) := by
    intro c
    induction c with
    | zero =>
      intro i n dp hd hi hn0 hn1
      rw [List.drop_eq_nil_of_le (by omega)]
      refine ⟨true, n, dp, ?_, ?_, ?_⟩
      · refine Ev.step (fun k => by rw [impl_measure.l0]) ?_
        refine Ev.neg (by omega) ?_
        exact Ev.now _
      · simp [mxL]
        omega
      · simp
    | succ c ihd =>
      intro i n dp hd hi hn0 hn1
      have hlt : i < t.f3.length := by omega
      obtain ⟨b1, n1, dp1, e1, q1, s1⟩ := ih t.f3[i] (List.getElem_mem hlt) (bk _ (List.getElem_mem hlt)) (d + 1) n dp (by omega) (by omega) hn0 hn1
      rw [mx_drop_cons _ _ _ hlt, sum_drop_cons _ _ _ hlt, all_drop_cons _ _ _ hlt, Bool.and_eq_true]
      cases b1 with
      | false =>
        refine ⟨false, n1, dp1, ?_, ?_, by simp⟩
        · refine Ev.step (fun k => by rw [impl_measure.l0]) ?_
          refine Ev.pos (by omega) ?_
          refine Ev.pos (by omega) ?_
          rw [rd53 _ _ hlt, pt_wrap (x := d + 1) (by omega) (by omega)]
          refine Ev.bind e1 ?_
          exact Ev.neg (by simp) (Ev.now _)
        · refine ⟨fun h => Bool.noConfusion h, fun h => ?_⟩
          exact q1.2 ⟨h.1.1, by omega, by omega⟩
      | true =>
        have q1' := q1.1 rfl
        have s1' := s1 rfl
        obtain ⟨b, n', dp', e2, q2, s2⟩ := ihd (i + 1) n1 dp1 hd (by omega) (by omega) (by omega)
        refine ⟨b, n', dp', ?_, ?_, ?_⟩
        · refine Ev.step (fun k => by rw [impl_measure.l0]) ?_
          refine Ev.pos (by omega) ?_
          refine Ev.pos (by omega) ?_
          rw [rd53 _ _ hlt, pt_wrap (x := d + 1) (by omega) (by omega)]
          refine Ev.bind e1 ?_
          refine Ev.pos rfl ?_
          rw [pt_wrap (x := (i : Int) + 1) (by omega) (by omega)]
          exact e2
        · rw [q2]
          refine ⟨fun h => ⟨⟨q1'.1, h.1⟩, by omega, by omega⟩, fun h => ⟨h.1.2, by omega, by omega⟩⟩
        · intro h
          have := s2 h
          omega
  have w1 : wrap64 (n + 1) = n + 1 := pt_wrap (by omega) (by omega)
  by_cases c1 : n + 1 > 1000
  · refine ⟨false, n + 1, mx dp d, ?_, ?_, by simp⟩
    · refine Ev.step (fun k => by rw [impl_measure.f, w1]) ?_
      exact Ev.pos c1 (Ev.now _)
    · refine ⟨fun h => (Bool.noConfusion h), fun h => by omega⟩
  by_cases c2 : d > 60
  · refine ⟨false, n + 1, mx dp d, ?_, ?_, by simp⟩
    · refine Ev.step (fun k => by rw [impl_measure.f, w1]) ?_
      refine Ev.neg c1 ?_
      exact Ev.pos c2 (Ev.now _)
    · refine ⟨fun h => (Bool.noConfusion h), fun h => by omega⟩
  cases c3 : NmB t.f0 with
  | false =>
    refine ⟨false, n + 1, mx dp d, ?_, by simp, by simp⟩
    refine Ev.step (fun k => by rw [impl_measure.f, w1]) ?_
    refine Ev.neg c1 ?_
    refine Ev.neg c2 ?_
    refine Ev.bind (name_i t.f0) ?_
    rw [c3]
    exact Ev.neg (by simp) (Ev.now _)
  | true =>
  by_cases c4 : t.f2 = true
  · rw [if_pos c4, Bool.true_and]
    by_cases c5 : (t.f3.length : Int) = 0
    · have hnil : t.f3 = [] := List.eq_nil_of_length_eq_zero (by omega)
      refine ⟨decide ((t.f1.size : Int) ≤ 200), n + 1, mx dp d, ?_, ?_, ?_⟩
      · refine Ev.step (fun k => by rw [impl_measure.f, w1]) ?_
        refine Ev.neg c1 ?_
        refine Ev.neg c2 ?_
        refine Ev.bind (name_i t.f0) ?_
        rw [c3]
        refine Ev.pos rfl ?_
        refine Ev.pos c4 ?_
        exact Ev.pos c5 (Ev.now _)
      · rw [hnil]
        simp [mxL]
        omega
      · rw [hnil]
        simp
    · refine ⟨false, n + 1, mx dp d, ?_, ?_, by simp⟩
      · refine Ev.step (fun k => by rw [impl_measure.f, w1]) ?_
        refine Ev.neg c1 ?_
        refine Ev.neg c2 ?_
        refine Ev.bind (name_i t.f0) ?_
        rw [c3]
        refine Ev.pos rfl ?_
        refine Ev.pos c4 ?_
        exact Ev.neg c5 (Ev.now _)
      · rw [decide_eq_false (by omega)]
        simp
  · rw [if_neg c4, Bool.true_and]
    by_cases c5 : t.f1.toList = []
    · obtain ⟨b, n', dp', e, q, s⟩ := loop t.f3.length 0 (n + 1) (mx dp d) (by omega) (by omega) (by omega) (by omega)
      rw [List.drop_zero] at q s
      rw [decide_eq_true c5, Bool.true_and]
      refine ⟨b, n', dp', ?_, ?_, ?_⟩
      · refine Ev.step (fun k => by rw [impl_measure.f, w1]) ?_
        refine Ev.neg c1 ?_
        refine Ev.neg c2 ?_
        refine Ev.bind (name_i t.f0) ?_
        rw [c3]
        refine Ev.pos rfl ?_
        refine Ev.neg c4 ?_
        exact Ev.pos c5 e
      · rw [q]
        refine ⟨fun h => ⟨h.1, by omega, by omega⟩, fun h => ⟨h.1, by omega, by omega⟩⟩
      · intro h
        have := s h
        omega
    · refine ⟨false, n + 1, mx dp d, ?_, ?_, by simp⟩
      · refine Ev.step (fun k => by rw [impl_measure.f, w1]) ?_
        refine Ev.neg c1 ?_
        refine Ev.neg c2 ?_
        refine Ev.bind (name_i t.f0) ?_
        rw [c3]
        refine Ev.pos rfl ?_
        refine Ev.neg c4 ?_
        exact Ev.neg c5 (Ev.now _)
      · rw [decide_eq_false c5]
        simp
theorem ok_i (t : S53) (ht : FitI t) : Ev (fun k => impl_TreeOK.f k t.f0 t.f1 t.f2 t.f3) (OKT t) := by
  obtain ⟨b, n, dp, e, q, s⟩ := mea_i t ht 1 0 0 (by omega) (by omega) (by omega) (by omega)
  unfold impl_TreeOK.f OKT
  refine Ev.bind e ?_
  have : b = (decide (Nn t ≤ 1000 ∧ Dd t ≤ 60) && Rt t) := by
    rw [Bool.eq_iff_iff, q, Bool.and_eq_true, decide_eq_true_iff]
    refine ⟨fun h => ⟨⟨by omega, by omega⟩, h.1⟩, fun h => ⟨h.2, by omega, by omega⟩⟩
  rw [← this]
  exact Ev.now _
end Go.Proofs.Ytgdecbliegelmaa.Q
