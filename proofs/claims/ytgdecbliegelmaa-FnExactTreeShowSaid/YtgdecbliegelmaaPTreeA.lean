/- Trees, plainly: their size, how they are turned, compared and shown; what the laws' own helpers answer. -/
import Derived.Test.YtgdecbliegelmaaQlawsszTreeS
import Derived.Test.YtgdecbliegelmaaQlawstoTreeS
import Derived.Test.YtgdecbliegelmaaQlawseqTreeS
import Derived.Test.YtgdecbliegelmaaXKinds
namespace Go.Proofs.Ytgdecbliegelmaa.Q
open Go.RowKit Go.Proofs.YtgdecbliegelmaaW.PrintWords
set_option linter.unusedVariables false
theorem pt_wrap {x : Int} (h0 : -9223372036854775808 ≤ x) (h1 : x ≤ 9223372036854775807) : wrap64 x = x := by
  unfold wrap64
  omega
theorem Ev.pos {α : Type} {c : Prop} [Decidable c] {f g : Nat → Option α} {r : α} (hc : c) (h : Ev f r) : Ev (fun n => if c then f n else g n) r := by
  simpa only [if_pos hc] using h
theorem Ev.neg {α : Type} {c : Prop} [Decidable c] {f g : Nat → Option α} {r : α} (hc : ¬ c) (h : Ev g r) : Ev (fun n => if c then f n else g n) r := by
  simpa only [if_neg hc] using h
/-- A tree's induction. -/
theorem ind48 {p : S48 → Prop} (h : ∀ t, (∀ u ∈ t.f3, p u) → p t) : ∀ t, p t
  | ⟨a, b, c, l⟩ => h _ (fun u hu => ind48 h u)
termination_by t => SizeOf.sizeOf t
decreasing_by
  have := List.sizeOf_lt_of_mem (show u ∈ l from hu)
  simp
  omega
theorem ind53 {p : S53 → Prop} (h : ∀ t, (∀ u ∈ t.f3, p u) → p t) : ∀ t, p t
  | ⟨a, b, c, l⟩ => h _ (fun u hu => ind53 h u)
termination_by t => SizeOf.sizeOf t
decreasing_by
  have := List.sizeOf_lt_of_mem (show u ∈ l from hu)
  simp
  omega
theorem eta53 (x : S53) : (⟨x.f0, x.f1, x.f2, x.f3⟩ : S53) = x := by cases x; rfl
/-- The size that the laws measure: letters and kids. -/
def Sz : S48 → Nat
  | ⟨a, b, _, l⟩ => a.size + b.size + l.length + (l.attach.map fun x => Sz x.1).sum
termination_by t => SizeOf.sizeOf t
decreasing_by
  have := List.sizeOf_lt_of_mem x.2
  simp
  omega
def SzL (l : List S48) : Nat := l.length + (l.map Sz).sum
theorem Sz_eq (t : S48) : Sz t = t.f0.size + t.f1.size + SzL t.f3 := by
  obtain ⟨a, b, c, l⟩ := t
  unfold Sz
  rw [List.attach_map_val]
  simp only [SzL]
  omega
theorem B48.inv {x : S48} (h : B48 x) : x.f0.size ≤ 140737488351232 ∧ x.f1.size ≤ 140737488351232 ∧ x.f3.length * 64 ≤ 140737488351232 ∧ ∀ a ∈ x.f3, B48 a := by
  cases h with
  | mk _ h0 h1 h2 h3 h4 => exact ⟨h0, h1, h3, h4⟩
theorem sum_drop_cons {α : Type} (f : α → Nat) (l : List α) (i : Nat) (h : i < l.length) : ((l.drop i).map f).sum = f l[i] + ((l.drop (i + 1)).map f).sum := by
  rw [List.drop_eq_getElem_cons h, List.map_cons, List.sum_cons]
theorem rd48 (l : List S48) (i : Nat) (h : i < l.length) : rd_T48 l (i : Int) = l[i] := by
  simp [rd_T48, List.getD_eq_getElem?_getD, List.getElem?_eq_getElem h]
theorem rd53 (l : List S53) (i : Nat) (h : i < l.length) : rd_T53 l (i : Int) = l[i] := by
  simp [rd_T53, List.getD_eq_getElem?_getD, List.getElem?_eq_getElem h]
/-- szTree tells the rest, or less than nothing. -/
theorem sz_tree (t : S48) (ht : B48 t) : ∀ left : Int, 0 ≤ left → left ≤ 1048576 → ∃ r, Ev (fun k => laws_szTree.f k t.f0 t.f1 t.f2 t.f3 left) r ∧ r ≤ 1048576 ∧ (0 ≤ r → (Sz t : Int) + r = left) := by
  induction t using ind48 with
  | h t ih =>
  intro left h0 h1
  obtain ⟨b0, b1, b3, bk⟩ := ht.inv
  have loop : ∀ d i (lf : Int), i + d = t.f3.length → 0 ≤ lf → lf ≤ 1048576 → ∃ r, Ev (fun k => laws_szTreeS.l0 k t.f3 lf (i : Int)) r ∧ r ≤ 1048576 ∧ (0 ≤ r → ((((t.f3.drop i).map Sz).sum : Nat) : Int) + r = lf) := by
    intro d
    induction d with
    | zero =>
      intro i lf hi hl0 hl1
      refine ⟨lf, ?_, hl1, ?_⟩
      · refine Ev.step (fun k => by rw [laws_szTreeS.l0]) ?_
        refine Ev.neg (by omega) ?_
        exact Ev.now _
      intro h
      rw [List.drop_eq_nil_of_le (by omega)]
      simp
    | succ d ihd =>
      intro i lf hi hl0 hl1
      have hlt : i < t.f3.length := by omega
      obtain ⟨r1, hr1, hr1b, hr1e⟩ := ih t.f3[i] (List.getElem_mem hlt) (bk _ (List.getElem_mem hlt)) lf hl0 hl1
      by_cases hn : r1 < 0
      · refine ⟨-1, ?_, by omega, fun h => by omega⟩
        refine Ev.step (fun k => by rw [laws_szTreeS.l0]) ?_
        refine Ev.pos (by omega) ?_
        refine Ev.pos (by omega) ?_
        rw [rd48 _ _ hlt]
        exact Ev.bind hr1 (Ev.pos hn (Ev.now _))
      · obtain ⟨r2, hr2, hr2b, hr2e⟩ := ihd (i + 1) r1 (by omega) (by omega) hr1b
        refine ⟨r2, ?_, hr2b, ?_⟩
        · refine Ev.step (fun k => by rw [laws_szTreeS.l0]) ?_
          refine Ev.pos (by omega) ?_
          refine Ev.pos (by omega) ?_
          rw [rd48 _ _ hlt]
          refine Ev.bind hr1 (Ev.neg hn ?_)
          rw [pt_wrap (x := (i : Int) + 1) (by omega) (by omega)]
          exact hr2
        · intro h
          have e1 := hr1e (by omega)
          have e2 := hr2e h
          rw [sum_drop_cons _ _ _ hlt]
          omega
  have w1 : wrap64 (left - (t.f0.size : Int)) = left - t.f0.size := pt_wrap (by omega) (by omega)
  by_cases c1 : left - (t.f0.size : Int) < 0
  · refine ⟨-1, ?_, by omega, fun h => by omega⟩
    · refine Ev.step (fun k => by rw [laws_szTree.f, w1]) ?_
      refine Ev.pos c1 ?_
      exact Ev.now _
  have w2 : wrap64 (left - (t.f0.size : Int) - (t.f1.size : Int)) = left - t.f0.size - t.f1.size := pt_wrap (by omega) (by omega)
  by_cases c2 : left - (t.f0.size : Int) - t.f1.size < 0
  · refine ⟨-1, ?_, by omega, fun h => by omega⟩
    · refine Ev.step (fun k => by rw [laws_szTree.f, w1, w2]) ?_
      refine Ev.neg c1 ?_
      refine Ev.pos c2 ?_
      exact Ev.now _
  have w3 : wrap64 (left - (t.f0.size : Int) - (t.f1.size : Int) - (t.f3.length : Int)) = left - t.f0.size - t.f1.size - t.f3.length := pt_wrap (by omega) (by omega)
  by_cases c3 : left - (t.f0.size : Int) - t.f1.size - t.f3.length < 0
  · refine ⟨-1, ?_, by omega, fun h => by omega⟩
    · refine Ev.step (fun k => by rw [laws_szTree.f, w1, w2]) ?_
      refine Ev.neg c1 ?_
      refine Ev.neg c2 ?_
      refine Ev.bind (a := -1) ?_ ?_
      · refine Ev.step (fun k => by rw [laws_szTreeS.f, w3]) ?_
        refine Ev.pos c3 ?_
        exact Ev.now _
      · refine Ev.pos (by omega) ?_
        exact Ev.now _
  obtain ⟨r, hr, hrb, hre⟩ := loop t.f3.length 0 _ (by omega) (show 0 ≤ left - (t.f0.size : Int) - t.f1.size - t.f3.length by omega) (by omega)
  have hS : Ev (fun k => laws_szTreeS.f k t.f3 (left - (t.f0.size : Int) - t.f1.size)) r := by
    refine Ev.step (fun k => by rw [laws_szTreeS.f, w3]) ?_
    exact Ev.neg c3 hr
  by_cases c4 : r < 0
  · refine ⟨-1, ?_, by omega, fun h => by omega⟩
    · refine Ev.step (fun k => by rw [laws_szTree.f, w1, w2]) ?_
      refine Ev.neg c1 ?_
      refine Ev.neg c2 ?_
      refine Ev.bind (a := r) ?_ ?_
      · exact hS
      · refine Ev.pos c4 ?_
        exact Ev.now _
  · refine ⟨r, ?_, hrb, ?_⟩
    · refine Ev.step (fun k => by rw [laws_szTree.f, w1, w2]) ?_
      refine Ev.neg c1 ?_
      refine Ev.neg c2 ?_
      refine Ev.bind (a := r) ?_ ?_
      · exact hS
      · refine Ev.neg c4 ?_
        exact Ev.now _
    intro h
    have := hre h
    rw [Sz_eq]
    simp only [SzL]
    simp only [List.drop_zero] at this
    omega
/-- A tree of the laws as a tree of the program. -/
def conv : S48 → S53
  | ⟨a, b, c, l⟩ => ⟨a, b, c, l.attach.map fun x => conv x.1⟩
termination_by t => SizeOf.sizeOf t
decreasing_by
  have := List.sizeOf_lt_of_mem x.2
  simp
  omega
theorem conv_eq (t : S48) : conv t = ⟨t.f0, t.f1, t.f2, t.f3.map conv⟩ := by
  obtain ⟨a, b, c, l⟩ := t
  unfold conv
  rw [List.attach_map_val]
theorem to_tree (t : S48) (ht : B48 t) : Ev (fun k => laws_toTree.f k t.f0 t.f1 t.f2 t.f3) ((conv t).f0, (conv t).f1, (conv t).f2, (conv t).f3) := by
  induction t using ind48 with
  | h t ih =>
  obtain ⟨b0, b1, b3, bk⟩ := ht.inv
  have loop : ∀ d i (acc : List S53), i + d = t.f3.length → acc.length = t.f3.length → Ev (fun k => laws_toTreeS.l0 k t.f3 acc (i : Int)) (acc.take i ++ (t.f3.drop i).map conv) := by
    intro d
    induction d with
    | zero =>
      intro i acc hi ha
      refine Ev.step (fun k => by rw [laws_toTreeS.l0]) ?_
      refine Ev.neg (by omega) ?_
      rw [List.take_of_length_le (by omega), List.drop_eq_nil_of_le (by omega)]
      simpa using Ev.now acc
    | succ d ihd =>
      intro i acc hi ha
      have hlt : i < t.f3.length := by omega
      have hk := ih t.f3[i] (List.getElem_mem hlt) (bk _ (List.getElem_mem hlt))
      refine Ev.step (fun k => by rw [laws_toTreeS.l0]) ?_
      refine Ev.pos (by omega) ?_
      refine Ev.pos (by omega) ?_
      rw [rd48 _ _ hlt]
      refine Ev.bind hk (Ev.pos (by omega) ?_)
      rw [pt_wrap (x := (i : Int) + 1) (by omega) (by omega)]
      have h := ihd (i + 1) (acc.set i (conv t.f3[i])) (by omega) (by simpa using ha)
      have e : (acc.set i (conv t.f3[i])).take (i + 1) ++ (t.f3.drop (i + 1)).map conv = acc.take i ++ (t.f3.drop i).map conv := by
        rw [List.drop_eq_getElem_cons hlt, List.map_cons, List.take_add_one, List.take_set_of_le (Nat.le_refl i)]
        simp [List.getElem?_set_self (show i < acc.length by omega)]
      rw [e] at h
      have e2 : ((i : Int)).toNat = i := by omega
      rw [e2]
      have e3 : ((i + 1 : Nat) : Int) = (i : Int) + 1 := by omega
      rw [e3] at h
      simp only [eta53]
      exact h
  rw [conv_eq]
  refine Ev.step (fun k => by rw [laws_toTree.f]) ?_
  refine Ev.bind (a := t.f3.map conv) ?_ (Ev.now _)
  refine Ev.step (fun k => by rw [laws_toTreeS.f]) ?_
  refine Ev.pos (by omega) ?_
  refine Ev.pos (by omega) ?_
  have h := loop t.f3.length 0 (List.replicate ((t.f3.length : Int)).toNat z53) (by omega) (by simp)
  simpa using h
/-- The bound of a tree of the program: each list of kids fits an int. -/
inductive FitI : S53 → Prop where
  | mk (x : S53) : x.f3.length ≤ 9223372036854775806 → (∀ a ∈ x.f3, FitI a) → FitI x
theorem FitI.inv {x : S53} (h : FitI x) : x.f3.length ≤ 9223372036854775806 ∧ ∀ a ∈ x.f3, FitI a := by
  cases h with
  | mk _ h0 h1 => exact ⟨h0, h1⟩
theorem fit_conv (t : S48) (ht : B48 t) : FitI (conv t) := by
  induction t using ind48 with
  | h t ih =>
  obtain ⟨b0, b1, b3, bk⟩ := ht.inv
  rw [conv_eq]
  refine FitI.mk _ (by simp; omega) ?_
  intro a ha
  obtain ⟨x, hx, rfl⟩ := List.mem_map.1 ha
  exact ih x hx (bk x hx)
theorem eq_tree (t : S53) (ht : FitI t) : Ev (fun k => laws_eqTree.f k t.f0 t.f1 t.f2 t.f3 t.f0 t.f1 t.f2 t.f3) true := by
  induction t using ind53 with
  | h t ih =>
  obtain ⟨b3, bk⟩ := ht.inv
  have loop : ∀ d i, i + d = t.f3.length → Ev (fun k => laws_eqTreeS.l0 k t.f3 t.f3 (i : Int)) true := by
    intro d
    induction d with
    | zero =>
      intro i hi
      refine Ev.step (fun k => by rw [laws_eqTreeS.l0]) ?_
      refine Ev.neg (by omega) ?_
      exact Ev.now _
    | succ d ihd =>
      intro i hi
      have hlt : i < t.f3.length := by omega
      have hk := ih t.f3[i] (List.getElem_mem hlt) (bk _ (List.getElem_mem hlt))
      refine Ev.step (fun k => by rw [laws_eqTreeS.l0]) ?_
      refine Ev.pos (by omega) ?_
      refine Ev.pos (by omega) ?_
      refine Ev.pos (by omega) ?_
      rw [rd53 _ _ hlt]
      refine Ev.bind hk (Ev.pos rfl ?_)
      rw [pt_wrap (x := (i : Int) + 1) (by omega) (by omega)]
      exact ihd (i + 1) (by omega)
  refine Ev.step (fun k => by rw [laws_eqTree.f]) ?_
  refine Ev.pos rfl ?_
  refine Ev.pos rfl ?_
  refine Ev.neg (by simp) ?_
  refine Ev.bind (a := true) ?_ (Ev.pos rfl (Ev.now _))
  refine Ev.step (fun k => by rw [laws_eqTreeS.f]) ?_
  refine Ev.pos rfl ?_
  exact loop t.f3.length 0 (by omega)
end Go.Proofs.Ytgdecbliegelmaa.Q
