/- Shown trees, plainly: what the spec draws and what the program draws are one text. -/
import Derived.Test.YtgdecbliegelmaaPTreeB
import Derived.Test.YtgdecbliegelmaaQspecl01Show
import Derived.Test.YtgdecbliegelmaaQimpltext
namespace Go.Proofs.Ytgdecbliegelmaa.Q
open Go.RowKit Go.Proofs.YtgdecbliegelmaaW.PrintWords
set_option linter.unusedVariables false
def shw : S53 → List Int
  | ⟨a, b, c, l⟩ => if c = true then bytesOf a ++ [34] ++ (bytesOf b).flatMap escB ++ [34] else [40] ++ bytesOf a ++ (l.attach.map fun x => [32] ++ shw x.1).flatten ++ [41]
termination_by t => SizeOf.sizeOf t
decreasing_by
  have := List.sizeOf_lt_of_mem x.2
  simp
  omega
def shk (t : S53) : List Int := [32] ++ shw t
theorem shw_eq (t : S53) : shw t = if t.f2 = true then bytesOf t.f0 ++ [34] ++ (bytesOf t.f1).flatMap escB ++ [34] else [40] ++ bytesOf t.f0 ++ (t.f3.map shk).flatten ++ [41] := by
  obtain ⟨a, b, c, l⟩ := t
  unfold shw
  have : (l.attach.map fun x => [32] ++ shw x.1) = l.map shk := by
    rw [List.attach_map_val (f := fun x => [32] ++ shw x)]
    rfl
  simp only [this]
theorem esc_len (c : Int) : 1 ≤ (escB c).length ∧ (escB c).length ≤ 4 := by
  unfold escB
  repeat' split
  all_goals simp
theorem esc_all (c : Int) (h : 0 ≤ c ∧ c ≤ 255) : ∀ x ∈ escB c, 0 ≤ x ∧ x ≤ 255 := by
  unfold escB
  repeat' split
  all_goals simp <;> omega
theorem flat_len (l : List Int) : (l.flatMap escB).length ≤ 4 * l.length ∧ l.length ≤ (l.flatMap escB).length := by
  induction l with
  | nil => simp
  | cons a l ih =>
    have := esc_len a
    simp only [List.flatMap_cons, List.length_append, List.length_cons]
    omega
theorem bytes_range (s : ByteArray) : ∀ x ∈ bytesOf s, 0 ≤ x ∧ x ≤ 255 := by
  intro x hx
  obtain ⟨b, hb, rfl⟩ := List.mem_map.1 hx
  have := b.toNat_lt
  omega
theorem shw_all (t : S53) : ∀ x ∈ shw t, 0 ≤ x ∧ x ≤ 255 := by
  induction t using ind53 with
  | h t ih =>
  intro x hx
  rw [shw_eq] at hx
  split at hx
  · simp only [List.mem_append, List.mem_flatMap, List.mem_singleton] at hx
    rcases hx with ((hx | hx) | ⟨c, hc, hx⟩) | hx
    · exact bytes_range _ x hx
    · omega
    · exact esc_all c (bytes_range _ c hc) x hx
    · omega
  · simp only [List.mem_append, List.mem_flatten, List.mem_map, List.mem_singleton] at hx
    rcases hx with ((hx | hx) | ⟨c, ⟨u, hu, rfl⟩, hx⟩) | hx
    · omega
    · exact bytes_range _ x hx
    · simp only [shk, List.mem_append, List.mem_singleton] at hx
      rcases hx with hx | hx
      · omega
      · exact ih u hu x hx
    · omega
theorem nm_size (s : ByteArray) (h : NmB s = true) : s.size ≤ 24 := by
  simp only [NmB, Bool.and_eq_true, decide_eq_true_eq] at h
  omega
theorem sum_flat (l : List S53) (h : ∀ u ∈ l, (shw u).length + 1 ≤ 827 * Nn u) : (l.map shk).flatten.length ≤ 827 * (l.map Nn).sum := by
  induction l with
  | nil => simp
  | cons a l ih =>
    have h1 := h a (by simp)
    have h2 := ih (fun u hu => h u (by simp [hu]))
    simp only [List.map_cons, List.flatten_cons, List.length_append, List.sum_cons, shk, List.length_cons, List.length_nil]
    omega
theorem Rt_kid (t : S53) (h : Rt t = true) : ∀ u ∈ t.f3, Rt u = true := by
  rw [Rt_eq, Bool.and_eq_true, Bool.and_eq_true] at h
  exact List.all_eq_true.1 h.2.2
theorem Rt_name (t : S53) (h : Rt t = true) : t.f0.size ≤ 24 := by
  rw [Rt_eq, Bool.and_eq_true] at h
  exact nm_size _ h.1
theorem Rt_leaf (t : S53) (h : Rt t = true) (hc : t.f2 = true) : t.f3.length = 0 ∧ t.f1.size ≤ 200 := by
  rw [Rt_eq, Bool.and_eq_true, Bool.and_eq_true, if_pos hc] at h
  simpa using h.2.1
theorem shw_len (t : S53) (h : Rt t = true) : (shw t).length + 1 ≤ 827 * Nn t := by
  induction t using ind53 with
  | h t ih =>
  have h1 := Rt_name t h
  have h2 := sum_flat t.f3 (fun u hu => ih u hu (Rt_kid t h u hu))
  rw [shw_eq, Nn_eq]
  split
  · rename_i hc
    have h3 := Rt_leaf t h hc
    have h4 := flat_len (bytesOf t.f1)
    have h5 := bytesOf_length t.f1
    have h6 := bytesOf_length t.f0
    simp only [List.length_append, List.length_cons, List.length_nil]
    omega
  · have h6 := bytesOf_length t.f0
    simp only [List.length_append, List.length_cons, List.length_nil]
    omega
theorem Nn_kids (l : List S53) : l.length ≤ (l.map Nn).sum := by
  induction l with
  | nil => simp
  | cons a l ih =>
    have : 1 ≤ Nn a := by rw [Nn_eq]; omega
    simp only [List.map_cons, List.sum_cons, List.length_cons]
    omega
theorem Nn_kid (l : List S53) (u : S53) (h : u ∈ l) : Nn u ≤ (l.map Nn).sum := by
  induction l with
  | nil => cases h
  | cons a l ih =>
    simp only [List.map_cons, List.sum_cons]
    rcases List.mem_cons.1 h with rfl | h
    · omega
    · have := ih h
      omega
theorem flat_drop (s : ByteArray) (i : Nat) (h : i < s.size) : ((bytesOf s).drop i).flatMap escB = escB (bt s i) ++ ((bytesOf s).drop (i + 1)).flatMap escB := by
  have h' : i < (bytesOf s).length := by rw [bytesOf_length]; exact h
  rw [List.drop_eq_getElem_cons h', List.flatMap_cons, bytesOf_at]
theorem kids_drop (l : List S53) (i : Nat) (h : i < l.length) : ((l.drop i).map shk).flatten = [32] ++ shw l[i] ++ ((l.drop (i + 1)).map shk).flatten := by
  rw [List.drop_eq_getElem_cons h, List.map_cons, List.flatten_cons]
  rfl
theorem show_i (t : S53) (h : Rt t = true) (hn : Nn t ≤ 1000) : ∀ acc : List Int, acc.length + 827 * Nn t ≤ 1000000 → Ev (fun k => impl_show.f k t.f0 t.f1 t.f2 t.f3 acc) (acc ++ shw t) := by
  induction t using ind53 with
  | h t ih =>
  intro acc ha
  rw [Nn_eq] at hn ha
  have hl := Nn_kids t.f3
  have hnm := Rt_name t h
  have hkid : ∀ u ∈ t.f3, (shw u).length + 1 ≤ 827 * Nn u := fun u hu => shw_len u (Rt_kid t h u hu)
  have hb0 := bytesOf_length t.f0
  by_cases hc : t.f2 = true
  · rw [shw_eq, if_pos hc]
    have htx := (Rt_leaf t h hc).2
    have loop : ∀ d i (ac : List Int), i + d = t.f1.size → ac.length + 4 * d ≤ 1000000 → Ev (fun k => impl_show.l1 k t.f1 (i : Int) ac) (ac ++ (((bytesOf t.f1).drop i).flatMap escB ++ [34])) := by
      intro d
      induction d with
      | zero =>
        intro i ac hi hac
        rw [List.drop_eq_nil_of_le (by rw [bytesOf_length]; omega)]
        refine Ev.step (fun k => by rw [impl_show.l1]) ?_
        refine Ev.neg (by omega) ?_
        refine Ev.pos (by omega) ?_
        exact Ev.now _
      | succ d ihd =>
        intro i ac hi hac
        have he := esc_len (bt t.f1 i)
        rw [flat_drop _ _ (by omega)]
        refine Ev.step (fun k => by rw [impl_show.l1]) ?_
        refine Ev.pos (by omega) ?_
        refine Ev.pos (by omega) ?_
        refine Ev.pos (by omega) ?_
        rw [pt_wrap (x := (i : Int) + 1) (by omega) (by omega)]
        have := ihd (i + 1) (ac ++ escB (bt t.f1 i)) (by omega) (by simp only [List.length_append]; omega)
        simp only [List.append_assoc] at this ⊢
        exact this
    refine Ev.step (fun k => by rw [impl_show.f]) ?_
    refine Ev.pos hc ?_
    refine Ev.pos (by omega) ?_
    have := loop t.f1.size 0 (acc ++ bytesOf t.f0 ++ [34]) (by omega) (by simp only [List.length_append, List.length_cons, List.length_nil]; omega)
    simp only [List.append_assoc, List.drop_zero] at this ⊢
    exact this
  · rw [shw_eq, if_neg hc]
    have loop : ∀ d i (ac : List Int), i + d = t.f3.length → ac.length + 827 * ((t.f3.drop i).map Nn).sum + 1 ≤ 1000000 → Ev (fun k => impl_show.l0 k t.f3 (i : Int) ac) (ac ++ (((t.f3.drop i).map shk).flatten ++ [41])) := by
      intro d
      induction d with
      | zero =>
        intro i ac hi hac
        rw [List.drop_eq_nil_of_le (by omega)]
        refine Ev.step (fun k => by rw [impl_show.l0]) ?_
        refine Ev.neg (by omega) ?_
        refine Ev.pos (by omega) ?_
        exact Ev.now _
      | succ d ihd =>
        intro i ac hi hac
        have hlt : i < t.f3.length := by omega
        have hm := List.getElem_mem hlt
        rw [sum_drop_cons _ _ _ hlt] at hac
        have hk := hkid _ hm
        have hkn := Nn_kid _ _ hm
        have e := ih _ hm (Rt_kid t h _ hm) (by omega) (ac ++ [32]) (by simp only [List.length_append, List.length_cons, List.length_nil]; omega)
        rw [kids_drop _ _ hlt]
        refine Ev.step (fun k => by rw [impl_show.l0]) ?_
        refine Ev.pos (by omega) ?_
        refine Ev.pos (by omega) ?_
        refine Ev.pos (by omega) ?_
        rw [rd53 _ _ hlt]
        refine Ev.bind e ?_
        rw [pt_wrap (x := (i : Int) + 1) (by omega) (by omega)]
        have := ihd (i + 1) (ac ++ [32] ++ shw t.f3[i]) (by omega) (by simp only [List.length_append, List.length_cons, List.length_nil]; omega)
        simp only [List.append_assoc] at this ⊢
        exact this
    refine Ev.step (fun k => by rw [impl_show.f]) ?_
    refine Ev.neg hc ?_
    refine Ev.pos (by omega) ?_
    have := loop t.f3.length 0 (acc ++ [40] ++ bytesOf t.f0) (by omega) (by simp only [List.length_append, List.length_cons, List.length_nil, List.drop_zero]; omega)
    simp only [List.append_assoc, List.drop_zero] at this ⊢
    exact this
theorem text_i (t : S53) (h : Rt t = true) (hn : Nn t ≤ 1000) : Ev (fun k => impl_text.f k t.f0 t.f1 t.f2 t.f3) (strOfNums (shw t)) := by
  unfold impl_text.f
  refine Ev.bind (show_i t h hn [] (by simp; omega)) ?_
  refine Ev.pos ?_ ?_
  · rw [List.nil_append, List.all_eq_true]
    intro x hx
    have := shw_all t x hx
    simp
    omega
  · exact Ev.now _
theorem ba_ext {a b : ByteArray} (h : a.data.toList = b.data.toList) : a = b := by
  cases a with
  | mk a =>
    cases b with
    | mk b =>
      cases a
      cases b
      simp at h
      rw [h]
theorem son_append (a b : List Int) : strOfNums (a ++ b) = strOfNums a ++ strOfNums b := by
  apply ba_ext
  rw [strOfNums_data, List.map_append, ByteArray.data_append, Array.toList_append, strOfNums_data, strOfNums_data]
theorem son_bytes (s : ByteArray) : strOfNums (bytesOf s) = s := by
  apply ba_ext
  rw [strOfNums_data, bytesOf, List.map_map]
  conv => rhs; rw [← List.map_id s.data.toList]
  apply List.map_congr_left
  intro b hb
  simp
theorem quote_s (s : ByteArray) (hs : s.size ≤ 200) : Ev (fun k => spec_l01Quote.f k s) (strOfNums ([34] ++ (bytesOf s).flatMap escB ++ [34])) := by
  have loop : ∀ d i (ac : List Int), i + d = s.size → ac.length + 4 * d ≤ 1000000 → Ev (fun k => spec_l01Quote.l0 k s ac (i : Int)) (strOfNums (ac ++ (((bytesOf s).drop i).flatMap escB ++ [34]))) := by
    intro d
    induction d with
    | zero =>
      intro i ac hi hac
      rw [List.drop_eq_nil_of_le (by rw [bytesOf_length]; omega)]
      refine Ev.step (fun k => by rw [spec_l01Quote.l0]) ?_
      refine Ev.neg (by omega) ?_
      refine Ev.pos (by omega) ?_
      exact Ev.now _
    | succ d ihd =>
      intro i ac hi hac
      have he := esc_len (bt s i)
      have hr := bt_range s i
      have h := ihd (i + 1) (ac ++ escB (bt s i)) (by omega) (by simp only [List.length_append]; omega)
      rw [flat_drop _ _ (by omega)]
      rw [List.append_assoc, ← List.append_assoc] at h
      have e3 : ((i + 1 : Nat) : Int) = (i : Int) + 1 := by omega
      rw [e3] at h
      have hw : wrap64 ((i : Int) + 1) = (i : Int) + 1 := pt_wrap (by omega) (by omega)
      refine Ev.step (fun k => by rw [spec_l01Quote.l0]) ?_
      refine Ev.pos (by omega) ?_
      refine Ev.pos (by omega) ?_
      have esc : ∀ c, 0 ≤ c → c ≤ 255 → ([92, (48 + ((Int.tdiv c 100) % 256)) % 256, 48 + (((Int.tdiv c 10) % 256) % 10), (48 + (Int.tmod c 10)) % 256] : List Int) = [92, 48 + c / 100, 48 + c / 10 % 10, 48 + c % 10] := by
        intro c h0 h1
        rw [Int.tdiv_eq_ediv_of_nonneg h0, Int.tdiv_eq_ediv_of_nonneg h0, Int.tmod_eq_emod_of_nonneg h0]
        simp only [List.cons.injEq, and_true, true_and]
        omega
      by_cases c1 : bt s i = 34
      · refine Ev.pos c1 ?_
        refine Ev.step (fun k => by rw [spec_l01Quote.j1]) ?_
        refine Ev.pos rfl ?_
        have e : escB (bt s i) = [92, bt s i] := by unfold escB; rw [if_pos c1]
        rw [e] at h he ⊢
        simp only [Option.bind_some]
        refine Ev.pos (by simp; omega) ?_
        rw [hw]
        simp only [List.append_assoc] at h ⊢
        exact h
      · refine Ev.neg c1 ?_
        refine Ev.step (fun k => by rw [spec_l01Quote.j1]) ?_
        by_cases c2 : bt s i = 92
        · refine Ev.pos (by simp [c2]) ?_
          have e : escB (bt s i) = [92, bt s i] := by unfold escB; rw [if_neg c1, if_pos c2]
          rw [e] at h he ⊢
          simp only [Option.bind_some]
          refine Ev.pos (by simp; omega) ?_
          rw [hw]
          simp only [List.append_assoc] at h ⊢
          exact h
        · refine Ev.neg (by simp [c2]) ?_
          by_cases c3 : bt s i ≥ 32
          · refine Ev.pos c3 ?_
            by_cases c4 : bt s i ≤ 126
            · refine Ev.pos c4 ?_
              have e : escB (bt s i) = [bt s i] := by unfold escB; rw [if_neg c1, if_neg c2, if_pos c3, if_pos c4]
              rw [e] at h he ⊢
              refine Ev.pos (by omega) ?_
              rw [hw]
              simp only [List.append_assoc] at h ⊢
              exact h
            · refine Ev.neg c4 ?_
              have e : escB (bt s i) = [92, 48 + bt s i / 100, 48 + bt s i / 10 % 10, 48 + bt s i % 10] := by unfold escB; rw [if_neg c1, if_neg c2, if_pos c3, if_neg c4]
              rw [e] at h he ⊢
              simp only [Option.bind_some]
              rw [esc _ hr.1 hr.2]
              refine Ev.pos (by simp; omega) ?_
              rw [hw]
              simp only [List.append_assoc] at h ⊢
              exact h
          · refine Ev.neg c3 ?_
            have e : escB (bt s i) = [92, 48 + bt s i / 100, 48 + bt s i / 10 % 10, 48 + bt s i % 10] := by unfold escB; rw [if_neg c1, if_neg c2, if_neg c3]
            rw [e] at h he ⊢
            simp only [Option.bind_some]
            rw [esc _ hr.1 hr.2]
            refine Ev.pos (by simp; omega) ?_
            rw [hw]
            simp only [List.append_assoc] at h ⊢
            exact h
  have h := loop s.size 0 [34] (by omega) (by simp; omega)
  simp only [List.append_assoc, List.drop_zero] at h ⊢
  exact h
theorem show_s (t : S53) (h : Rt t = true) (hn : Nn t ≤ 1000) : Ev (fun k => spec_l01Show.f k t.f0 t.f1 t.f2 t.f3) (strOfNums (shw t)) := by
  induction t using ind53 with
  | h t ih =>
  have hlen := shw_len t h
  rw [Nn_eq] at hn hlen
  have hl := Nn_kids t.f3
  have hnm := Rt_name t h
  have hkid : ∀ u ∈ t.f3, (shw u).length + 1 ≤ 827 * Nn u := fun u hu => shw_len u (Rt_kid t h u hu)
  have hb0 := bytesOf_length t.f0
  by_cases hc : t.f2 = true
  · rw [shw_eq, if_pos hc]
    have htx := (Rt_leaf t h hc).2
    have hfl := flat_len (bytesOf t.f1)
    have hb1 := bytesOf_length t.f1
    refine Ev.step (fun k => by rw [spec_l01Show.f]) ?_
    refine Ev.pos hc ?_
    refine Ev.bind (quote_s t.f1 htx) ?_
    refine Ev.pos (by rw [strOfNums_size]; simp only [List.length_append, List.length_cons, List.length_nil]; omega) ?_
    have e : t.f0 ++ strOfNums ([34] ++ (bytesOf t.f1).flatMap escB ++ [34]) = strOfNums (bytesOf t.f0 ++ [34] ++ (bytesOf t.f1).flatMap escB ++ [34]) := by
      conv => lhs; rw [← son_bytes t.f0]
      rw [← son_append]
      simp only [List.append_assoc]
    rw [e]
    exact Ev.now _
  · rw [shw_eq, if_neg hc]
    have b1 : ∀ a : ByteArray, a ++ (⟨#[32]⟩ : ByteArray) = a ++ strOfNums [32] := fun a => rfl
    have b2 : ∀ a : ByteArray, a ++ (⟨#[41]⟩ : ByteArray) = a ++ strOfNums [41] := fun a => rfl
    have loop : ∀ d i (ac : List Int), i + d = t.f3.length → ac.length + 827 * ((t.f3.drop i).map Nn).sum ≤ 1000000 → Ev (fun k => spec_l01Show.l0 k (strOfNums ac) (i : Int) t.f0 t.f1 t.f2 t.f3) (strOfNums (ac ++ (((t.f3.drop i).map shk).flatten ++ [41]))) := by
      intro d
      induction d with
      | zero =>
        intro i ac hi hac
        rw [List.drop_eq_nil_of_le (by omega)]
        refine Ev.step (fun k => by rw [spec_l01Show.l0]) ?_
        refine Ev.neg (by omega) ?_
        refine Ev.pos (by rw [strOfNums_size]; omega) ?_
        rw [b2, ← son_append]
        exact Ev.now _
      | succ d ihd =>
        intro i ac hi hac
        have hlt : i < t.f3.length := by omega
        have hm := List.getElem_mem hlt
        rw [sum_drop_cons _ _ _ hlt] at hac
        have hk := hkid _ hm
        have hkn := Nn_kid _ _ hm
        have e := ih _ hm (Rt_kid t h _ hm) (by omega)
        rw [kids_drop _ _ hlt]
        refine Ev.step (fun k => by rw [spec_l01Show.l0]) ?_
        refine Ev.pos (by omega) ?_
        refine Ev.pos (by rw [strOfNums_size]; omega) ?_
        refine Ev.pos (by omega) ?_
        rw [rd53 _ _ hlt]
        refine Ev.bind e ?_
        rw [b1, ← son_append]
        refine Ev.pos (by rw [strOfNums_size, strOfNums_size]; simp only [List.length_append, List.length_cons, List.length_nil]; omega) ?_
        rw [← son_append, pt_wrap (x := (i : Int) + 1) (by omega) (by omega)]
        have := ihd (i + 1) (ac ++ [32] ++ shw t.f3[i]) (by omega) (by simp only [List.length_append, List.length_cons, List.length_nil]; omega)
        simp only [List.append_assoc] at this ⊢
        exact this
    refine Ev.step (fun k => by rw [spec_l01Show.f]) ?_
    refine Ev.neg hc ?_
    refine Ev.pos (by omega) ?_
    have e : (⟨#[40]⟩ : ByteArray) ++ t.f0 = strOfNums ([40] ++ bytesOf t.f0) := by
      rw [son_append, son_bytes]
      rfl
    rw [e]
    have := loop t.f3.length 0 ([40] ++ bytesOf t.f0) (by omega) (by simp only [List.length_append, List.length_cons, List.length_nil, List.drop_zero]; omega)
    simp only [List.append_assoc, List.drop_zero] at this ⊢
    exact this
end Go.Proofs.Ytgdecbliegelmaa.Q
