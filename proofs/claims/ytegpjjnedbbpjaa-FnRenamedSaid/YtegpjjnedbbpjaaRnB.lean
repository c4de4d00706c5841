/- FnRenamed, plain: what the reference's resolution gives. -/
import Derived.Test.YtegpjjnedbbpjaaRnA
set_option linter.unusedVariables false
set_option linter.unusedSimpArgs false
namespace Go.Proofs.Ytegpjjnedbbpjaa.Z
open Go Go.RowKit Go.Proofs.Sy Go.Proofs
set_option maxRecDepth 100000
/-- A right graph, as propositions. -/
structure Gr (g : gSg) : Prop where
  s1 : 1 ≤ g.scopes_
  s2 : g.scopes_ ≤ 60
  el : g.edges_.length ≤ 120
  dl : g.decls_.length ≤ 120
  rl : g.refs_.length ≤ 120
  e : ∀ e ∈ g.edges_, 0 ≤ e.from_ ∧ e.from_ < g.scopes_ ∧ 0 ≤ e.to_ ∧ e.to_ < g.scopes_ ∧ (e.kind_ = 1 ∨ e.kind_ = 2)
  d : ∀ d ∈ g.decls_, 0 ≤ d.scope_ ∧ d.scope_ < g.scopes_
  r : ∀ d ∈ g.refs_, 0 ≤ d.scope_ ∧ d.scope_ < g.scopes_
theorem Gr.of {g : gSg} (h : okG g = true) : Gr g := by
  simp only [okG, Bool.and_eq_true, decide_eq_true_eq, List.all_eq_true] at h
  obtain ⟨h1, h2, h3, h4, h5, h6, h7, h8⟩ := h
  refine ⟨h1, h2, h3, h4, h5, fun e he => ?_, fun d hd => ?_, fun d hd => ?_⟩
  · have := h6 e he
    simp only [edgeOK, inR, Bool.and_eq_true, decide_eq_true_eq] at this
    omega
  · have := h7 d hd
    simp only [spotOK, inR, Bool.and_eq_true, decide_eq_true_eq] at this
    omega
  · have := h8 d hd
    simp only [spotOK, inR, Bool.and_eq_true, decide_eq_true_eq] at this
    omega
/-- The numbers of those that p holds of. -/
def sel (p : gSpot → Bool) : List gSpot → Nat → List Int
  | [], _ => []
  | d :: r, i => if p d = true then (i : Int) :: sel p r (i + 1) else sel p r (i + 1)
theorem sel_nil {p : gSpot → Bool} : ∀ {l : List gSpot} {i : Nat}, sel p l i = [] ↔ ∀ d ∈ l, p d = false
  | [], i => by simp [sel]
  | d :: r, i => by
    simp only [sel]
    cases h : p d with
    | true => simp [h]
    | false => simp [h, sel_nil (l := r)]
theorem sel_congr {p q : gSpot → Bool} : ∀ {l : List gSpot} {i : Nat}, (∀ d ∈ l, p d = q d) → sel p l i = sel q l i
  | [], i, h => rfl
  | d :: r, i, h => by
    simp only [sel, h d (by simp)]
    rw [sel_congr (l := r) (fun d hd => h d (by simp [hd]))]
theorem sel_len (p : gSpot → Bool) : ∀ (l : List gSpot) (i : Nat), (sel p l i).length ≤ l.length
  | [], i => by simp [sel]
  | d :: r, i => by
    have := sel_len p r (i + 1)
    simp only [sel]
    split <;> simp <;> omega
theorem ix_lt {α : Type} {l : List α} {i : Int} (h0 : 0 ≤ i) (h1 : i < (l.length : Int)) : ∃ x, ix l i = some x := by
  refine ⟨l[i.toNat]'(by omega), ?_⟩
  unfold ix
  rw [if_pos h0, List.getElem?_eq_getElem (by omega)]
theorem ix_set {α : Type} {l : List α} {i j : Int} {x : α} (h0 : 0 ≤ i) (h1 : i < (l.length : Int)) : ix (l.set i.toNat x) j = if j = i then some x else ix l j := by
  unfold ix
  by_cases hj : 0 ≤ j
  · rw [if_pos hj, if_pos hj, List.getElem?_set]
    by_cases e : j = i
    · subst e; rw [if_pos rfl, if_pos rfl, if_pos (by omega)]
    · rw [if_neg (by omega), if_neg e]
  · rw [if_neg hj, if_neg hj, if_neg (by omega)]
theorem ix_rep {α : Type} {x : α} {N : Nat} {i : Int} (h0 : 0 ≤ i) (h1 : i < (N : Int)) : ix (List.replicate N x) i = some x := by
  unfold ix
  rw [if_pos h0, List.getElem?_replicate, if_pos (by omega)]
theorem ix_mem {α : Type} {l : List α} {i : Int} {x : α} (h : ix l i = some x) : x ∈ l := by
  unfold ix at h
  split at h
  · exact List.mem_of_getElem? h
  · cases h
theorem mInL (g : gSg) (hg : Gr g) (a : List Bool) (ha : (a.length : Int) = g.scopes_) (nm : ByteArray) : ∀ (r pre : List gSpot) (k : Nat) (o : List Int), g.decls_ = pre ++ r → r.length < k → o.length ≤ pre.length → m_spec_l12In_l18 g a nm k (pre.length : Int) o = some (o ++ sel (fun d => decide (ix a d.scope_ = some true) && decide (d.name_ = nm)) r pre.length)
  | [], pre, k, o, h, hk, ho => by
    obtain ⟨k, rfl⟩ : ∃ m, k = m + 1 := ⟨k - 1, by simp at hk; omega⟩
    have hl : ¬ (pre.length : Int) < ((g.decls_.map gSpot.enc).length : Int) := by rw [List.length_map, h]; simp
    rw [m_spec_l12In_l18, decide_eq_false hl]
    simp [sel, m_spec_l12In_j11]
  | q :: r, pre, k, o, h, hk, ho => by
    obtain ⟨k, rfl⟩ : ∃ m, k = m + 1 := ⟨k - 1, by simp at hk; omega⟩
    have hdl := hg.dl
    have h3 : g.decls_.length = pre.length + (r.length + 1) := by rw [h]; simp
    have p2 : (pre.length : Int) < ((g.decls_.map gSpot.enc).length : Int) := by rw [List.length_map]; omega
    have e : ix g.decls_ (pre.length : Int) = some q := by rw [h, ixp]
    have hq := hg.d q (by rw [h]; simp)
    obtain ⟨b, hb⟩ := ix_lt (l := a) hq.1 (by omega)
    rw [m_spec_l12In_l18, decide_eq_true p2]
    simp only [e, cond_true, Option.bind_some, hb, sel, Option.some.injEq, decide_true, Bool.decide_eq_true]
    have ih := fun o ho => mInL g hg a ha nm r (pre ++ [q]) k o (by rw [h]; simp) (by simp at hk; omega) ho
    cases b with
    | false =>
      simp only [cond_false, m_spec_l12In_j21, m_spec_l12In_j20, wln pre q (by omega), Bool.false_and, Bool.false_eq_true, if_false]
      rw [ih o (by simp; omega)]
      simp
    | true =>
      cases c : decide (q.name_ = nm) with
      | false =>
        simp only [cond_true, cond_false, m_spec_l12In_j21, m_spec_l12In_j20, wln pre q (by omega), Bool.true_and, Bool.false_eq_true, if_false]
        rw [ih o (by simp; omega)]
        simp
      | true =>
        simp only [cond_true, m_spec_l12In_j21, m_spec_l12In_j20, wln pre q (by omega), Bool.true_and, if_true, gp_pos (show o.length + ([(pre.length : Int)] : List Int).length ≤ 68719476736 by simp; omega)]
        rw [ih _ (by simp; omega)]
        simp
theorem mIn {n : Nat} {g : gSg} (hg : Gr g) {a : List Bool} (ha : (a.length : Int) = g.scopes_) (nm : ByteArray) (hn : 200 ≤ n) : m_spec_l12In n g a nm = some (sel (fun d => decide (ix a d.scope_ = some true) && decide (d.name_ = nm)) g.decls_ 0) := by
  have hdl := hg.dl
  have := mInL g hg a ha nm g.decls_ [] n [] rfl (by omega) (by simp)
  rw [List.nil_append] at this
  exact this
theorem mBehindL (g : gSg) (hg : Gr g) (a : List Bool) (ha : (a.length : Int) = g.scopes_) (kd : Int) : ∀ (r pre : List gSEdge) (k : Nat) (o : List Bool), g.edges_ = pre ++ r → r.length < k → (o.length : Int) = g.scopes_ → ∃ o', m_spec_l12Behind_l18 g a kd k (pre.length : Int) o = some o' ∧ (o'.length : Int) = g.scopes_ ∧ ∀ s, ix o' s = some true ↔ (ix o s = some true ∨ ∃ e ∈ r, e.kind_ = kd ∧ e.to_ = s ∧ ix a e.from_ = some true)
  | [], pre, k, o, h, hk, ho => by
    obtain ⟨k, rfl⟩ : ∃ m, k = m + 1 := ⟨k - 1, by simp at hk; omega⟩
    have hl : ¬ (pre.length : Int) < ((g.edges_.map gSEdge.enc).length : Int) := by rw [List.length_map, h]; simp
    exact ⟨o, by rw [m_spec_l12Behind_l18, decide_eq_false hl]; rfl, ho, fun s => by simp⟩
  | q :: r, pre, k, o, h, hk, ho => by
    obtain ⟨k, rfl⟩ : ∃ m, k = m + 1 := ⟨k - 1, by simp at hk; omega⟩
    have hdl := hg.el
    have h3 : g.edges_.length = pre.length + (r.length + 1) := by rw [h]; simp
    have p2 : (pre.length : Int) < ((g.edges_.map gSEdge.enc).length : Int) := by rw [List.length_map]; omega
    have e : ix g.edges_ (pre.length : Int) = some q := by rw [h, ixp]
    have hq := hg.e q (by rw [h]; simp)
    obtain ⟨b, hb⟩ := ix_lt (l := a) hq.1 (by omega)
    obtain ⟨c, hc⟩ := ix_lt (l := o) hq.2.2.1 (by omega)
    rw [m_spec_l12Behind_l18, decide_eq_true p2]
    simp only [e, cond_true, Option.bind_some, hb]
    have ih := fun o ho => mBehindL g hg a ha kd r (pre ++ [q]) k o (by rw [h]; simp) (by simp at hk; omega) ho
    by_cases k1 : q.kind_ = kd
    · have k2 : (q.kind_ == kd) = true := by simpa using k1
      rw [k2, cond_true]
      cases b with
      | true =>
        obtain ⟨o', e1, e2, e3⟩ := ih (o.set q.to_.toNat true) (by rw [List.length_set]; exact ho)
        refine ⟨o', by simp only [m_spec_l12Behind_j21, m_spec_l12Behind_j20, cond_true, e, Option.bind_some, hc, wln pre q (by omega), e1], e2, fun s => ?_⟩
        rw [e3, ix_set hq.2.2.1 (by omega)]
        constructor
        · rintro (h1 | ⟨x, h1, h2⟩)
          · by_cases hs : s = q.to_
            · exact .inr ⟨q, by simp, k1, hs.symm, hb⟩
            · rw [if_neg hs] at h1; exact .inl h1
          · exact .inr ⟨x, by simp [h1], h2⟩
        · rintro (h1 | ⟨x, h1, h2⟩)
          · left
            by_cases hs : s = q.to_
            · rw [if_pos hs]
            · rw [if_neg hs]; exact h1
          · rcases List.mem_cons.mp h1 with rfl | h1
            · left; rw [if_pos h2.2.1.symm]
            · exact .inr ⟨x, h1, h2⟩
      | false =>
        obtain ⟨o', e1, e2, e3⟩ := ih o ho
        refine ⟨o', by simp only [m_spec_l12Behind_j21, m_spec_l12Behind_j20, cond_false, wln pre q (by omega), e1], e2, fun s => ?_⟩
        rw [e3]
        constructor
        · rintro (h1 | ⟨x, h1, h2⟩)
          · exact .inl h1
          · exact .inr ⟨x, by simp [h1], h2⟩
        · rintro (h1 | ⟨x, h1, h2⟩)
          · exact .inl h1
          · rcases List.mem_cons.mp h1 with rfl | h1
            · rw [hb] at h2; simp at h2
            · exact .inr ⟨x, h1, h2⟩
    · have k2 : (q.kind_ == kd) = false := by simpa using k1
      rw [k2, cond_false]
      obtain ⟨o', e1, e2, e3⟩ := ih o ho
      refine ⟨o', by simp only [m_spec_l12Behind_j21, m_spec_l12Behind_j20, cond_false, wln pre q (by omega), e1], e2, fun s => ?_⟩
      rw [e3]
      constructor
      · rintro (h1 | ⟨x, h1, h2⟩)
        · exact .inl h1
        · exact .inr ⟨x, by simp [h1], h2⟩
      · rintro (h1 | ⟨x, h1, h2⟩)
        · exact .inl h1
        · rcases List.mem_cons.mp h1 with rfl | h1
          · exact absurd h2.1 k1
          · exact .inr ⟨x, h1, h2⟩
theorem mBehind {n : Nat} {g : gSg} (hg : Gr g) {a : List Bool} (ha : (a.length : Int) = g.scopes_) (kd : Int) (hn : 200 ≤ n) : ∃ o', m_spec_l12Behind n g a kd = some o' ∧ (o'.length : Int) = g.scopes_ ∧ ∀ s, ix o' s = some true ↔ ∃ e ∈ g.edges_, e.kind_ = kd ∧ e.to_ = s ∧ ix a e.from_ = some true := by
  have h1 := hg.s1
  have h2 := hg.s2
  have h3 := hg.el
  obtain ⟨o', e1, e2, e3⟩ := mBehindL g hg a ha kd g.edges_ [] n (List.replicate g.scopes_.toNat false) rfl (by omega) (by simp; omega)
  refine ⟨o', ?_, e2, fun s => ?_⟩
  · unfold m_spec_l12Behind
    rw [gp_pos (by omega)]
    exact e1
  · rw [e3]
    constructor
    · rintro (h | h)
      · unfold ix at h
        split at h
        · rw [List.getElem?_replicate] at h; split at h <;> simp at h
        · cases h
      · exact h
    · exact .inr
/-! ### levels -/
/-- By k edges of kind 1 from a. -/
def W (g : gSg) (a : Int) : Nat → Int → Prop
  | 0, s => s = a
  | k + 1, s => ∃ e ∈ g.edges_, e.kind_ = 1 ∧ e.to_ = s ∧ W g a k e.from_
/-- The level m: an even one is W, an odd one is what is imported there. -/
def Lv (g : gSg) (a : Int) (m : Nat) (s : Int) : Prop := if m % 2 = 0 then W g a (m / 2) s else ∃ e ∈ g.edges_, e.kind_ = 2 ∧ e.to_ = s ∧ W g a (m / 2) e.from_
/-- What a resolution gives: those of the least level that has some. -/
def Rs (g : gSg) (q : gSpot) (l : List Int) : Prop :=
  (∃ m : Nat, (m : Int) ≤ 2 * g.scopes_ + 1 ∧ (∀ m' < m, ∀ d ∈ g.decls_, d.name_ = q.name_ → ¬ Lv g q.scope_ m' d.scope_) ∧ l ≠ [] ∧ ∃ p : gSpot → Bool, l = sel p g.decls_ 0 ∧ ∀ d ∈ g.decls_, p d = true ↔ (Lv g q.scope_ m d.scope_ ∧ d.name_ = q.name_)) ∨
  (l = [] ∧ ∀ m : Nat, (m : Int) ≤ 2 * g.scopes_ + 1 → ∀ d ∈ g.decls_, d.name_ = q.name_ → ¬ Lv g q.scope_ m d.scope_)
theorem mResL {n : Nat} (hn : 200 ≤ n) (g : gSg) (hg : Gr g) (q : gSpot) : ∀ (k i : Nat) (a : List Bool), (g.scopes_ + 1 : Int) - i < k → (i : Int) ≤ g.scopes_ + 1 → (a.length : Int) = g.scopes_ → (∀ s, ix a s = some true ↔ W g q.scope_ i s) → (∀ m' < 2 * i, ∀ d ∈ g.decls_, d.name_ = q.name_ → ¬ Lv g q.scope_ m' d.scope_) → ∃ l, m_spec_l12Resolve_l13 n g q k (i : Int) a = some l ∧ Rs g q l
  | 0, i, a, hk, hi, ha, hw, hm => by omega
  | k + 1, i, a, hk, hi, ha, hw, hm => by
    have h2 := hg.s2
    rw [m_spec_l12Resolve_l13]
    by_cases c : (i : Int) ≤ g.scopes_
    · rw [decide_eq_true c, cond_true]
      simp only [mIn hg ha q.name_ hn, Option.bind_some]
      have lv0 : ∀ s, Lv g q.scope_ (2 * i) s ↔ W g q.scope_ i s := fun s => by
        unfold Lv; rw [if_pos (by omega), show 2 * i / 2 = i by omega]
      generalize hl : sel (fun d => decide (ix a d.scope_ = some true) && decide (d.name_ = q.name_)) g.decls_ 0 = l
      by_cases z : l = []
      · have z' := z
        rw [← hl] at z'
        have zz := sel_nil.mp z'
        have e0 : (((l.map I).length : Int) == 0) = true := by rw [z]; rfl
        rw [e0, cond_true]
        obtain ⟨o2, f1, f2, f3⟩ := mBehind hg ha 2 hn
        have lv1 : ∀ s, Lv g q.scope_ (2 * i + 1) s ↔ ix o2 s = some true := fun s => by
          unfold Lv; rw [if_neg (by omega), show (2 * i + 1) / 2 = i by omega, f3]
          exact ⟨fun ⟨e, a1, a2, a3, a4⟩ => ⟨e, a1, a2, a3, (hw _).mpr a4⟩, fun ⟨e, a1, a2, a3, a4⟩ => ⟨e, a1, a2, a3, (hw _).mp a4⟩⟩
        have no0 : ∀ m' < 2 * i + 1, ∀ d ∈ g.decls_, d.name_ = q.name_ → ¬ Lv g q.scope_ m' d.scope_ := fun m' hm' d hd hnm hv => by
          by_cases e : m' = 2 * i
          · subst e
            have := zz d hd
            simp only [Bool.and_eq_false_iff, decide_eq_false_iff_not] at this
            rcases this with h | h
            · exact h ((hw _).mpr ((lv0 _).mp hv))
            · exact h hnm
          · exact hm m' (by omega) d hd hnm hv
        simp only [f1, Option.bind_some, mIn hg f2 q.name_ hn, m_spec_l12Resolve_j15]
        generalize hl2 : sel (fun d => decide (ix o2 d.scope_ = some true) && decide (d.name_ = q.name_)) g.decls_ 0 = l2
        by_cases z2 : l2 = []
        · have z2' := z2
          rw [← hl2] at z2'
          have zz2 := sel_nil.mp z2'
          have e1 : decide (((l2.map I).length : Int) > 0) = false := by rw [z2]; rfl
          obtain ⟨o1, g1, g2, g3⟩ := mBehind hg ha 1 hn
          rw [e1, cond_false]
          simp only [g1, Option.bind_some]
          rw [show wr .i64 ((i : Int) + 1) = ((i + 1 : Nat) : Int) from (w64 (by omega)).trans (by simp)]
          refine mResL hn g hg q k (i + 1) o1 (by omega) (by omega) g2 (fun s => ?_) (fun m' hm' d hd hnm hv => ?_)
          · rw [g3]
            exact ⟨fun ⟨e, a1, a2, a3, a4⟩ => ⟨e, a1, a2, a3, (hw _).mp a4⟩, fun ⟨e, a1, a2, a3, a4⟩ => ⟨e, a1, a2, a3, (hw _).mpr a4⟩⟩
          · by_cases e : m' = 2 * i + 1
            · subst e
              have := zz2 d hd
              simp only [Bool.and_eq_false_iff, decide_eq_false_iff_not] at this
              rcases this with h | h
              · exact h ((lv1 _).mp hv)
              · exact h hnm
            · exact no0 m' (by omega) d hd hnm hv
        · have e1 : decide (((l2.map I).length : Int) > 0) = true := by
            have := List.length_pos_iff.mpr z2
            rw [List.length_map]; exact decide_eq_true (by omega)
          rw [e1, cond_true]
          refine ⟨l2, rfl, .inl ⟨2 * i + 1, by omega, no0, z2, _, hl2.symm, fun d hd => ?_⟩⟩
          simp only [Bool.and_eq_true, decide_eq_true_eq, lv1]
      · have e0 : (((l.map I).length : Int) == 0) = false := by
          have := List.length_pos_iff.mpr z
          rw [List.length_map]; simp; omega
        have e1 : decide (((l.map I).length : Int) > 0) = true := by
          have := List.length_pos_iff.mpr z
          rw [List.length_map]; exact decide_eq_true (by omega)
        rw [e0, cond_false, m_spec_l12Resolve_j15, e1, cond_true]
        refine ⟨l, rfl, .inl ⟨2 * i, by omega, hm, z, _, hl.symm, fun d hd => ?_⟩⟩
        simp only [Bool.and_eq_true, decide_eq_true_eq, lv0, hw]
    · rw [decide_eq_false c]
      exact ⟨[], rfl, .inr ⟨rfl, fun m hmm => hm m (by omega)⟩⟩
theorem mRes {n : Nat} (hn : 200 ≤ n) {g : gSg} (hg : Gr g) {q : gSpot} (hq : 0 ≤ q.scope_ ∧ q.scope_ < g.scopes_) : ∃ l, m_spec_l12Resolve n g q = some l ∧ Rs g q l := by
  have h1 := hg.s1
  have h2 := hg.s2
  unfold m_spec_l12Resolve
  rw [gp_pos (by omega), ix_rep hq.1 (by omega)]
  exact mResL hn g hg q n 0 _ (by omega) (by omega) (by simp; omega) (fun s => by
    rw [ix_set hq.1 (by simp; omega)]
    by_cases e : s = q.scope_
    · rw [if_pos e]; simp [W, e]
    · rw [if_neg e]
      simp only [W, e, iff_false]
      unfold ix
      split
      · rw [List.getElem?_replicate]; split <;> simp
      · simp) (fun m' hm' => by omega)
end Go.Proofs.Ytegpjjnedbbpjaa.Z
