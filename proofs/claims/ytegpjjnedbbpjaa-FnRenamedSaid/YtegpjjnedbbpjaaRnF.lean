/- FnRenamed, plain: the program's resolution gives what the reference's gives. -/
import Derived.Test.YtegpjjnedbbpjaaRnE
set_option linter.unusedVariables false
set_option linter.unusedSimpArgs false
namespace Go.Proofs.Ytegpjjnedbbpjaa.Z
open Go Go.RowKit Go.Proofs.Sy Go.Proofs
set_option maxRecDepth 100000
theorem sel_app (p : gSpot → Bool) (q : gSpot) : ∀ (l : List gSpot) (i : Nat), sel p (l ++ [q]) i = sel p l i ++ (if p q = true then [((i + l.length : Nat) : Int)] else [])
  | [], i => by simp only [List.nil_append, sel, List.length_nil, Nat.add_zero]
  | d :: r, i => by
    simp only [List.cons_append, sel, sel_app p q r (i + 1), List.length_cons]
    rw [show i + 1 + r.length = i + (r.length + 1) by omega]
    split <;> simp
/-- What stands of the search for the least, behind some declarations. -/
structure Bs (q : gSpot) (far : List Int) (pre : List gSpot) (best : Int) (out : List Int) : Prop where
  z : best < 0 → best = -1 ∧ out = [] ∧ ∀ d ∈ pre, d.name_ = q.name_ → V far d.scope_ < 0
  p : 0 ≤ best → out ≠ [] ∧ out = sel (fun d => decide (d.name_ = q.name_) && decide (V far d.scope_ = best)) pre 0 ∧ ∀ d ∈ pre, d.name_ = q.name_ → V far d.scope_ < 0 ∨ best ≤ V far d.scope_
theorem Bs.skip {q : gSpot} {far : List Int} {pre : List gSpot} {best : Int} {out : List Int} (h : Bs q far pre best out) (x : gSpot) (hx : x.name_ = q.name_ → V far x.scope_ < 0 ∨ (0 ≤ best ∧ best < V far x.scope_)) : Bs q far (pre ++ [x]) best out := by
  refine ⟨fun hb => ?_, fun hb => ?_⟩
  · obtain ⟨h1, h2, h3⟩ := h.z hb
    refine ⟨h1, h2, fun d hd hn => ?_⟩
    rcases List.mem_append.mp hd with hd | hd
    · exact h3 d hd hn
    · rw [List.mem_singleton.mp hd] at hn ⊢
      have := hx hn; omega
  · obtain ⟨h1, h2, h3⟩ := h.p hb
    refine ⟨h1, ?_, fun d hd hn => ?_⟩
    · rw [sel_app, ← h2]
      have : (decide (x.name_ = q.name_) && decide (V far x.scope_ = best)) = false := by
        simp only [Bool.and_eq_false_iff, decide_eq_false_iff_not]
        by_cases c : x.name_ = q.name_
        · have := hx c; right; omega
        · exact .inl c
      rw [this]; simp
    · rcases List.mem_append.mp hd with hd | hd
      · exact h3 d hd hn
      · rw [List.mem_singleton.mp hd] at hn ⊢
        have := hx hn; omega
theorem Bs.take {q : gSpot} {far : List Int} {pre : List gSpot} {best : Int} {out : List Int} (h : Bs q far pre best out) (x : gSpot) (hx : x.name_ = q.name_) (h0 : 0 ≤ V far x.scope_) (hb : best = V far x.scope_) : Bs q far (pre ++ [x]) best (out ++ [(pre.length : Int)]) := by
  refine ⟨fun hc => by omega, fun _ => ?_⟩
  obtain ⟨h1, h2, h3⟩ := h.p (by omega)
  refine ⟨by simp, ?_, fun d hd hn => ?_⟩
  · rw [sel_app, ← h2]
    rw [decide_eq_true hx, decide_eq_true hb.symm]
    simp
  · rcases List.mem_append.mp hd with hd | hd
    · exact h3 d hd hn
    · rw [List.mem_singleton.mp hd]; omega
theorem Bs.fresh {q : gSpot} {far : List Int} {pre : List gSpot} {best : Int} {out : List Int} (h : Bs q far pre best out) (x : gSpot) (hx : x.name_ = q.name_) (h0 : 0 ≤ V far x.scope_) (hb : best < 0 ∨ V far x.scope_ < best) : Bs q far (pre ++ [x]) (V far x.scope_) [(pre.length : Int)] := by
  have old : ∀ d ∈ pre, d.name_ = q.name_ → V far d.scope_ < 0 ∨ V far x.scope_ < V far d.scope_ := fun d hd hn => by
    by_cases c : best < 0
    · exact .inl ((h.z c).2.2 d hd hn)
    · have := (h.p (by omega)).2.2 d hd hn; omega
  refine ⟨fun hc => by omega, fun _ => ⟨by simp, ?_, fun d hd hn => ?_⟩⟩
  · rw [sel_app, decide_eq_true hx, decide_eq_true rfl]
    have : sel (fun d => decide (d.name_ = q.name_) && decide (V far d.scope_ = V far x.scope_)) pre 0 = [] := sel_nil.mpr fun d hd => by
      simp only [Bool.and_eq_false_iff, decide_eq_false_iff_not]
      by_cases c : d.name_ = q.name_
      · have := old d hd c; right; omega
      · exact .inl c
    rw [this]; simp
  · rcases List.mem_append.mp hd with hd | hd
    · have := old d hd hn; omega
    · rw [List.mem_singleton.mp hd]; omega
theorem mPickL (g : gSg) (hg : Gr g) (q : gSpot) (far : List Int) (hf : (far.length : Int) = g.scopes_) : ∀ (r pre : List gSpot) (k : Nat) (best : Int) (out : List Int), g.decls_ = pre ++ r → r.length < k → out.length ≤ pre.length → Bs q far pre best out → ∃ best' out', m_impl_Sg_resolve_l23 g q far k best (pre.length : Int) out = some out' ∧ Bs q far g.decls_ best' out'
  | [], pre, k, best, out, h, hk, ho, hb => by
    obtain ⟨k, rfl⟩ : ∃ m, k = m + 1 := ⟨k - 1, by simp at hk; omega⟩
    have hl : ¬ (pre.length : Int) < ((g.decls_.map gSpot.enc).length : Int) := by rw [List.length_map, h]; simp
    rw [List.append_nil] at h
    exact ⟨best, out, by rw [m_impl_Sg_resolve_l23, decide_eq_false hl]; rfl, by rw [h]; exact hb⟩
  | x :: r, pre, k, best, out, h, hk, ho, hb => by
    obtain ⟨k, rfl⟩ : ∃ m, k = m + 1 := ⟨k - 1, by simp at hk; omega⟩
    have hdl := hg.dl
    have h3 : g.decls_.length = pre.length + (r.length + 1) := by rw [h]; simp
    have p2 : (pre.length : Int) < ((g.decls_.map gSpot.enc).length : Int) := by rw [List.length_map]; omega
    have e : ix g.decls_ (pre.length : Int) = some x := by rw [h, ixp]
    have hx := hg.d x (by rw [h]; simp)
    have ev : ix far x.scope_ = some (V far x.scope_) := V_ix hx.1 (by omega)
    have ih := fun best out ho => mPickL g hg q far hf r (pre ++ [x]) k best out (by rw [h]; simp) (by simp at hk; omega) ho
    rw [m_impl_Sg_resolve_l23, decide_eq_true p2]
    simp only [e, ev, cond_true, Option.bind_some, wln pre x (by omega)]
    by_cases c1 : x.name_ = q.name_
    · rw [decide_eq_true c1]
      by_cases c2 : V far x.scope_ < 0
      · rw [decide_eq_true c2]
        exact ih best out (by simp; omega) (hb.skip x (fun _ => .inl c2))
      · rw [decide_eq_false c2]
        simp only [Bool.not_true, cond_false]
        have fresh := fun hh => ih (V far x.scope_) [(pre.length : Int)] (by simp) (hb.fresh x c1 (by omega) hh)
        by_cases c3 : best ≥ 0
        · rw [decide_eq_true c3, cond_true]
          by_cases c4 : V far x.scope_ > best
          · rw [decide_eq_true c4, cond_true]
            exact ih best out (by simp; omega) (hb.skip x (fun _ => .inr ⟨c3, c4⟩))
          · rw [decide_eq_false c4, cond_false, m_impl_Sg_resolve_j24, decide_eq_false (show ¬ best < 0 by omega), cond_false]
            by_cases c5 : V far x.scope_ < best
            · rw [decide_eq_true c5, m_impl_Sg_resolve_j27, cond_true, m_impl_Sg_resolve_j26, gp_pos (by simp), wln pre x (by omega)]
              exact fresh (.inr c5)
            · rw [decide_eq_false c5, m_impl_Sg_resolve_j27, cond_false, m_impl_Sg_resolve_j26, gp_pos (by simp; omega), wln pre x (by omega)]
              exact ih best _ (by simp; omega) (hb.take x c1 (by omega) (by omega))
        · rw [decide_eq_false c3, cond_false, m_impl_Sg_resolve_j24, decide_eq_true (show best < 0 by omega), cond_true, m_impl_Sg_resolve_j27, cond_true, m_impl_Sg_resolve_j26, gp_pos (by simp), wln pre x (by omega)]
          exact fresh (.inl (by omega))
    · rw [decide_eq_false c1]
      exact ih best out (by simp; omega) (hb.skip x (fun h => absurd h c1))
theorem mResI {n : Nat} (hn : 200 ≤ n) {g : gSg} (hg : Gr g) {i : Int} {q : gSpot} (hi : ix g.refs_ i = some q) : ∃ l, m_impl_Sg_resolve n g i = some l ∧ Rs g q l := by
  have hq := hg.r q (ix_mem hi)
  obtain ⟨far, e1, hf⟩ := mSteps hn hg hq.1 hq.2
  have hdl := hg.dl
  obtain ⟨best, out, e2, hb⟩ := mPickL g hg q far hf.len g.decls_ [] n (-1) [] rfl (by omega) (by simp) ⟨fun _ => ⟨rfl, rfl, fun d hd => by simp at hd⟩, fun h => by omega⟩
  have e2' : m_impl_Sg_resolve_l23 g q far n (-1) 0 [] = some out := e2
  refine ⟨out, by rw [m_impl_Sg_resolve, hi]; simp only [Option.bind_some, e1, e2'], ?_⟩
  by_cases c : best < 0
  · obtain ⟨h1, h2, h3⟩ := hb.z c
    refine .inr ⟨h2, fun m hm d hd hnm hv => ?_⟩
    have h4 := h3 d hd hnm
    have h5 := hf.cp m _ hv
    omega
  · obtain ⟨h1, h2, h3⟩ := hb.p (by omega)
    obtain ⟨m, hm⟩ : ∃ m : Nat, best = m := ⟨best.toNat, by omega⟩
    have key : ∀ d ∈ g.decls_, d.name_ = q.name_ → (V far d.scope_ = best ↔ Lv g q.scope_ m d.scope_) := fun d hd hnm => by
      constructor
      · intro h
        obtain ⟨m', a1, a2, _⟩ := hf.sd d.scope_ (by omega)
        rw [show m = m' by omega]; exact a2
      · intro h
        have h5 := hf.cp m _ h
        have h6 := h3 d hd hnm
        omega
    refine .inl ⟨m, ?_, fun m' hm' d hd hnm hv => ?_, h1, _, h2, fun d hd => ?_⟩
    · -- some declaration stands there
      have hne : ¬ ∀ d ∈ g.decls_, (decide (d.name_ = q.name_) && decide (V far d.scope_ = best)) = false := fun h => h1 (by rw [h2]; exact sel_nil.mpr h)
      obtain ⟨d, hd, h4⟩ : ∃ d ∈ g.decls_, (decide (d.name_ = q.name_) && decide (V far d.scope_ = best)) = true := by
        refine Classical.byContradiction fun hc => hne fun d hd => ?_
        cases h5 : (decide (d.name_ = q.name_) && decide (V far d.scope_ = best)) with
        | false => rfl
        | true => exact absurd ⟨d, hd, h5⟩ hc
      simp only [Bool.and_eq_true, decide_eq_true_eq] at h4
      obtain ⟨m', a1, a2, a3⟩ := hf.sd d.scope_ (by omega)
      omega
    · have h5 := hf.cp m' _ hv
      have h6 := h3 d hd hnm
      omega
    · simp only [Bool.and_eq_true, decide_eq_true_eq]
      constructor
      · rintro ⟨a1, a2⟩; exact ⟨(key d hd a1).mp a2, a1⟩
      · rintro ⟨a1, a2⟩; exact ⟨a2, (key d hd a2).mpr a1⟩
/-- There is but one such list. -/
theorem Rs.uniq {g : gSg} {q : gSpot} {l l' : List Int} (h : Rs g q l) (h' : Rs g q l') : l = l' := by
  have some_ : ∀ {m : Nat} {p : gSpot → Bool} {l : List Int}, l ≠ [] → l = sel p g.decls_ 0 → (∀ d ∈ g.decls_, p d = true ↔ (Lv g q.scope_ m d.scope_ ∧ d.name_ = q.name_)) → ∃ d ∈ g.decls_, Lv g q.scope_ m d.scope_ ∧ d.name_ = q.name_ := fun {m p l} h1 h2 h3 => by
    refine Classical.byContradiction fun hc => h1 ?_
    rw [h2]
    exact sel_nil.mpr fun d hd => by
      cases h5 : p d with
      | false => rfl
      | true => exact absurd ⟨d, hd, (h3 d hd).mp h5⟩ hc
  rcases h with ⟨m, a1, a2, a3, p, a4, a5⟩ | ⟨a1, a2⟩
  · obtain ⟨d, d1, d2, d3⟩ := some_ a3 a4 a5
    rcases h' with ⟨m', b1, b2, b3, p', b4, b5⟩ | ⟨b1, b2⟩
    · obtain ⟨d', e1, e2, e3⟩ := some_ b3 b4 b5
      have h1 : ¬ m < m' := fun hlt => b2 m hlt d d1 d3 d2
      have h2 : ¬ m' < m := fun hlt => a2 m' hlt d' e1 e3 e2
      have : m = m' := by omega
      subst this
      rw [a4, b4]
      exact sel_congr fun d hd => by
        have h3 := a5 d hd
        have h4 := b5 d hd
        cases h5 : p d <;> cases h6 : p' d <;> simp_all
    · exact absurd d2 (b2 m a1 d d1 d3)
  · rcases h' with ⟨m', b1, b2, b3, p', b4, b5⟩ | ⟨b1, b2⟩
    · obtain ⟨d', e1, e2, e3⟩ := some_ b3 b4 b5
      exact absurd e2 (a2 m' b1 d' e1 e3)
    · rw [a1, b1]
end Go.Proofs.Ytegpjjnedbbpjaa.Z
