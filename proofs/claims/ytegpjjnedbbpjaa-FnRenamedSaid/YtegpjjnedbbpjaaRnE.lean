/- FnRenamed, plain: the program's search and resolution. -/
import Derived.Test.YtegpjjnedbbpjaaRnC
set_option linter.unusedVariables false
set_option linter.unusedSimpArgs false
namespace Go.Proofs.Ytegpjjnedbbpjaa.Z
open Go Go.RowKit Go.Proofs.Sy Go.Proofs
set_option maxRecDepth 100000
theorem stepIn (n : Nat) (g : gSg) (hg : Gr g) (a c v : Int) (rc : Int → List Int → List Int → List Int → Option (List Int)) (Pn : List Int) (hc : 0 ≤ c) :
    ∀ (r pre : List gSEdge) (k : Nat) (up T out : List Int), g.edges_ = pre ++ r → r.length < k → c ∈ T → (∀ s ∈ T, V up s ≤ V up c + 2) →
      Iv g a up T out (fun s => s ∈ Pn ∨ s = c) (fun e => e.from_ ∈ Pn ∨ (e.from_ = c ∧ e ∈ pre)) →
      ∃ up' T2 out', m_impl_Sg_steps_l23 n g v rc c k (pre.length : Int) up T out = rc (wr .i64 (v + 1)) up' (T ++ T2) out' ∧ (∀ s ∈ T ++ T2, V up' s ≤ V up' c + 2) ∧
        Iv g a up' (T ++ T2) out' (fun s => s ∈ Pn ∨ s = c) (fun e => e.from_ ∈ Pn ∨ (e.from_ = c ∧ e ∈ g.edges_))
  | [], pre, k, up, T, out, h, hk, hcT, near, iv => by
    obtain ⟨k, rfl⟩ : ∃ m, k = m + 1 := ⟨k - 1, by simp at hk; omega⟩
    have hl : ¬ (pre.length : Int) < ((g.edges_.map gSEdge.enc).length : Int) := by rw [List.length_map, h]; simp
    rw [List.append_nil] at h
    refine ⟨up, [], out, by rw [m_impl_Sg_steps_l23, decide_eq_false hl, List.append_nil]; rfl, by rw [List.append_nil]; exact near, ?_⟩
    rw [List.append_nil, h]; exact iv
  | q :: r, pre, k, up, T, out, h, hk, hcT, near, iv => by
    obtain ⟨k, rfl⟩ : ∃ m, k = m + 1 := ⟨k - 1, by simp at hk; omega⟩
    have hel := hg.el
    have hTl := iv.len hg
    have hs2 := hg.s2
    have h3 : g.edges_.length = pre.length + (r.length + 1) := by rw [h]; simp
    have p2 : (pre.length : Int) < ((g.edges_.map gSEdge.enc).length : Int) := by rw [List.length_map]; omega
    have e : ix g.edges_ (pre.length : Int) = some q := by rw [h, ixp]
    have hqm : q ∈ g.edges_ := by rw [h]; simp
    obtain ⟨r1, r2, r3, r4, r5⟩ := hg.e q hqm
    have ih := fun up T out => stepIn n g hg a c v rc Pn hc r (pre ++ [q]) k up T out (by rw [h]; simp) (by simp at hk; omega)
    rw [m_impl_Sg_steps_l23, decide_eq_true p2]
    simp only [e, cond_true, Option.bind_some, wln pre q (by omega)]
    by_cases k1 : q.from_ = c
    · have e1 : (q.from_ != c) = false := by simpa using k1
      obtain ⟨kk, wk1, wk2⟩ := iv.wk c hcT
      have hcr := iv.rg c hcT
      have ec : ix up c = some (V up c) := V_ix hcr.1 (by have := iv.lu; omega)
      have et : ix up q.to_ = some (V up q.to_) := V_ix r3 (by have := iv.lu; omega)
      have hvb : V up c ≤ 2 * 60 := by
        obtain ⟨j, hj⟩ := List.getElem?_of_mem hcT
        have h1 := iv.bd j c hj
        have h2 := (List.getElem?_eq_some_iff.mp hj).1
        omega
      rw [e1, cond_false]
      by_cases k2 : q.kind_ = 2
      · have e2 : (q.kind_ == 2) = true := by simpa using k2
        rw [e2, cond_true]
        have hw : wr .i64 (V up c + 1) = V up c + 1 := w64 (by omega)
        simp only [ec, Option.bind_some, hw, mSee (n := n) (out := out) (s := q.to_) (x := V up c + 1) r3 (by have := iv.lo; omega)]
        refine ih up T _ hcT near ?_
        refine iv.saw (m := 2 * kk + 1) r3 r4 (by omega) ?_ (fun t ht => .inl ht) (fun e' he' => ?_)
        · unfold Lv
          rw [if_neg (by omega), show (2 * kk + 1) / 2 = kk by omega]
          exact ⟨q, hqm, k2, rfl, by rw [k1]; exact wk2⟩
        · rcases he' with h' | ⟨h1, h2⟩
          · exact .inl (.inl h')
          · rcases List.mem_append.mp h2 with h2 | h2
            · exact .inl (.inr ⟨h1, h2⟩)
            · rw [List.mem_singleton.mp h2]; exact .inr ⟨k2, rfl, by rw [k1], by rw [k1]; exact hcT⟩
      · have e2 : (q.kind_ == 2) = false := by simpa using k2
        have k3 : q.kind_ = 1 := by omega
        rw [e2, cond_false]
        simp only [et, Option.bind_some]
        by_cases k4 : V up q.to_ < 0
        · have hnT : q.to_ ∉ T := fun hm => by have := (iv.mem q.to_).mpr hm; omega
          have hw : wr .i64 (V up c + 2) = V up c + 2 := w64 (by omega)
          rw [decide_eq_true k4, cond_true]
          simp only [ec, Option.bind_some, hw, gp_pos (show T.length + ([q.to_] : List Int).length ≤ 68719476736 by simp; omega)]
          have pv := iv.push hg hqm k3 (by rw [k1]; exact hcT) hnT (by rw [k1]; exact near) (by rw [k1]; exact List.getElem?_of_mem hcT) (De' := fun e => e.from_ ∈ Pn ∨ (e.from_ = c ∧ e ∈ pre ++ [q])) (fun e' he' => by
            rcases he' with h' | ⟨h1, h2⟩
            · exact .inl (.inl h')
            · rcases List.mem_append.mp h2 with h2 | h2
              · exact .inl (.inr ⟨h1, h2⟩)
              · exact .inr (List.mem_singleton.mp h2))
          rw [k1] at pv
          have hsv := fun t => V_set (l := up) (i := q.to_) (x := V up c + 2) (j := t) r3 (by have := iv.lu; omega)
          have hcne : ¬ c = q.to_ := fun e => hnT (e ▸ hcT)
          obtain ⟨up', T2, out', f1, f2, f3⟩ := ih _ _ _ (by simp [hcT]) (fun s hs => by
            rw [hsv, hsv, if_neg hcne]
            split
            · omega
            · rename_i hne
              rcases List.mem_append.mp hs with hs | hs
              · exact near s hs
              · exact absurd (List.mem_singleton.mp hs) hne) pv
          refine ⟨up', q.to_ :: T2, out', by rw [f1]; simp, ?_, ?_⟩
          · simpa using f2
          · simpa using f3
        · rw [decide_eq_false k4, cond_false]
          refine ih up T out hcT near ?_
          have hT : q.to_ ∈ T := (iv.mem q.to_).mp (by omega)
          refine ⟨iv.lu, iv.lo, iv.nd, iv.rg, iv.mem, iv.aT, iv.ua, iv.wk, fun e' hm he' hk' => ?_, fun e' hm he' hk' => ?_, iv.dn, iv.dt, fun e' hm he' => ?_, iv.sd, iv.mono, iv.bd⟩
          · rcases he' with h' | ⟨h1, h2⟩
            · exact iv.cl1 e' hm (.inl h') hk'
            · rcases List.mem_append.mp h2 with h2 | h2
              · exact iv.cl1 e' hm (.inr ⟨h1, h2⟩) hk'
              · rw [List.mem_singleton.mp h2]; exact ⟨hT, by rw [k1]; exact near _ hT⟩
          · rcases he' with h' | ⟨h1, h2⟩
            · exact iv.cl2 e' hm (.inl h') hk'
            · rcases List.mem_append.mp h2 with h2 | h2
              · exact iv.cl2 e' hm (.inr ⟨h1, h2⟩) hk'
              · rw [List.mem_singleton.mp h2] at hk'; omega
          · rcases he' with h' | ⟨h1, h2⟩
            · exact iv.de e' hm (.inl h')
            · rw [h1]; exact hcT
    · have e1 : (q.from_ != c) = true := by simpa using k1
      rw [e1, cond_true]
      refine ih up T out hcT near (iv.weak (fun _ h => h) (fun e' _ he' => ?_))
      rcases he' with h' | ⟨h1, h2⟩
      · exact .inl h'
      · rcases List.mem_append.mp h2 with h2 | h2
        · exact .inr ⟨h1, h2⟩
        · rw [List.mem_singleton.mp h2] at h1; exact absurd h1 k1
theorem stepOut (n : Nat) (hn : 200 ≤ n) (g : gSg) (hg : Gr g) (a : Int) : ∀ (k : Nat) (Pn rest : List Int) (up out : List Int), g.scopes_ < k + Pn.length →
    (∀ s ∈ Pn ++ rest, ∀ c ∈ rest, V up s ≤ V up c + 2) → Iv g a up (Pn ++ rest) out (fun s => s ∈ Pn) (fun e => e.from_ ∈ Pn) →
      ∃ up' T out', m_impl_Sg_steps_l20 n g k (Pn.length : Int) up (Pn ++ rest) out = some out' ∧ Iv g a up' T out' (fun s => s ∈ T) (fun e => e.from_ ∈ T)
  | 0, Pn, rest, up, out, hk, near, iv => by
    have := iv.len hg
    rw [List.length_append] at this
    omega
  | k + 1, Pn, [], up, out, hk, near, iv => by
    have hl : ¬ (Pn.length : Int) < (((Pn ++ ([] : List Int)).length : Nat) : Int) := by simp
    rw [List.append_nil] at iv
    exact ⟨up, Pn, out, by rw [m_impl_Sg_steps_l20, decide_eq_false hl]; rfl, iv⟩
  | k + 1, Pn, c :: rest, up, out, hk, near, iv => by
    have hl : (Pn.length : Int) < (((Pn ++ c :: rest).length : Nat) : Int) := by simp; omega
    have hTl := iv.len hg
    have hs2 := hg.s2
    have hel := hg.el
    have hcT : c ∈ Pn ++ c :: rest := by simp
    have hcr := iv.rg c hcT
    obtain ⟨kk, wk1, wk2⟩ := iv.wk c hcT
    rw [m_impl_Sg_steps_l20, decide_eq_true hl]
    rw [show ix (Pn ++ c :: rest) (Pn.length : Int) = some c from ixp Pn c rest]
    simp only [cond_true, Option.bind_some, V_ix (l := up) hcr.1 (by have := iv.lu; omega), mSee (n := n) (out := out) (s := c) (x := V up c) hcr.1 (by have := iv.lo; omega)]
    have iv1 := iv.saw (m := 2 * kk) (s := c) (x := V up c) hcr.1 hcr.2 (by omega) (by unfold Lv; rw [if_pos (by omega), show 2 * kk / 2 = kk by omega]; exact wk2) (Dn' := fun s => s ∈ Pn ∨ s = c) (De' := fun e => e.from_ ∈ Pn ∨ (e.from_ = c ∧ e ∈ ([] : List gSEdge))) (fun t ht => ht.imp id (fun e => ⟨e, rfl, hcT⟩)) (fun e he => .inl (by simpa using he))
    obtain ⟨up', T2, out', f1, f2, f3⟩ := stepIn n g hg a c (Pn.length : Int) (m_impl_Sg_steps_l20 n g k) Pn hcr.1 g.edges_ [] n up (Pn ++ c :: rest) _ rfl (by omega) hcT (fun s hs => near s hs c (by simp)) iv1
    have e0 : m_impl_Sg_steps_l23 n g (Pn.length : Int) (m_impl_Sg_steps_l20 n g k) c n 0 up (Pn ++ c :: rest) (see out c (V up c)) = _ := f1
    rw [e0, wln Pn c (by rw [List.length_append] at hTl; omega)]
    have hT' : (Pn ++ c :: rest) ++ T2 = (Pn ++ [c]) ++ (rest ++ T2) := by simp
    rw [hT'] at f2 f3 ⊢
    refine stepOut n hn g hg a k (Pn ++ [c]) (rest ++ T2) up' out' (by simp; omega) (fun s hs x hx => ?_) (f3.weak (fun t ht => by simpa using ht) (fun e hm he => ?_))
    · have h1 := f2 s hs
      have h2 := (List.pairwise_append.mp f3.mono).2.2 c (by simp) x hx
      omega
    · rcases List.mem_append.mp he with he | he
      · exact .inl he
      · exact .inr ⟨List.mem_singleton.mp he, hm⟩
/-- What the search comes to. -/
structure Far (g : gSg) (a : Int) (out : List Int) : Prop where
  len : (out.length : Int) = g.scopes_
  sd : ∀ s, 0 ≤ V out s → ∃ m : Nat, V out s = m ∧ Lv g a m s ∧ (m : Int) ≤ 2 * g.scopes_ + 1
  cp : ∀ (m : Nat) s, Lv g a m s → 0 ≤ V out s ∧ V out s ≤ m
theorem Far.of {g : gSg} (hg : Gr g) {a : Int} {up T out : List Int} (iv : Iv g a up T out (fun s => s ∈ T) (fun e => e.from_ ∈ T)) : Far g a out := by
  have hT := iv.len hg
  have walk : ∀ (k : Nat) s, W g a k s → s ∈ T ∧ V up s ≤ 2 * k := fun k => by
    induction k with
    | zero => intro s hs; rw [show s = a from hs]; exact ⟨iv.aT, by rw [iv.ua]; omega⟩
    | succ k ih =>
      rintro s ⟨e, h1, h2, rfl, h4⟩
      obtain ⟨h5, h6⟩ := ih _ h4
      obtain ⟨h7, h8⟩ := iv.cl1 e h1 h5 h2
      exact ⟨h7, by omega⟩
  have upb : ∀ s ∈ T, V up s ≤ 2 * g.scopes_ := fun s hs => by
    obtain ⟨j, hj⟩ := List.getElem?_of_mem hs
    have h1 := iv.bd j s hj
    have h2 := (List.getElem?_eq_some_iff.mp hj).1
    omega
  refine ⟨iv.lo, fun s hs => ?_, fun m s hm => ?_⟩
  · obtain ⟨m, h1, h2⟩ := iv.sd s hs
    refine ⟨m, h1, h2, ?_⟩
    unfold Lv at h2
    split at h2
    · have h3 := (walk _ _ h2).1
      have h4 := iv.dn s h3
      have h5 := upb s h3
      omega
    · obtain ⟨e, a1, a2, rfl, a4⟩ := h2
      have h3 := (walk _ _ a4).1
      have h4 := iv.cl2 e a1 h3 a2
      have h5 := upb _ h3
      omega
  · unfold Lv at hm
    split at hm
    · obtain ⟨h3, h4⟩ := walk _ _ hm
      have h5 := iv.dn s h3
      omega
    · obtain ⟨e, a1, a2, rfl, a4⟩ := hm
      obtain ⟨h3, h4⟩ := walk _ _ a4
      have h5 := iv.cl2 e a1 h3 a2
      omega
theorem mInit (n : Nat) (g : gSg) (hg : Gr g) (a : Int) : ∀ (j k : Nat) (up out : List Int), (g.scopes_ - j : Int) < k → (j : Int) ≤ g.scopes_ → (up.length : Int) = g.scopes_ → (out.length : Int) = g.scopes_ → (∀ s, s < (j : Int) → V up s = -1 ∧ V out s = -1) →
    ∃ up' out', m_impl_Sg_steps_l24 n g a k (j : Int) up out = m_impl_Sg_steps_j2 n g a up' out' ∧ (up'.length : Int) = g.scopes_ ∧ (out'.length : Int) = g.scopes_ ∧ ∀ s, s < g.scopes_ → V up' s = -1 ∧ V out' s = -1
  | j, 0, up, out, hk, hj, hu, ho, hv => by omega
  | j, k + 1, up, out, hk, hj, hu, ho, hv => by
    have hs2 := hg.s2
    have hs1 := hg.s1
    have e : ((g.scopes_.toNat : Nat) : Int) = g.scopes_ := by omega
    rw [m_impl_Sg_steps_l24, e]
    by_cases c : (j : Int) < g.scopes_
    · rw [decide_eq_true c]
      simp only [cond_true, V_ix (l := out) (s := (j : Int)) (by omega) (by omega), V_ix (l := up) (s := (j : Int)) (by omega) (by omega), Option.bind_some]
      rw [show wr .i64 ((j : Int) + 1) = ((j + 1 : Nat) : Int) from (w64 (by omega)).trans (by simp)]
      refine mInit n g hg a (j + 1) k _ _ (by omega) (by omega) (by rw [List.length_set]; exact hu) (by rw [List.length_set]; exact ho) (fun s hs => ?_)
      rw [V_set (by omega) (by omega), V_set (by omega) (by omega)]
      by_cases h : s = (j : Int)
      · rw [if_pos h, if_pos h]; exact ⟨rfl, rfl⟩
      · rw [if_neg h, if_neg h]; exact hv s (by omega)
    · rw [decide_eq_false c]
      exact ⟨up, out, rfl, hu, ho, fun s hs => hv s (by omega)⟩
theorem mSteps {n : Nat} (hn : 200 ≤ n) {g : gSg} (hg : Gr g) {a : Int} (h0 : 0 ≤ a) (h1 : a < g.scopes_) : ∃ out, m_impl_Sg_steps n g a = some out ∧ Far g a out := by
  have hs2 := hg.s2
  have hs1 := hg.s1
  unfold m_impl_Sg_steps
  rw [gp_pos (by omega), gp_pos (by omega)]
  obtain ⟨up, out, e, hu, ho, hv⟩ := mInit n g hg a 0 n (List.replicate g.scopes_.toNat 0) (List.replicate g.scopes_.toNat 0) (by omega) (by omega) (by simp; omega) (by simp; omega) (fun s hs => by
    have : ∀ (l : List Int), V l s = -1 := fun l => by unfold V ix; rw [if_neg (by omega)]; rfl
    exact ⟨this _, this _⟩)
  have e' : m_impl_Sg_steps_l24 n g a n 0 (List.replicate g.scopes_.toNat 0) (List.replicate g.scopes_.toNat 0) = _ := e
  rw [e', m_impl_Sg_steps_j2, V_ix (l := up) h0 (by omega)]
  simp only [Option.bind_some]
  have vs := fun t => V_set (l := up) (i := a) (x := 0) (j := t) h0 (by omega)
  have neg : ∀ (l : List Int), (l.length : Int) = g.scopes_ → (∀ s, s < g.scopes_ → V l s = -1) → ∀ s, ¬ 0 ≤ V l s := fun l hl hm s h => by
    have h2 := V_rng h
    have := hm s (by omega)
    omega
  have nu := neg up hu (fun s hs => (hv s hs).1)
  have no := neg out ho (fun s hs => (hv s hs).2)
  obtain ⟨up', T, out', f1, f2⟩ := stepOut n hn g hg a n [] [a] (up.set a.toNat 0) out (by simp; omega) (fun s hs c hc => by
    simp only [List.nil_append, List.mem_singleton] at hs hc
    subst hs; subst hc; omega) ⟨by rw [List.length_set]; exact hu, ho, by simp, fun s hs => by simp at hs; subst hs; exact ⟨h0, h1⟩, fun s => by
      rw [vs]
      by_cases e : s = a
      · rw [if_pos e]; simp [e]
      · rw [if_neg e]; simp [e]; exact Int.not_le.mp (nu s), by simp, by rw [vs, if_pos rfl], fun s hs => by
      simp at hs; subst hs; exact ⟨0, by rw [vs, if_pos rfl]; rfl, rfl⟩, fun e _ he => by simp at he, fun e _ he => by simp at he, fun s hs => by simp at hs, fun s hs => by simp at hs, fun e _ he => by simp at he, fun s hs => absurd hs (no s), by simp, fun j s hj => by
      cases j with
      | zero => simp at hj; subst hj; rw [vs, if_pos rfl]; omega
      | succ j => simp at hj⟩
  exact ⟨out', f1, Far.of hg f2⟩
end Go.Proofs.Ytegpjjnedbbpjaa.Z
