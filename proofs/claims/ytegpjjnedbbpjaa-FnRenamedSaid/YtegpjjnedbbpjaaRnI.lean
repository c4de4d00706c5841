/- FnRenamed, plain: the law behind its draw. -/
import Derived.Test.YtegpjjnedbbpjaaRnH
set_option linter.unusedVariables false
set_option linter.unusedSimpArgs false
namespace Go.Proofs.Ytegpjjnedbbpjaa.Z
open Go Go.RowKit Go.Proofs.Sy Go.Proofs
set_option maxRecDepth 100000
theorem outG_ok {g : gSg} (h : okG g = true) {dc : Int} {nm : ByteArray} (hnm : nameOK nm = true) {x : gSpot} {rs : List gSpot} (hx : x ∈ g.decls_) (hr : rs.map (·.scope_) = g.refs_.map (·.scope_)) (hn : ∀ d ∈ rs, d ∈ g.refs_ ∨ d.name_ = nm) : okG (outG g dc nm x rs) = true := by
  have hg := Gr.of h
  have hlen : rs.length = g.refs_.length := by have := congrArg List.length hr; simpa using this
  simp only [okG, Bool.and_eq_true, decide_eq_true_eq, List.all_eq_true] at h ⊢
  obtain ⟨h1, h2, h3, h4, h5, h6, h7, h8⟩ := h
  simp only [outG, List.length_set]
  refine ⟨h1, h2, h3, h4, by omega, h6, fun d hd => ?_, fun d hd => ?_⟩
  · rcases List.mem_or_eq_of_mem_set hd with hd | rfl
    · exact h7 d hd
    · have := h7 x hx
      simp only [spotOK, Bool.and_eq_true] at this ⊢
      exact ⟨this.1, hnm⟩
  · have hsc : d.scope_ ∈ g.refs_.map (·.scope_) := by rw [← hr]; exact List.mem_map_of_mem hd
    obtain ⟨q, hq, e⟩ := List.mem_map.mp hsc
    have hq' := h8 q hq
    simp only [spotOK, Bool.and_eq_true] at hq' ⊢
    refine ⟨by rw [← e]; exact hq'.1, ?_⟩
    rcases hn d hd with hd' | hd'
    · have := h8 d hd'
      simp only [spotOK, Bool.and_eq_true] at this
      exact this.2
    · rw [hd']; exact hnm
theorem keeps_at {g o : gSg} : ∀ {r r' : List gSpot}, keeps g o r r' = true → ∀ {i : Int} {q q' : gSpot}, ix r i = some q → ix r' i = some q' → rsv g q = rsv o q' := by
  have go : ∀ {r r' : List gSpot}, keeps g o r r' = true → ∀ {i : Nat} {q q' : gSpot}, r[i]? = some q → r'[i]? = some q' → rsv g q = rsv o q' := by
    intro r
    induction r with
    | nil => intro r' _ i q q' h; simp at h
    | cons a r ih =>
      intro r' h i q q' h1 h2
      cases r' with
      | nil => simp at h2
      | cons a' r' =>
        simp only [keeps, Bool.and_eq_true, decide_eq_true_eq] at h
        cases i with
        | zero => simp at h1 h2; subst h1; subst h2; exact h.1
        | succ i => exact ih h.2 (by simpa using h1) (by simpa using h2)
  intro r r' h i q q' h1 h2
  unfold ix at h1 h2
  by_cases c : 0 ≤ i
  · rw [if_pos c] at h1 h2; exact go h h1 h2
  · rw [if_neg c] at h1; cases h1
theorem resolve_i {n : Nat} (hn : 200 ≤ n) {g : gSg} (h : okG g = true) {i : Int} {q : gSpot} (hi : ix g.refs_ i = some q) : m_impl_Resolve n g i = some (if rsv g q = [] then ([], 8) else (rsv g q, 0)) := by
  have h1 := rename_s.ix_ge' hi
  unfold m_impl_Resolve
  rw [sgOK_i hn, h]
  simp only [Option.bind_some, Bool.not_true, cond_false, List.length_map]
  rw [decide_eq_false (show ¬ i < 0 by omega), decide_eq_false (show ¬ i ≥ (g.refs_.length : Int) by omega)]
  simp only [cond_false, m_impl_Resolve_j2, rsv_i hn (Gr.of h) hi, Option.bind_some]
  by_cases c : rsv g q = []
  · rw [c]; rfl
  · have : ((((rsv g q).map I).length : Int) == 0) = false := by
      have := List.length_pos_iff.mpr c
      rw [List.length_map]; simp; omega
    rw [this, if_neg c]; rfl
theorem lawL (n : Nat) (hn : 200 ≤ n) (g : gSg) (hg : okG g = true) (dc : Int) (nm : ByteArray) (z : Int) (o : gSg) (ho : okG o = true) (hr : o.refs_.map (·.scope_) = g.refs_.map (·.scope_)) (hk : keeps g o g.refs_ o.refs_ = true) : ∀ (r pre : List gSpot) (k : Nat), g.refs_ = pre ++ r → r.length < k → m_laws_FnRenamed_l3 n (g, dc, nm) (o, z) k (pre.length : Int) = some true
  | [], pre, k, h, hk' => by
    obtain ⟨k, rfl⟩ : ∃ m, k = m + 1 := ⟨k - 1, by simp at hk'; omega⟩
    have hl : ¬ (pre.length : Int) < ((g.refs_.map gSpot.enc).length : Int) := by rw [List.length_map, h]; simp
    rw [m_laws_FnRenamed_l3, decide_eq_false hl]; rfl
  | q :: r, pre, k, h, hk' => by
    obtain ⟨k, rfl⟩ : ∃ m, k = m + 1 := ⟨k - 1, by simp at hk'; omega⟩
    have hrl := (Gr.of hg).rl
    have h3 : g.refs_.length = pre.length + (r.length + 1) := by rw [h]; simp
    have p2 : (pre.length : Int) < ((g.refs_.map gSpot.enc).length : Int) := by rw [List.length_map]; omega
    have e1 : ix g.refs_ (pre.length : Int) = some q := by rw [h, ixp]
    obtain ⟨q', e2, hsc⟩ := scopes_at hr e1
    have he := keeps_at hk e1 e2
    have hl := rsv_len (Gr.of hg) ((Gr.of hg).r q (ix_mem e1))
    rw [m_laws_FnRenamed_l3, decide_eq_true p2]
    simp only [cond_true, resolve_i hn hg e1, resolve_i hn ho e2, Option.bind_some, ← he, e1, e2, hsc, bne_self_eq_false, cond_false, wln pre q (by omega)]
    have hself : m_laws_sameInts n (if rsv g q = [] then (([] : List Int), (8 : Int)) else (rsv g q, 0)).1 (if rsv g q = [] then (([] : List Int), (8 : Int)) else (rsv g q, 0)).1 = some true := by
      rw [eqL_ (by split <;> simp <;> omega) (by split <;> simp <;> omega)]; simp
    rw [hself]
    simp only [Option.bind_some, Bool.not_true, cond_false]
    exact lawL n hn g hg dc nm z o ho hr hk r (pre ++ [q]) k (by rw [h]; simp) (by simp at hk'; omega)
theorem law_of {n : Nat} (hn : 200 ≤ n) (code : List UInt8) (hd : code.length ≤ 1048576 → ∃ r, m_spec_DrawRename n code = some r) : m_laws_FnRenamed n code = some true := by
  unfold m_laws_FnRenamed m_laws_big
  simp only [Option.bind_some]
  by_cases g0 : ((bl code).length : Int) > 1048576
  · rw [decide_eq_true g0]; rfl
  rw [decide_eq_false g0, cond_false]
  obtain ⟨⟨g, dc, nm⟩, e⟩ := hd (by simp at g0; omega)
  simp only [e, Option.bind_some, rename_s hn, rename_i hn, bne_self_eq_false, cond_false]
  unfold RN
  by_cases c : (okG g && nameOK nm) = true
  · rw [if_pos c]
    simp only [Bool.and_eq_true] at c
    cases e1 : ix g.decls_ dc with
    | none => rfl
    | some x =>
      cases e2 : ren1 g dc nm g.refs_ with
      | none => rfl
      | some rs =>
        simp only []
        by_cases hk : keeps g (outG g dc nm x rs) g.refs_ rs = true
        · rw [if_pos hk]
          obtain ⟨s1, s2⟩ := ren1_sc e2
          have ho := outG_ok (dc := dc) c.1 c.2 (ix_mem e1) s1 s2
          have hr := rename_s.ix_ge' e1
          have e3 : ix (outG g dc nm x rs).decls_ dc = some ⟨x.scope_, nm⟩ := by
            simp only [outG]; rw [ix_set hr.1 hr.2, if_pos rfl]
          have hrl := (Gr.of c.1).rl
          have hs : ((outG g dc nm x rs).scopes_ != g.scopes_) = false := by simp [outG]
          have hee : ((((outG g dc nm x rs).edges_.map gSEdge.enc).length : Int) != ((g.edges_.map gSEdge.enc).length : Int)) = false := by simp [outG]
          simp only [bne_self_eq_false, cond_false, e3, Option.bind_some, decide_true, Bool.not_true, hs, hee]
          exact lawL n hn g c.1 dc nm 0 (outG g dc nm x rs) ho s1 hk g.refs_ [] n rfl (by omega)
        · rw [if_neg hk]; rfl
  · rw [if_neg c]; rfl
end Go.Proofs.Ytegpjjnedbbpjaa.Z
