/- FnRenamed, plain: Rename of both gives the same; the law behind its draw. -/
import Derived.Test.YtegpjjnedbbpjaaRnG
set_option linter.unusedVariables false
set_option linter.unusedSimpArgs false
namespace Go.Proofs.Ytegpjjnedbbpjaa.Z
open Go Go.RowKit Go.Proofs.Sy Go.Proofs
set_option maxRecDepth 100000
/-- The renamed graph. -/
def outG (g : gSg) (dc : Int) (nm : ByteArray) (x : gSpot) (rs : List gSpot) : gSg := gSg.mk g.scopes_ g.edges_ (g.decls_.set dc.toNat (gSpot.mk x.scope_ nm)) rs
theorem scopes_at {a b : List gSpot} (h : b.map (·.scope_) = a.map (·.scope_)) {i : Int} {q : gSpot} (hq : ix a i = some q) : ∃ q', ix b i = some q' ∧ q'.scope_ = q.scope_ := by
  unfold ix at hq ⊢
  by_cases c : 0 ≤ i
  · rw [if_pos c] at hq ⊢
    have h1 : (b.map (·.scope_))[i.toNat]? = (a.map (·.scope_))[i.toNat]? := by rw [h]
    rw [List.getElem?_map, List.getElem?_map, hq] at h1
    cases e : b[i.toNat]? with
    | none => rw [e] at h1; cases h1
    | some q' => rw [e] at h1; exact ⟨q', rfl, by simpa using h1⟩
  · rw [if_neg c] at hq; cases hq
theorem outG_gr {g : gSg} (hg : Gr g) {dc : Int} {nm : ByteArray} {x : gSpot} {rs : List gSpot} (hx : 0 ≤ x.scope_ ∧ x.scope_ < g.scopes_) (hr : rs.map (·.scope_) = g.refs_.map (·.scope_)) : Gr (outG g dc nm x rs) := by
  have hlen : rs.length = g.refs_.length := by have := congrArg List.length hr; simpa using this
  refine ⟨hg.s1, hg.s2, hg.el, by simp only [outG, List.length_set]; exact hg.dl, by simp only [outG]; rw [hlen]; exact hg.rl, hg.e, fun d hd => ?_, fun d hd => ?_⟩
  · simp only [outG] at hd
    rcases List.mem_or_eq_of_mem_set hd with h | rfl
    · exact hg.d d h
    · exact hx
  · simp only [outG] at hd ⊢
    have h1 : d.scope_ ∈ g.refs_.map (·.scope_) := by rw [← hr]; exact List.mem_map_of_mem hd
    obtain ⟨q, hq, e⟩ := List.mem_map.mp h1
    have := hg.r q hq
    rw [← e]; exact this
/-- All references mean what they meant. -/
def keeps (g o : gSg) : List gSpot → List gSpot → Bool
  | q :: r, q' :: r' => decide (rsv g q = rsv o q') && keeps g o r r'
  | _, _ => true
theorem keep_s (n : Nat) (hn : 200 ≤ n) (g : gSg) (hg : Gr g) (dc : Int) (nm : ByteArray) (x : gSpot) (rs : List gSpot) (ho : Gr (outG g dc nm x rs)) : ∀ (r pre r' pre' : List gSpot) (k : Nat), g.refs_ = pre ++ r → rs = pre' ++ r' → pre'.length = pre.length → r'.length = r.length → r.length < k → m_spec_Rename_l11 n g dc nm x rs k (pre.length : Int) = some (if keeps g (outG g dc nm x rs) r r' = true then (outG g dc nm x rs, 0) else (G0, 12))
  | [], pre, r', pre', k, h, h', hp, hr, hk => by
    obtain ⟨k, rfl⟩ : ∃ m, k = m + 1 := ⟨k - 1, by simp at hk; omega⟩
    have hl : ¬ (pre.length : Int) < ((g.refs_.map gSpot.enc).length : Int) := by rw [List.length_map, h]; simp
    rw [m_spec_Rename_l11, decide_eq_false hl]; rfl
  | q :: r, pre, [], pre', k, h, h', hp, hr, hk => by simp at hr
  | q :: r, pre, q' :: r', pre', k, h, h', hp, hr, hk => by
    obtain ⟨k, rfl⟩ : ∃ m, k = m + 1 := ⟨k - 1, by simp at hk; omega⟩
    have hrl := hg.rl
    have h3 : g.refs_.length = pre.length + (r.length + 1) := by rw [h]; simp
    have p2 : (pre.length : Int) < ((g.refs_.map gSpot.enc).length : Int) := by rw [List.length_map]; omega
    have e1 : ix g.refs_ (pre.length : Int) = some q := by rw [h, ixp]
    have e2 : ix rs (pre.length : Int) = some q' := by rw [h', ← hp, ixp]
    have hq := hg.r q (by rw [h]; simp)
    have hq' := ho.r q' (by simp only [outG]; rw [h']; simp)
    have l1 := rsv_len hg hq
    have l2 := rsv_len ho hq'
    have s2 : m_spec_l12Resolve n (gSg.mk g.scopes_ g.edges_ (g.decls_.set dc.toNat (gSpot.mk x.scope_ nm)) rs) q' = some (rsv (outG g dc nm x rs) q') := rsv_s hn ho hq'
    rw [m_spec_Rename_l11, decide_eq_true p2]
    simp only [e1, e2, cond_true, Option.bind_some, rsv_s hn hg hq, s2, eqS (a := rsv g q) (b := rsv (outG g dc nm x rs) q') (n := n) (by omega) (by omega), keeps, wln pre q (by omega)]
    by_cases c : rsv g q = rsv (outG g dc nm x rs) q'
    · simp only [decide_eq_true c, Bool.not_true, cond_false, Bool.true_and]
      exact keep_s n hn g hg dc nm x rs ho r (pre ++ [q]) r' (pre' ++ [q']) k (by rw [h]; simp) (by rw [h']; simp) (by simp [hp]) (by simpa using hr) (by simp at hk; omega)
    · simp only [decide_eq_false c, Bool.not_false, cond_true, Bool.false_and, Bool.false_eq_true, if_false]; rfl
theorem keep_i (n : Nat) (hn : 200 ≤ n) (g : gSg) (hg : Gr g) (dc : Int) (nm : ByteArray) (x : gSpot) (rs : List gSpot) (ho : Gr (outG g dc nm x rs)) : ∀ (r pre r' pre' : List gSpot) (k : Nat), g.refs_ = pre ++ r → rs = pre' ++ r' → pre'.length = pre.length → r'.length = r.length → r.length < k → m_impl_Rename_l10 n g dc nm x rs k (pre.length : Int) = some (if keeps g (outG g dc nm x rs) r r' = true then (outG g dc nm x rs, 0) else (G0, 12))
  | [], pre, r', pre', k, h, h', hp, hr, hk => by
    obtain ⟨k, rfl⟩ : ∃ m, k = m + 1 := ⟨k - 1, by simp at hk; omega⟩
    have hl : ¬ (pre.length : Int) < ((g.refs_.map gSpot.enc).length : Int) := by rw [List.length_map, h]; simp
    rw [m_impl_Rename_l10, decide_eq_false hl]; rfl
  | q :: r, pre, [], pre', k, h, h', hp, hr, hk => by simp at hr
  | q :: r, pre, q' :: r', pre', k, h, h', hp, hr, hk => by
    obtain ⟨k, rfl⟩ : ∃ m, k = m + 1 := ⟨k - 1, by simp at hk; omega⟩
    have hrl := hg.rl
    have h3 : g.refs_.length = pre.length + (r.length + 1) := by rw [h]; simp
    have p2 : (pre.length : Int) < ((g.refs_.map gSpot.enc).length : Int) := by rw [List.length_map]; omega
    have e1 : ix g.refs_ (pre.length : Int) = some q := by rw [h, ixp]
    have e2 : ix (outG g dc nm x rs).refs_ (pre.length : Int) = some q' := by simp only [outG]; rw [h', ← hp, ixp]
    have hq := hg.r q (by rw [h]; simp)
    have hq' := ho.r q' (by simp only [outG]; rw [h']; simp)
    have l1 := rsv_len hg hq
    have l2 := rsv_len ho hq'
    have s2 : m_impl_Sg_resolve n (gSg.mk g.scopes_ g.edges_ (g.decls_.set dc.toNat (gSpot.mk x.scope_ nm)) rs) (pre.length : Int) = some (rsv (outG g dc nm x rs) q') := rsv_i hn ho e2
    rw [m_impl_Rename_l10, decide_eq_true p2]
    simp only [cond_true, Option.bind_some, rsv_i hn hg e1, s2, eqI (a := rsv g q) (b := rsv (outG g dc nm x rs) q') (n := n) (by omega) (by omega), keeps, wln pre q (by omega)]
    by_cases c : rsv g q = rsv (outG g dc nm x rs) q'
    · simp only [decide_eq_true c, Bool.not_true, cond_false, Bool.true_and]
      exact keep_i n hn g hg dc nm x rs ho r (pre ++ [q]) r' (pre' ++ [q']) k (by rw [h]; simp) (by rw [h']; simp) (by simp [hp]) (by simpa using hr) (by simp at hk; omega)
    · simp only [decide_eq_false c, Bool.not_false, cond_true, Bool.false_and, Bool.false_eq_true, if_false]; rfl
/-- What both Renames give. -/
def RN (g : gSg) (dc : Int) (nm : ByteArray) : gSg × Int :=
  if (okG g && nameOK nm) = true then
    (match ix g.decls_ dc with
    | none => (G0, 4)
    | some x => match ren1 g dc nm g.refs_ with
      | none => (G0, 5)
      | some rs => if keeps g (outG g dc nm x rs) g.refs_ rs = true then (outG g dc nm x rs, 0) else (G0, 12))
  else (G0, 1)
theorem ix_none {α : Type} {l : List α} {i : Int} : ix l i = none ↔ ¬ (0 ≤ i ∧ i < (l.length : Int)) := by
  unfold ix
  by_cases c : 0 ≤ i
  · rw [if_pos c, List.getElem?_eq_none_iff]; omega
  · rw [if_neg c]; simp [c]
theorem rename_s {n : Nat} (hn : 200 ≤ n) (g : gSg) (dc : Int) (nm : ByteArray) : m_spec_Rename n g dc nm = some (RN g dc nm) := by
  unfold m_spec_Rename RN
  rw [sgOK_s hn]
  simp only [Option.bind_some, nameS (n := n) (by omega)]
  cases c1 : okG g with
  | false => rfl
  | true =>
  cases c2 : nameOK nm with
  | false => rfl
  | true =>
    have hg := Gr.of c1
    have hdl := hg.dl
    have hel := hg.el
    have hrl := hg.rl
    simp only [Bool.not_true, cond_false, Bool.and_self, if_true, m_spec_Rename_j2, btw, Option.bind_some, List.length_map]
    rw [show wr .i64 ((g.decls_.length : Int) - 1) = (g.decls_.length : Int) - 1 from w64 (by omega)]
    cases e : ix g.decls_ dc with
    | none =>
      have := ix_none.mp e
      have e1 : (decide (0 ≤ dc) && decide (dc ≤ (g.decls_.length : Int) - 1)) = false := by simp; omega
      rw [e1]; rfl
    | some x =>
      have h1 := ix_ge' e
      have e1 : (decide (0 ≤ dc) && decide (dc ≤ (g.decls_.length : Int) - 1)) = true := by simp; omega
      rw [e1]
      simp only [Bool.not_true, cond_false, gp_pos (show ([] : List gSEdge).length + g.edges_.length ≤ 68719476736 by simp; omega), gp_pos (show ([] : List gSpot).length + g.decls_.length ≤ 68719476736 by simp; omega), gp_pos (show ([] : List gSpot).length + g.refs_.length ≤ 68719476736 by simp; omega), m_spec_Rename_j3, e, Option.bind_some]
      have r1 : m_spec_Rename_l14 n g dc nm x n 0 g.refs_ = _ := ren1_s n hn g hg dc nm x g.refs_ [] [] n rfl (by omega) rfl
      rw [r1]
      cases er : ren1 g dc nm g.refs_ with
      | none => rfl
      | some rs =>
        have hr := (ren1_sc er).1
        have hlen : rs.length = g.refs_.length := by have := congrArg List.length hr; simpa using this
        have ho := outG_gr (dc := dc) (nm := nm) hg (hg.d x (ix_mem e)) hr
        exact keep_s n hn g hg dc nm x rs ho g.refs_ [] rs [] n rfl rfl rfl hlen (by omega)
where
  ix_ge' {α : Type} {l : List α} {i : Int} {x : α} (h : ix l i = some x) : 0 ≤ i ∧ i < (l.length : Int) := by
    refine Classical.byContradiction fun hc => ?_
    rw [ix_none.mpr hc] at h; cases h
theorem rename_i {n : Nat} (hn : 200 ≤ n) (g : gSg) (dc : Int) (nm : ByteArray) : m_impl_Rename n g dc nm = some (RN g dc nm) := by
  unfold m_impl_Rename RN
  rw [sgOK_i hn]
  simp only [Option.bind_some, nameI (n := n) (by omega)]
  cases c1 : okG g with
  | false => rfl
  | true =>
  cases c2 : nameOK nm with
  | false => rfl
  | true =>
    have hg := Gr.of c1
    have hdl := hg.dl
    have hel := hg.el
    have hrl := hg.rl
    simp only [Bool.not_true, cond_false, Bool.and_self, if_true, m_impl_Rename_j2, List.length_map]
    cases e : ix g.decls_ dc with
    | none =>
      have := ix_none.mp e
      by_cases c : dc < 0
      · rw [decide_eq_true c]; rfl
      · rw [decide_eq_false c, decide_eq_true (show dc ≥ (g.decls_.length : Int) by omega)]; rfl
    | some x =>
      have h1 := rename_s.ix_ge' e
      rw [decide_eq_false (show ¬ dc < 0 by omega), decide_eq_false (show ¬ dc ≥ (g.decls_.length : Int) by omega)]
      simp only [cond_false, m_impl_Rename_j4, gp_pos (show g.edges_.length ≤ 68719476736 by omega), gp_pos (show g.decls_.length ≤ 68719476736 by omega), gp_pos (show g.refs_.length ≤ 68719476736 by omega), m_impl_Rename_j5, e, Option.bind_some]
      have r1 : m_impl_Rename_l11 n g dc nm x n 0 g.refs_ = _ := ren1_i n hn g hg dc nm x g.refs_ [] [] n rfl (by omega) rfl
      rw [r1]
      cases er : ren1 g dc nm g.refs_ with
      | none => rfl
      | some rs =>
        have hr := (ren1_sc er).1
        have hlen : rs.length = g.refs_.length := by have := congrArg List.length hr; simpa using this
        have ho := outG_gr (dc := dc) (nm := nm) hg (hg.d x (ix_mem e)) hr
        exact keep_i n hn g hg dc nm x rs ho g.refs_ [] rs [] n rfl rfl rfl hlen (by omega)
end Go.Proofs.Ytegpjjnedbbpjaa.Z
