/- FnRenamed, plain: what the program's resolution gives. -/
import Derived.Test.YtegpjjnedbbpjaaRnB
set_option linter.unusedVariables false
set_option linter.unusedSimpArgs false
namespace Go.Proofs.Ytegpjjnedbbpjaa.Z
open Go Go.RowKit Go.Proofs.Sy Go.Proofs
set_option maxRecDepth 100000
def V (l : List Int) (s : Int) : Int := (ix l s).getD (-1)
theorem V_ix {l : List Int} {s : Int} (h0 : 0 ≤ s) (h1 : s < (l.length : Int)) : ix l s = some (V l s) := by
  obtain ⟨x, hx⟩ := ix_lt h0 h1
  rw [V, hx]; rfl
theorem V_set {l : List Int} {i j x : Int} (h0 : 0 ≤ i) (h1 : i < (l.length : Int)) : V (l.set i.toNat x) j = if j = i then x else V l j := by
  unfold V
  rw [ix_set h0 h1]
  split <;> rfl
theorem V_rng {l : List Int} {s : Int} (h : 0 ≤ V l s) : 0 ≤ s ∧ s < (l.length : Int) := by
  cases e : ix l s with
  | none => rw [V, e] at h; simp at h
  | some x => exact ix_ge' e
where
  ix_ge' {l : List Int} {i x : Int} (h : ix l i = some x) : 0 ≤ i ∧ i < (l.length : Int) := by
    unfold ix at h
    by_cases c : 0 ≤ i
    · rw [if_pos c] at h
      have := (List.getElem?_eq_some_iff.mp h).1
      omega
    · rw [if_neg c] at h; cases h
def see (out : List Int) (s x : Int) : List Int := if V out s < 0 ∨ x < V out s then out.set s.toNat x else out
theorem mSee {n : Nat} {out : List Int} {s x : Int} (h0 : 0 ≤ s) (h1 : s < (out.length : Int)) : m_impl_Sg_steps_1 n s x out = some (see out s x) := by
  unfold m_impl_Sg_steps_1 see
  have e := V_ix h0 h1
  simp only [e, Option.bind_some]
  by_cases c1 : V out s < 0
  · rw [decide_eq_true c1, if_pos (.inl c1)]
    simp only [cond_true, m_impl_Sg_steps_1_j1, e, Option.bind_some]
  · rw [decide_eq_false c1]
    by_cases c2 : x < V out s
    · rw [decide_eq_true c2, if_pos (.inr c2)]
      simp only [cond_false, cond_true, m_impl_Sg_steps_1_j1, e, Option.bind_some]
    · rw [decide_eq_false c2, if_neg (by omega)]
      rfl
theorem see_len (out : List Int) (s x : Int) : (see out s x).length = out.length := by unfold see; split <;> simp
theorem see_V {out : List Int} {s x : Int} (h0 : 0 ≤ s) (h1 : s < (out.length : Int)) (t : Int) : V (see out s x) t = if t = s ∧ (V out s < 0 ∨ x < V out s) then x else V out t := by
  unfold see
  by_cases c : V out s < 0 ∨ x < V out s
  · rw [if_pos c, V_set h0 h1]
    by_cases e : t = s
    · rw [if_pos e, if_pos ⟨e, c⟩]
    · rw [if_neg e, if_neg (fun h => e h.1)]
  · rw [if_neg c, if_neg (fun h => c h.2)]
theorem pig : ∀ (N : Nat) (l : List Int), l.Nodup → (∀ x ∈ l, 0 ≤ x ∧ x < (N : Int)) → l.length ≤ N
  | 0, [], _, _ => by simp
  | 0, x :: l, _, h => by have := h x (by simp); omega
  | N + 1, l, hn, h => by
    by_cases hm : (N : Int) ∈ l
    · have h1 := pig N (l.erase (N : Int)) (hn.erase _) (fun x hx => by
        have := (List.Nodup.mem_erase_iff hn).mp hx
        have := h x this.2
        have : x ≠ (N : Int) := ((List.Nodup.mem_erase_iff hn).mp hx).1
        omega)
      rw [List.length_erase_of_mem hm] at h1
      omega
    · have := pig N l hn (fun x hx => by
        have h2 := h x hx
        have : x ≠ (N : Int) := fun e => hm (e ▸ hx)
        omega)
      omega
/-- The search's state. -/
structure Iv (g : gSg) (a : Int) (up T out : List Int) (Dn : Int → Prop) (De : gSEdge → Prop) : Prop where
  lu : (up.length : Int) = g.scopes_
  lo : (out.length : Int) = g.scopes_
  nd : T.Nodup
  rg : ∀ s ∈ T, 0 ≤ s ∧ s < g.scopes_
  mem : ∀ s, 0 ≤ V up s ↔ s ∈ T
  aT : a ∈ T
  ua : V up a = 0
  wk : ∀ s ∈ T, ∃ k : Nat, V up s = 2 * k ∧ W g a k s
  cl1 : ∀ e ∈ g.edges_, De e → e.kind_ = 1 → e.to_ ∈ T ∧ V up e.to_ ≤ V up e.from_ + 2
  cl2 : ∀ e ∈ g.edges_, De e → e.kind_ = 2 → 0 ≤ V out e.to_ ∧ V out e.to_ ≤ V up e.from_ + 1
  dn : ∀ s, Dn s → 0 ≤ V out s ∧ V out s ≤ V up s
  dt : ∀ s, Dn s → s ∈ T
  de : ∀ e ∈ g.edges_, De e → e.from_ ∈ T
  sd : ∀ s, 0 ≤ V out s → ∃ m : Nat, V out s = m ∧ Lv g a m s
  mono : T.Pairwise (fun x y => V up x ≤ V up y)
  bd : ∀ (j : Nat) s, T[j]? = some s → V up s ≤ 2 * j
theorem Iv.len {g : gSg} {a : Int} {up T out : List Int} {Dn : Int → Prop} {De : gSEdge → Prop} (h : Iv g a up T out Dn De) (hg : Gr g) : (T.length : Int) ≤ g.scopes_ := by
  have h1 := hg.s1
  have := pig g.scopes_.toNat T h.nd (fun x hx => by have := h.rg x hx; omega)
  omega
/-- A value is seen. -/
theorem Iv.saw {g : gSg} {a : Int} {up T out : List Int} {Dn Dn' : Int → Prop} {De De' : gSEdge → Prop} (h : Iv g a up T out Dn De) {s x : Int} {m : Nat} (h0 : 0 ≤ s) (h1 : s < g.scopes_) (hx : x = m) (hv : Lv g a m s)
    (hd : ∀ t, Dn' t → Dn t ∨ (t = s ∧ x = V up s ∧ s ∈ T)) (he : ∀ e, De' e → De e ∨ (e.kind_ = 2 ∧ e.to_ = s ∧ x = V up e.from_ + 1 ∧ e.from_ ∈ T)) : Iv g a up T (see out s x) Dn' De' := by
  have hs := fun t => see_V (out := out) (s := s) (x := x) h0 (by have := h.lo; omega) t
  have up' : ∀ t, 0 ≤ V out t → 0 ≤ V (see out s x) t ∧ V (see out s x) t ≤ V out t := fun t ht => by
    rw [hs]
    split
    · rename_i c
      obtain ⟨rfl, c⟩ := c
      omega
    · omega
  have ups : 0 ≤ V (see out s x) s ∧ V (see out s x) s ≤ x := by
    rw [hs]
    split
    · omega
    · rename_i c
      have : ¬ (V out s < 0 ∨ x < V out s) := fun h => c ⟨rfl, h⟩
      omega
  refine ⟨h.lu, by rw [see_len]; exact h.lo, h.nd, h.rg, h.mem, h.aT, h.ua, h.wk, fun e hm hde hk => ?_, fun e hm hde hk => ?_, fun t ht => ?_, fun t ht => ?_, fun e hm hde => ?_, fun t ht => ?_, h.mono, h.bd⟩
  · rcases he e hde with h' | ⟨h', _⟩
    · exact h.cl1 e hm h' hk
    · omega
  · rcases he e hde with h' | ⟨_, h2, h3, h4⟩
    · have h2 := h.cl2 e hm h' hk
      have h3 := up' _ h2.1
      omega
    · rw [h2, ← h3]; exact ups
  · rcases hd t ht with h' | ⟨rfl, h3, _⟩
    · have h2 := h.dn t h'
      have h3 := up' _ h2.1
      omega
    · omega
  · rcases hd t ht with h' | ⟨rfl, _, h4⟩
    · exact h.dt t h'
    · exact h4
  · rcases he e hde with h' | ⟨_, _, _, h4⟩
    · exact h.de e hm h'
    · exact h4
  · rw [hs] at ht ⊢
    split
    · rename_i c
      obtain ⟨rfl, c⟩ := c
      exact ⟨m, hx, hv⟩
    · rename_i c
      rw [if_neg c] at ht
      exact h.sd t ht
/-- A new scope is put last. -/
theorem Iv.push {g : gSg} {a : Int} {up T out : List Int} {Dn : Int → Prop} {De De' : gSEdge → Prop} (h : Iv g a up T out Dn De) (hg : Gr g) {q : gSEdge} (hq : q ∈ g.edges_) (hk : q.kind_ = 1) (hf : q.from_ ∈ T) (hn : q.to_ ∉ T) (near : ∀ s ∈ T, V up s ≤ V up q.from_ + 2) (hb : ∃ j : Nat, T[j]? = some q.from_)
    (he : ∀ e, De' e → De e ∨ e = q) : Iv g a (up.set q.to_.toNat (V up q.from_ + 2)) (T ++ [q.to_]) out Dn De' := by
  obtain ⟨r1, r2, r3, r4, _⟩ := hg.e q hq
  have hs := fun t => V_set (l := up) (i := q.to_) (x := V up q.from_ + 2) (j := t) r3 (by have := h.lu; omega)
  have old : ∀ t ∈ T, V (up.set q.to_.toNat (V up q.from_ + 2)) t = V up t := fun t ht => by
    rw [hs, if_neg (show ¬ t = q.to_ from fun e => hn (e ▸ ht))]
  have new : V (up.set q.to_.toNat (V up q.from_ + 2)) q.to_ = V up q.from_ + 2 := by rw [hs, if_pos rfl]
  obtain ⟨k, hk1, hk2⟩ := h.wk _ hf
  refine ⟨by rw [List.length_set]; exact h.lu, h.lo, ?_, fun s hs => ?_, fun s => ?_, by simp [h.aT], by rw [old _ h.aT]; exact h.ua, fun s hs' => ?_, fun e hm hde hk' => ?_, fun e hm hde hk' => ?_, fun s hd => ?_, fun s hd => by simp [h.dt s hd], fun e hm hde => ?_, h.sd, ?_, fun j s hj => ?_⟩
  · refine List.nodup_append.mpr ⟨h.nd, by simp, fun x hx y hy => ?_⟩
    rw [List.mem_singleton.mp hy]
    exact fun e => hn (e ▸ hx)
  · rcases List.mem_append.mp hs with hs | hs
    · exact h.rg s hs
    · rw [List.mem_singleton.mp hs]; exact ⟨r3, r4⟩
  · rw [hs, List.mem_append, List.mem_singleton]
    split
    · rename_i e; exact ⟨fun _ => .inr e, fun _ => by omega⟩
    · rename_i e; rw [h.mem]; exact ⟨.inl, fun h => h.elim id (fun h => absurd h e)⟩
  · rcases List.mem_append.mp hs' with hs' | hs'
    · rw [old s hs']; exact h.wk s hs'
    · rw [List.mem_singleton.mp hs', new]
      exact ⟨k + 1, by omega, q, hq, hk, rfl, hk2⟩
  · rcases he e hde with h' | rfl
    · obtain ⟨c1, c2⟩ := h.cl1 e hm h' hk'
      refine ⟨by simp [c1], ?_⟩
      rw [old _ c1, old _ (h.de e hm h')]; exact c2
    · refine ⟨by simp, ?_⟩
      rw [new, old _ hf]; omega
  · rcases he e hde with h' | rfl
    · rw [old _ (h.de e hm h')]; exact h.cl2 e hm h' hk'
    · omega
  · rw [old _ (h.dt s hd)]; exact h.dn s hd
  · rcases he e hde with h' | rfl
    · simp [h.de e hm h']
    · simp [hf]
  · refine List.pairwise_append.mpr ⟨?_, List.pairwise_singleton _ _, fun x hx y hy => ?_⟩
    · exact h.mono.imp_of_mem (fun hx hy hxy => by rw [old _ hx, old _ hy]; exact hxy)
    · rw [List.mem_singleton.mp hy, new, old _ hx]; exact near x hx
  · by_cases c : j < T.length
    · rw [List.getElem?_append_left c] at hj
      rw [old s (List.mem_of_getElem? hj)]
      exact h.bd j s hj
    · rw [List.getElem?_append_right (by omega)] at hj
      have hj0 : j = T.length := by
        have := (List.getElem?_eq_some_iff.mp hj).1
        simp at this; omega
      rw [hj0, Nat.sub_self] at hj
      simp only [List.getElem?_cons_zero, Option.some.injEq] at hj
      rw [← hj, new]
      obtain ⟨j', hj'⟩ := hb
      have h1 := h.bd j' _ hj'
      have h2 := (List.getElem?_eq_some_iff.mp hj').1
      omega
theorem Iv.weak {g : gSg} {a : Int} {up T out : List Int} {Dn Dn' : Int → Prop} {De De' : gSEdge → Prop} (h : Iv g a up T out Dn De) (hd : ∀ t, Dn' t → Dn t) (he : ∀ e ∈ g.edges_, De' e → De e) : Iv g a up T out Dn' De' :=
  ⟨h.lu, h.lo, h.nd, h.rg, h.mem, h.aT, h.ua, h.wk, fun e hm hde => h.cl1 e hm (he e hm hde), fun e hm hde => h.cl2 e hm (he e hm hde), fun t ht => h.dn t (hd t ht), fun t ht => h.dt t (hd t ht), fun e hm hde => h.de e hm (he e hm hde), h.sd, h.mono, h.bd⟩
end Go.Proofs.Ytegpjjnedbbpjaa.Z
