/- FnRenamed, plain: Rename of both. -/
import Derived.Test.YtegpjjnedbbpjaaRnF
set_option linter.unusedVariables false
set_option linter.unusedSimpArgs false
namespace Go.Proofs.Ytegpjjnedbbpjaa.Z
open Go Go.RowKit Go.Proofs.Sy Go.Proofs
set_option maxRecDepth 100000

theorem eqSL (a b : List Int) (ha : a.length ≤ 100000000000) : ∀ (r pre rb pb : List Int) (k : Nat), a = pre ++ r → b = pb ++ rb → pre.length = pb.length → r.length = rb.length → r.length < k → m_spec_l05SameInts_l3 a b k (pre.length : Int) = some (decide (r = rb))
  | [], pre, rb, pb, k, h, hb, h1, h2, hk => by
    obtain ⟨k, rfl⟩ : ∃ m, k = m + 1 := ⟨k - 1, by simp at hk; omega⟩
    have hl : ¬ (pre.length : Int) < ((a.map I).length : Int) := by rw [List.length_map, h]; simp
    have : rb = [] := List.length_eq_zero_iff.mp h2.symm
    subst this
    rw [m_spec_l05SameInts_l3, decide_eq_false hl]; rfl
  | q :: r, pre, [], pb, k, h, hb, h1, h2, hk => by simp at h2
  | q :: r, pre, p :: rb, pb, k, h, hb, h1, h2, hk => by
    obtain ⟨k, rfl⟩ : ∃ m, k = m + 1 := ⟨k - 1, by simp at hk; omega⟩
    have h3 : a.length = pre.length + (r.length + 1) := by rw [h]; simp
    have p2 : (pre.length : Int) < ((a.map I).length : Int) := by rw [List.length_map]; omega
    have e1 : ix a (pre.length : Int) = some q := by rw [h, ixp]
    have e2 : ix b (pre.length : Int) = some p := by rw [hb, h1, ixp]
    rw [m_spec_l05SameInts_l3, decide_eq_true p2]
    simp only [e1, e2, cond_true, Option.bind_some, wln pre q (by omega)]
    by_cases c : q = p
    · have : (q != p) = false := by simpa using c
      rw [this, cond_false, eqSL a b ha r (pre ++ [q]) rb (pb ++ [p]) k (by rw [h]; simp) (by rw [hb]; simp) (by simp [h1]) (by simpa using h2) (by simp at hk; omega)]
      simp [c]
    · have : (q != p) = true := by simpa using c
      rw [this, cond_true]
      simp [c]
theorem eqS {n : Nat} {a b : List Int} (ha : a.length ≤ 100000000000) (hn : a.length < n) : m_spec_l05SameInts n a b = some (decide (a = b)) := by
  unfold m_spec_l05SameInts
  by_cases c : a.length = b.length
  · have : (((a.map I).length : Int) != ((b.map I).length : Int)) = false := by simp [c]
    rw [this, cond_false]
    exact eqSL a b ha a [] b [] n rfl rfl rfl c hn
  · have : (((a.map I).length : Int) != ((b.map I).length : Int)) = true := by simp; omega
    rw [this, cond_true]
    have : ¬ a = b := fun e => c (by rw [e])
    simp [this]

theorem eqIL (a b : List Int) (ha : a.length ≤ 100000000000) : ∀ (r pre rb pb : List Int) (k : Nat), a = pre ++ r → b = pb ++ rb → pre.length = pb.length → r.length = rb.length → r.length < k → m_slices_Equal___int_int__l3 a b k (pre.length : Int) = some (decide (r = rb))
  | [], pre, rb, pb, k, h, hb, h1, h2, hk => by
    obtain ⟨k, rfl⟩ : ∃ m, k = m + 1 := ⟨k - 1, by simp at hk; omega⟩
    have hl : ¬ (pre.length : Int) < ((a.map I).length : Int) := by rw [List.length_map, h]; simp
    have : rb = [] := List.length_eq_zero_iff.mp h2.symm
    subst this
    rw [m_slices_Equal___int_int__l3, decide_eq_false hl]; rfl
  | q :: r, pre, [], pb, k, h, hb, h1, h2, hk => by simp at h2
  | q :: r, pre, p :: rb, pb, k, h, hb, h1, h2, hk => by
    obtain ⟨k, rfl⟩ : ∃ m, k = m + 1 := ⟨k - 1, by simp at hk; omega⟩
    have h3 : a.length = pre.length + (r.length + 1) := by rw [h]; simp
    have p2 : (pre.length : Int) < ((a.map I).length : Int) := by rw [List.length_map]; omega
    have e1 : ix a (pre.length : Int) = some q := by rw [h, ixp]
    have e2 : ix b (pre.length : Int) = some p := by rw [hb, h1, ixp]
    rw [m_slices_Equal___int_int__l3, decide_eq_true p2]
    simp only [e1, e2, cond_true, Option.bind_some, wln pre q (by omega)]
    by_cases c : q = p
    · have : (q != p) = false := by simpa using c
      rw [this, cond_false, eqIL a b ha r (pre ++ [q]) rb (pb ++ [p]) k (by rw [h]; simp) (by rw [hb]; simp) (by simp [h1]) (by simpa using h2) (by simp at hk; omega)]
      simp [c]
    · have : (q != p) = true := by simpa using c
      rw [this, cond_true]
      simp [c]
theorem eqI {n : Nat} {a b : List Int} (ha : a.length ≤ 100000000000) (hn : a.length < n) : m_slices_Equal___int_int_ n a b = some (decide (a = b)) := by
  unfold m_slices_Equal___int_int_
  by_cases c : a.length = b.length
  · have : (((a.map I).length : Int) != ((b.map I).length : Int)) = false := by simp [c]
    rw [this, cond_false]
    exact eqIL a b ha a [] b [] n rfl rfl rfl c hn
  · have : (((a.map I).length : Int) != ((b.map I).length : Int)) = true := by simp; omega
    rw [this, cond_true]
    have : ¬ a = b := fun e => c (by rw [e])
    simp [this]

theorem eqL_L (a b : List Int) (ha : a.length ≤ 100000000000) : ∀ (r pre rb pb : List Int) (k : Nat), a = pre ++ r → b = pb ++ rb → pre.length = pb.length → r.length = rb.length → r.length < k → m_laws_sameInts_l3 a b k (pre.length : Int) = some (decide (r = rb))
  | [], pre, rb, pb, k, h, hb, h1, h2, hk => by
    obtain ⟨k, rfl⟩ : ∃ m, k = m + 1 := ⟨k - 1, by simp at hk; omega⟩
    have hl : ¬ (pre.length : Int) < ((a.map I).length : Int) := by rw [List.length_map, h]; simp
    have : rb = [] := List.length_eq_zero_iff.mp h2.symm
    subst this
    rw [m_laws_sameInts_l3, decide_eq_false hl]; rfl
  | q :: r, pre, [], pb, k, h, hb, h1, h2, hk => by simp at h2
  | q :: r, pre, p :: rb, pb, k, h, hb, h1, h2, hk => by
    obtain ⟨k, rfl⟩ : ∃ m, k = m + 1 := ⟨k - 1, by simp at hk; omega⟩
    have h3 : a.length = pre.length + (r.length + 1) := by rw [h]; simp
    have p2 : (pre.length : Int) < ((a.map I).length : Int) := by rw [List.length_map]; omega
    have e1 : ix a (pre.length : Int) = some q := by rw [h, ixp]
    have e2 : ix b (pre.length : Int) = some p := by rw [hb, h1, ixp]
    rw [m_laws_sameInts_l3, decide_eq_true p2]
    simp only [e1, e2, cond_true, Option.bind_some, wln pre q (by omega)]
    by_cases c : q = p
    · have : (q != p) = false := by simpa using c
      rw [this, cond_false, eqL_L a b ha r (pre ++ [q]) rb (pb ++ [p]) k (by rw [h]; simp) (by rw [hb]; simp) (by simp [h1]) (by simpa using h2) (by simp at hk; omega)]
      simp [c]
    · have : (q != p) = true := by simpa using c
      rw [this, cond_true]
      simp [c]
theorem eqL_ {n : Nat} {a b : List Int} (ha : a.length ≤ 100000000000) (hn : a.length < n) : m_laws_sameInts n a b = some (decide (a = b)) := by
  unfold m_laws_sameInts
  by_cases c : a.length = b.length
  · have : (((a.map I).length : Int) != ((b.map I).length : Int)) = false := by simp [c]
    rw [this, cond_false]
    exact eqL_L a b ha a [] b [] n rfl rfl rfl c hn
  · have : (((a.map I).length : Int) != ((b.map I).length : Int)) = true := by simp; omega
    rw [this, cond_true]
    have : ¬ a = b := fun e => c (by rw [e])
    simp [this]

theorem hasL (l : List Int) (x : Int) (hl : l.length ≤ 100000000000) : ∀ (r pre : List Int) (k : Nat), l = pre ++ r → r.length < k → m_spec_l12Has_l3 l x k (pre.length : Int) = some (decide (x ∈ r))
  | [], pre, k, h, hk => by
    obtain ⟨k, rfl⟩ : ∃ m, k = m + 1 := ⟨k - 1, by simp at hk; omega⟩
    have hl : ¬ (pre.length : Int) < ((l.map I).length : Int) := by rw [List.length_map, h]; simp
    rw [m_spec_l12Has_l3, decide_eq_false hl]; rfl
  | q :: r, pre, k, h, hk => by
    obtain ⟨k, rfl⟩ : ∃ m, k = m + 1 := ⟨k - 1, by simp at hk; omega⟩
    have h3 : l.length = pre.length + (r.length + 1) := by rw [h]; simp
    have p2 : (pre.length : Int) < ((l.map I).length : Int) := by rw [List.length_map]; omega
    have e1 : ix l (pre.length : Int) = some q := by rw [h, ixp]
    rw [m_spec_l12Has_l3, decide_eq_true p2]
    simp only [e1, cond_true, Option.bind_some, wln pre q (by omega)]
    by_cases c : q = x
    · have : (q == x) = true := by simpa using c
      rw [this, cond_true]; simp [c]
    · have : (q == x) = false := by simpa using c
      rw [this, cond_false, hasL l x hl r (pre ++ [q]) k (by rw [h]; simp) (by simp at hk; omega)]
      have : ¬ x = q := fun e => c e.symm
      simp [this]
theorem mHas {n : Nat} {l : List Int} (x : Int) (hl : l.length ≤ 100000000000) (hn : l.length < n) : m_spec_l12Has n l x = some (decide (x ∈ l)) := hasL l x hl l [] n rfl hn
theorem idxL (l : List Int) (x : Int) (hl : l.length ≤ 100000000000) : ∀ (r pre : List Int) (k : Nat), l = pre ++ r → r.length < k → ∃ i, m_slices_Index___int_int__l3 l x k (pre.length : Int) = some i ∧ (0 ≤ i ↔ x ∈ r)
  | [], pre, k, h, hk => by
    obtain ⟨k, rfl⟩ : ∃ m, k = m + 1 := ⟨k - 1, by simp at hk; omega⟩
    have hl : ¬ (pre.length : Int) < ((l.map I).length : Int) := by rw [List.length_map, h]; simp
    exact ⟨-1, by rw [m_slices_Index___int_int__l3, decide_eq_false hl]; rfl, by simp⟩
  | q :: r, pre, k, h, hk => by
    obtain ⟨k, rfl⟩ : ∃ m, k = m + 1 := ⟨k - 1, by simp at hk; omega⟩
    have h3 : l.length = pre.length + (r.length + 1) := by rw [h]; simp
    have p2 : (pre.length : Int) < ((l.map I).length : Int) := by rw [List.length_map]; omega
    have e1 : ix l (pre.length : Int) = some q := by rw [h, ixp]
    rw [m_slices_Index___int_int__l3, decide_eq_true p2]
    simp only [e1, cond_true, Option.bind_some, wln pre q (by omega)]
    by_cases c : x = q
    · have : (x == q) = true := by simpa using c
      rw [this, cond_true]
      exact ⟨pre.length, rfl, by simp [c]⟩
    · have : (x == q) = false := by simpa using c
      rw [this, cond_false]
      obtain ⟨i, f1, f2⟩ := idxL l x hl r (pre ++ [q]) k (by rw [h]; simp) (by simp at hk; omega)
      exact ⟨i, f1, by rw [f2]; simp [c]⟩
theorem mContains {n : Nat} {l : List Int} (x : Int) (hl : l.length ≤ 100000000000) (hn : l.length < n) : m_slices_Contains___int_int_ n l x = some (decide (x ∈ l)) := by
  obtain ⟨i, f1, f2⟩ := idxL l x hl l [] n rfl hn
  have f1' : m_slices_Index___int_int_ n l x = some i := f1
  rw [m_slices_Contains___int_int_, f1']
  simp only [Option.bind_some]
  exact congrArg some (decide_eq_decide.mpr f2)
/-- What both resolutions give. -/
def rsv (g : gSg) (q : gSpot) : List Int := (m_spec_l12Resolve 200 g q).getD []
theorem rsv_s {n : Nat} (hn : 200 ≤ n) {g : gSg} (hg : Gr g) {q : gSpot} (hq : 0 ≤ q.scope_ ∧ q.scope_ < g.scopes_) : m_spec_l12Resolve n g q = some (rsv g q) := by
  obtain ⟨l, e, h⟩ := mRes hn hg hq
  obtain ⟨l', e', h'⟩ := mRes (Nat.le_refl 200) hg hq
  rw [e, rsv, e', h.uniq h']; rfl
theorem rsv_i {n : Nat} (hn : 200 ≤ n) {g : gSg} (hg : Gr g) {i : Int} {q : gSpot} (hi : ix g.refs_ i = some q) : m_impl_Sg_resolve n g i = some (rsv g q) := by
  obtain ⟨l, e, h⟩ := mResI hn hg hi
  obtain ⟨l', e', h'⟩ := mRes (Nat.le_refl 200) hg (hg.r q (ix_mem hi))
  rw [e, rsv, e', h.uniq h']; rfl
theorem rsv_len {g : gSg} (hg : Gr g) {q : gSpot} (hq : 0 ≤ q.scope_ ∧ q.scope_ < g.scopes_) : (rsv g q).length ≤ 120 := by
  obtain ⟨l', e', h'⟩ := mRes (Nat.le_refl 200) hg hq
  have hdl := hg.dl
  rw [rsv, e']
  rcases h' with ⟨m, _, _, _, p, h, _⟩ | ⟨h, _⟩
  · have := sel_len p g.decls_ 0
    rw [Option.getD_some, h]; omega
  · rw [Option.getD_some, h]; simp
/-- The references, renamed; none: one of them means two. -/
def ren1 (g : gSg) (dc : Int) (nm : ByteArray) : List gSpot → Option (List gSpot)
  | [] => some []
  | q :: r => if dc ∈ rsv g q then (if (rsv g q).length > 1 then none else (ren1 g dc nm r).map (⟨q.scope_, nm⟩ :: ·)) else (ren1 g dc nm r).map (q :: ·)
theorem ren1_sc {g : gSg} {dc : Int} {nm : ByteArray} : ∀ {r r' : List gSpot}, ren1 g dc nm r = some r' → r'.map (·.scope_) = r.map (·.scope_) ∧ ∀ d ∈ r', d ∈ r ∨ d.name_ = nm
  | [], r', h => by simp only [ren1, Option.some.injEq] at h; subst h; simp
  | q :: r, r', h => by
    simp only [ren1] at h
    split at h
    · split at h
      · cases h
      · obtain ⟨x, hx, rfl⟩ := Option.map_eq_some_iff.mp h
        obtain ⟨h1, h2⟩ := ren1_sc hx
        refine ⟨by simp [h1], fun d hd => ?_⟩
        rcases List.mem_cons.mp hd with rfl | hd
        · exact .inr rfl
        · exact (h2 d hd).imp (fun h => by simp [h]) id
    · obtain ⟨x, hx, rfl⟩ := Option.map_eq_some_iff.mp h
      obtain ⟨h1, h2⟩ := ren1_sc hx
      refine ⟨by simp [h1], fun d hd => ?_⟩
      rcases List.mem_cons.mp hd with rfl | hd
      · exact .inl (by simp)
      · exact (h2 d hd).imp (fun h => by simp [h]) id
def G0 : gSg := gSg.mk 0 [] [] []
theorem ren1_s (n : Nat) (hn : 200 ≤ n) (g : gSg) (hg : Gr g) (dc : Int) (nm : ByteArray) (x3 : gSpot) : ∀ (r pre done : List gSpot) (k : Nat), g.refs_ = pre ++ r → r.length < k → done.length = pre.length → m_spec_Rename_l14 n g dc nm x3 k (pre.length : Int) (done ++ r) = (match ren1 g dc nm r with | none => some (G0, 5) | some r' => m_spec_Rename_j8 n g dc nm x3 (done ++ r'))
  | [], pre, done, k, h, hk, hd => by
    obtain ⟨k, rfl⟩ : ∃ m, k = m + 1 := ⟨k - 1, by simp at hk; omega⟩
    have hl : ¬ (pre.length : Int) < ((g.refs_.map gSpot.enc).length : Int) := by rw [List.length_map, h]; simp
    rw [m_spec_Rename_l14, decide_eq_false hl]; rfl
  | q :: r, pre, done, k, h, hk, hd => by
    obtain ⟨k, rfl⟩ : ∃ m, k = m + 1 := ⟨k - 1, by simp at hk; omega⟩
    have hrl := hg.rl
    have h3 : g.refs_.length = pre.length + (r.length + 1) := by rw [h]; simp
    have p2 : (pre.length : Int) < ((g.refs_.map gSpot.enc).length : Int) := by rw [List.length_map]; omega
    have e1 : ix g.refs_ (pre.length : Int) = some q := by rw [h, ixp]
    have e2 : ix (done ++ q :: r) (pre.length : Int) = some q := by rw [← hd, ixp]
    have hq := hg.r q (by rw [h]; simp)
    have hrs := rsv_len hg hq
    have ih := fun done hd => ren1_s n hn g hg dc nm x3 r (pre ++ [q]) done k (by rw [h]; simp) (by simp at hk; omega) hd
    rw [m_spec_Rename_l14, decide_eq_true p2]
    simp only [e1, e2, cond_true, Option.bind_some, rsv_s hn hg hq, mHas dc (l := rsv g q) (n := n) (by omega) (by omega), ren1, m_spec_Rename_j15, wln pre q (by omega)]
    by_cases c : dc ∈ rsv g q
    · rw [decide_eq_true c, if_pos c]
      by_cases c2 : (rsv g q).length > 1
      · rw [decide_eq_true (show (((rsv g q).map I).length : Int) > 1 by rw [List.length_map]; omega), if_pos c2]; rfl
      · rw [decide_eq_false (show ¬ (((rsv g q).map I).length : Int) > 1 by rw [List.length_map]; omega), if_neg c2]
        have hset : (done ++ q :: r).set (pre.length : Int).toNat ⟨q.scope_, nm⟩ = (done ++ [⟨q.scope_, nm⟩]) ++ r := by
          rw [Int.toNat_natCast, ← hd]; simp
        simp only [Bool.not_true, cond_false, hset]
        rw [ih _ (by simp [hd])]
        cases ren1 g dc nm r <;> simp
    · rw [decide_eq_false c, if_neg c]
      simp only [Bool.not_false, cond_true]
      rw [show done ++ q :: r = (done ++ [q]) ++ r by simp, ih _ (by simp [hd])]
      cases ren1 g dc nm r <;> simp
theorem ren1_i (n : Nat) (hn : 200 ≤ n) (g : gSg) (hg : Gr g) (dc : Int) (nm : ByteArray) (x3 : gSpot) : ∀ (r pre done : List gSpot) (k : Nat), g.refs_ = pre ++ r → r.length < k → done.length = pre.length → m_impl_Rename_l11 n g dc nm x3 k (pre.length : Int) (done ++ r) = (match ren1 g dc nm r with | none => some (G0, 5) | some r' => m_impl_Rename_j7 n g dc nm x3 (done ++ r'))
  | [], pre, done, k, h, hk, hd => by
    obtain ⟨k, rfl⟩ : ∃ m, k = m + 1 := ⟨k - 1, by simp at hk; omega⟩
    have hl : ¬ (pre.length : Int) < ((g.refs_.map gSpot.enc).length : Int) := by rw [List.length_map, h]; simp
    rw [m_impl_Rename_l11, decide_eq_false hl]; rfl
  | q :: r, pre, done, k, h, hk, hd => by
    obtain ⟨k, rfl⟩ : ∃ m, k = m + 1 := ⟨k - 1, by simp at hk; omega⟩
    have hrl := hg.rl
    have h3 : g.refs_.length = pre.length + (r.length + 1) := by rw [h]; simp
    have p2 : (pre.length : Int) < ((g.refs_.map gSpot.enc).length : Int) := by rw [List.length_map]; omega
    have e1 : ix g.refs_ (pre.length : Int) = some q := by rw [h, ixp]
    have e2 : ix (done ++ q :: r) (pre.length : Int) = some q := by rw [← hd, ixp]
    have hq := hg.r q (by rw [h]; simp)
    have hrs := rsv_len hg hq
    have ih := fun done hd => ren1_i n hn g hg dc nm x3 r (pre ++ [q]) done k (by rw [h]; simp) (by simp at hk; omega) hd
    rw [m_impl_Rename_l11, decide_eq_true p2]
    simp only [e2, cond_true, Option.bind_some, rsv_i hn hg e1, mContains dc (l := rsv g q) (n := n) (by omega) (by omega), ren1, wln pre q (by omega)]
    by_cases c : dc ∈ rsv g q
    · rw [decide_eq_true c, if_pos c]
      by_cases c2 : (rsv g q).length > 1
      · rw [decide_eq_true (show (((rsv g q).map I).length : Int) > 1 by rw [List.length_map]; omega), if_pos c2]; rfl
      · rw [decide_eq_false (show ¬ (((rsv g q).map I).length : Int) > 1 by rw [List.length_map]; omega), if_neg c2]
        have hset : (done ++ q :: r).set (pre.length : Int).toNat ⟨q.scope_, nm⟩ = (done ++ [⟨q.scope_, nm⟩]) ++ r := by
          rw [Int.toNat_natCast, ← hd]; simp
        simp only [cond_true, cond_false, hset]
        rw [ih _ (by simp [hd])]
        cases ren1 g dc nm r <;> simp
    · rw [decide_eq_false c, if_neg c]
      simp only [cond_false]
      rw [show done ++ q :: r = (done ++ [q]) ++ r by simp, ih _ (by simp [hd])]
      cases ren1 g dc nm r <;> simp
end Go.Proofs.Ytegpjjnedbbpjaa.Z
