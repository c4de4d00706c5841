/- Patterns: variables, sameness, copies, matches: what the printed models come to. -/
import Derived.Test.YtegpjjnedbbpjaaMtA
set_option linter.unusedVariables false
set_option linter.unusedSimpArgs false
namespace Go.Proofs.Ytegpjjnedbbpjaa.Z
open Go Go.RowKit Go.Proofs.Sy Go.Proofs
set_option maxRecDepth 100000
theorem nmLI (n : Nat) (s : ByteArray) (hs : s.size ≤ 1000000000000) : ∀ (k : Nat) (i : Int), 0 ≤ i → i ≤ s.size → s.size - i < k → m_impl_nameOK_l3 n s k i = some (allFrom inName s i)
  | 0, i, h0, h1, h2 => by omega
  | k + 1, i, h0, h1, h2 => by
    unfold m_impl_nameOK_l3
    by_cases c : i < (s.size : Int)
    · have w : wr .i64 (i + 1) = i + 1 := w64 (by omega)
      rw [decide_eq_true c, allFrom_step h0 c]
      simp only [cond_true, gp_pos (show 0 ≤ i ∧ i < (s.size : Int) from ⟨h0, c⟩), mInNameI, Option.bind_some, w]
      cases inName (bt s i) with
      | true => exact nmLI n s hs k (i + 1) (by omega) (by omega) (by omega)
      | false => rfl
    · rw [decide_eq_false c, allFrom_end (by omega)]; rfl
theorem nmLS (n : Nat) (s : ByteArray) (hs : s.size ≤ 1000000000000) : ∀ (k : Nat) (i : Int), 0 ≤ i → i ≤ s.size → s.size - i < k → m_spec_l01Name_l3 n s k i = some (allFrom inName s i)
  | 0, i, h0, h1, h2 => by omega
  | k + 1, i, h0, h1, h2 => by
    unfold m_spec_l01Name_l3
    by_cases c : i < (s.size : Int)
    · have w : wr .i64 (i + 1) = i + 1 := w64 (by omega)
      rw [decide_eq_true c, allFrom_step h0 c]
      simp only [cond_true, gp_pos (show 0 ≤ i ∧ i < (s.size : Int) from ⟨h0, c⟩), mNameByte, Option.bind_some, w]
      cases inName (bt s i) with
      | true => exact nmLS n s hs k (i + 1) (by omega) (by omega) (by omega)
      | false => rfl
    · rw [decide_eq_false c, allFrom_end (by omega)]; rfl
theorem mNameOK {n : Nat} {s : ByteArray} (hs : s.size ≤ 1000000000000) (hn : s.size + 1 ≤ n) : m_impl_nameOK n s = some (nameOK s) := by
  unfold m_impl_nameOK nameOK
  by_cases c1 : (s.size : Int) < 1
  · rw [decide_eq_true c1, decide_eq_false (show ¬ 1 ≤ s.size by omega)]; rfl
  rw [decide_eq_false c1, decide_eq_true (show 1 ≤ s.size by omega)]
  by_cases c2 : (s.size : Int) > 24
  · rw [decide_eq_true c2, decide_eq_false (show ¬ s.size ≤ 24 by omega)]; rfl
  rw [decide_eq_false c2, decide_eq_true (show s.size ≤ 24 by omega)]
  simp only [cond_false, gp_pos (show 0 ≤ (0 : Int) ∧ (0 : Int) < (s.size : Int) by omega), mLetterI, Option.bind_some, Bool.true_and]
  have h0 := allFrom_step (p := inName) (s := s) (i := 0) (by omega) (by omega)
  cases hl : isLetter (bt s 0) with
  | false => rfl
  | true =>
    have : inName (bt s 0) = true := by unfold inName; rw [hl]; rfl
    rw [this] at h0
    simp only [Bool.not_true, cond_false, nmLI n s hs n 0 (by omega) (by omega) (by omega), Bool.true_and] at h0 ⊢
    rw [h0]; rfl
theorem mNameS {n : Nat} {s : ByteArray} (hs : s.size ≤ 1000000000000) (hn : s.size + 1 ≤ n) : m_spec_l01Name n s = some (nameOK s) := by
  unfold m_spec_l01Name nameOK
  by_cases c1 : (s.size : Int) < 1
  · rw [decide_eq_true c1, decide_eq_false (show ¬ 1 ≤ s.size by omega)]; rfl
  rw [decide_eq_false c1, decide_eq_true (show 1 ≤ s.size by omega)]
  by_cases c2 : (s.size : Int) > 24
  · rw [decide_eq_true c2, decide_eq_false (show ¬ s.size ≤ 24 by omega)]; rfl
  rw [decide_eq_false c2, decide_eq_true (show s.size ≤ 24 by omega)]
  simp only [cond_false, gp_pos (show 0 ≤ (0 : Int) ∧ (0 : Int) < (s.size : Int) by omega), mLetterS, Option.bind_some, Bool.true_and]
  cases hl : isLetter (bt s 0) with
  | false => rfl
  | true =>
    simp only [Bool.not_true, cond_false, nmLS n s hs n 1 (by omega) (by omega) (by omega), Bool.true_and]
def vR (t : Tree) : Bool := t.lf && decide (t.nm = ⟨#[86, 97, 114]⟩)
theorem mVarI (n : Nat) (t : Tree) : m_impl_isVar n t = some (vR t) := by unfold m_impl_isVar vR; cases t.lf <;> rfl
theorem mVarS (n : Nat) (t : Tree) : m_spec_l11Var n t = some (vR t) := by unfold m_spec_l11Var vR; cases t.lf <;> rfl
mutual
def vok : Tree → Bool
  | ⟨n, x, f, ks⟩ => if (f && decide (n = ⟨#[86, 97, 114]⟩)) = true then nameOK x else vokL ks
def vokL : List Tree → Bool
  | [] => true
  | k :: ks => vok k && vokL ks
end
theorem vok_eq (t : Tree) : vok t = if vR t = true then nameOK t.tx else vokL t.ks := by cases t; rfl
theorem mVarsOKL (self : Tree → Option Bool) (t : Tree) (hw : wt t ≤ 100000000000) : ∀ (r pre : List Tree) (k : Nat), t.ks = pre ++ r → r.length < k → (∀ q ∈ t.ks, self q = some (vok q)) → m_impl_varsOK_l3 self t k (pre.length : Int) = some (vokL r)
  | [], pre, k, h, hk, hs => by
    obtain ⟨k, rfl⟩ : ∃ m, k = m + 1 := ⟨k - 1, by simp at hk; omega⟩
    have hl : ¬ (pre.length : Int) < ((encM t.ks).length : Int) := by rw [encM_len, h]; simp
    rw [m_impl_varsOK_l3, decide_eq_false hl]; rfl
  | q :: r, pre, k, h, hk, hs => by
    obtain ⟨k, rfl⟩ : ∃ m, k = m + 1 := ⟨k - 1, by simp at hk; omega⟩
    obtain ⟨p1, p2, p3⟩ := pre_len h hw
    rw [m_impl_varsOK_l3, decide_eq_true p2, h, ixp]
    simp only [cond_true, Option.bind_some, hs q p3, vokL, wln pre q p1]
    cases vok q with
    | true => exact mVarsOKL self t hw r (pre ++ [q]) k (by rw [h]; simp) (by simp at hk; omega) hs
    | false => rfl
theorem mVarsOK : ∀ (n : Nat) (t : Tree), wt t + 2 ≤ n → wt t ≤ 100000000000 → m_impl_varsOK n t = some (vok t)
  | 0, t, h, hw => by omega
  | n + 1, t, h, hw => by
    have h1 := wt_len t
    have h2 := wt_eq t
    unfold m_impl_varsOK
    simp only [mVarI, Option.bind_some]
    rw [vok_eq]
    cases vR t with
    | true => simp only [cond_true, if_true, mNameOK (s := t.tx) (n := n) (by omega) (by omega), Option.bind_some]
    | false =>
      simp only [cond_false, Bool.false_eq_true, if_false]
      exact mVarsOKL (m_impl_varsOK n) t hw t.ks [] n rfl (by omega) (fun q hq => mVarsOK n q (by have := wt_kid hq; omega) (by have := wt_kid hq; omega))
def pok (t : Tree) : Bool := okT t && vok t
theorem mPatI {n : Nat} {t : Tree} (h : wt t + 2 ≤ n) (hw : wt t ≤ 100000000000) : m_impl_patternTree n t = some (pok t) := by
  unfold m_impl_patternTree m_impl_TreeOK pok
  simp only [gp_pos (show wt t ≤ 1099511627776 by omega), Option.bind_some]
  cases okT t with
  | true => simp only [cond_true, mVarsOK n t h hw, Option.bind_some, Bool.true_and]
  | false => rfl
/-! ### the variables of a pattern -/
mutual
def vs : Tree → List ByteArray
  | ⟨n, x, f, ks⟩ => if (f && decide (n = ⟨#[86, 97, 114]⟩)) = true then [x] else vsL ks
def vsL : List Tree → List ByteArray
  | [] => []
  | k :: ks => vs k ++ vsL ks
end
theorem vs_eq (t : Tree) : vs t = if vR t = true then [t.tx] else vsL t.ks := by cases t; rfl
theorem mAtL (l : List ByteArray) (x : ByteArray) (hl : l.length ≤ 100000000000) : ∀ (r pre : List ByteArray) (k : Nat), l = pre ++ r → r.length < k → ∃ i, m_spec_l03At_l3 l x k (pre.length : Int) = some i ∧ ((0 ≤ i ∧ x ∈ l) ∨ (i = -1 ∧ x ∉ r))
  | [], pre, k, h, hk => by
    obtain ⟨k, rfl⟩ : ∃ m, k = m + 1 := ⟨k - 1, by simp at hk; omega⟩
    have hl : ¬ (pre.length : Int) < ((l.map S).length : Int) := by rw [List.length_map, h]; simp
    exact ⟨-1, by rw [m_spec_l03At_l3, decide_eq_false hl]; rfl, .inr ⟨rfl, by simp⟩⟩
  | q :: r, pre, k, h, hk => by
    obtain ⟨k, rfl⟩ : ∃ m, k = m + 1 := ⟨k - 1, by simp at hk; omega⟩
    have h2 : l.length = pre.length + (r.length + 1) := by rw [h]; simp
    have p2 : (pre.length : Int) < ((l.map S).length : Int) := by rw [List.length_map]; omega
    by_cases c : q = x
    · refine ⟨pre.length, ?_, .inl ⟨by omega, by rw [h, c]; simp⟩⟩
      rw [m_spec_l03At_l3, decide_eq_true p2, h, ixp]
      simp only [cond_true, Option.bind_some, decide_eq_true c]
    · obtain ⟨i, e, hi⟩ := mAtL l x hl r (pre ++ [q]) k (by rw [h]; simp) (by simp at hk; omega)
      refine ⟨i, ?_, hi.imp id fun ⟨h1, h2⟩ => ⟨h1, by simp [h2]; exact fun h => c h.symm⟩⟩
      rw [m_spec_l03At_l3, decide_eq_true p2]
      rw [show ix l (pre.length : Int) = some q by rw [h, ixp]]
      simp only [cond_true, Option.bind_some, decide_eq_false c, cond_false, wln pre q (by omega)]
      exact e
theorem mVarsSL (n : Nat) (t : Tree) (self : Tree → List ByteArray → Option (List ByteArray × Bool)) (hw : wt t ≤ 100000000000) (M : Nat)
    (hs : ∀ q ∈ t.ks, ∀ l : List ByteArray, l.length + wt q ≤ M → ∃ l', self q l = some (l', vok q) ∧ l'.length ≤ l.length + wt q ∧ (∀ x ∈ l, x ∈ l') ∧ (vok q = true → ∀ x ∈ vs q, x ∈ l')) :
    ∀ (r pre : List Tree) (k : Nat) (l : List ByteArray) (ok : Bool), t.ks = pre ++ r → r.length + 1 < k → l.length + wtL r ≤ M →
      ∃ l', m_spec_l11Vars_l4 self t k ok (pre.length : Int) l = some (l', ok && vokL r) ∧ l'.length ≤ l.length + wtL r ∧ (∀ x ∈ l, x ∈ l') ∧ ((ok && vokL r) = true → ∀ x ∈ vsL r, x ∈ l')
  | [], pre, k, l, ok, h, hk, hl => by
    obtain ⟨k, rfl⟩ : ∃ m, k = m + 1 := ⟨k - 1, by simp at hk; omega⟩
    have hl : ¬ (pre.length : Int) < ((encM t.ks).length : Int) := by rw [encM_len, h]; simp
    exact ⟨l, by rw [m_spec_l11Vars_l4, decide_eq_false hl]; simp [m_spec_l11Vars_j3, vokL], by simp [wtL], fun x hx => hx, fun _ x hx => by simp [vsL] at hx⟩
  | q :: r, pre, k, l, ok, h, hk, hl => by
    obtain ⟨k, rfl⟩ : ∃ m, k = m + 1 := ⟨k - 1, by simp at hk; omega⟩
    obtain ⟨p1, p2, p3⟩ := pre_len h hw
    simp only [wtL] at hl
    cases ok with
    | false => exact ⟨l, by rw [m_spec_l11Vars_l4, decide_eq_true p2]; rfl, by omega, fun x hx => hx, fun h => by simp at h⟩
    | true =>
      obtain ⟨l1, e1, a1, b1, c1⟩ := hs q p3 l (by omega)
      obtain ⟨l2, e2, a2, b2, c2⟩ := mVarsSL n t self hw M hs r (pre ++ [q]) k l1 (vok q) (by rw [h]; simp) (by simp at hk; omega) (by omega)
      refine ⟨l2, ?_, by simp only [wtL]; omega, fun x hx => b2 x (b1 x hx), fun hv x hx => ?_⟩
      · rw [m_spec_l11Vars_l4, decide_eq_true p2]
        rw [show ix t.ks (pre.length : Int) = some q by rw [h, ixp]]
        simp only [cond_true, Option.bind_some, e1, wln pre q p1, e2, vokL, Bool.true_and]
      · simp only [vokL, Bool.true_and] at hv
        simp only [vsL, List.mem_append] at hx
        rcases hx with hx | hx
        · exact b2 x (c1 (by simp_all) x hx)
        · exact c2 hv x hx
theorem mVarsS : ∀ (n : Nat) (t : Tree) (l : List ByteArray), wt t + l.length + 3 ≤ n → l.length + wt t ≤ 10000000000 → ∃ l', m_spec_l11Vars n t l = some (l', vok t) ∧ l'.length ≤ l.length + wt t ∧ (∀ x ∈ l, x ∈ l') ∧ (vok t = true → ∀ x ∈ vs t, x ∈ l')
  | 0, t, l, h, hw => by omega
  | n + 1, t, l, h, hw => by
    have h1 := wt_len t
    have h2 := wt_eq t
    have h3 := wt_pos t
    unfold m_spec_l11Vars
    simp only [mVarS, Option.bind_some]
    rw [vok_eq, vs_eq]
    cases vR t with
    | true =>
      obtain ⟨i, e, hi⟩ := mAtL l t.tx (by omega) l [] n rfl (by omega)
      have e' : m_spec_l03At n l t.tx = some i := e
      simp only [cond_true, if_true, e', Option.bind_some, m_spec_l11Vars_j1, mNameS (s := t.tx) (n := n) (by omega) (by omega)]
      rcases hi with ⟨h0, hm⟩ | ⟨rfl, hm⟩
      · rw [decide_eq_false (show ¬ i < 0 by omega)]
        exact ⟨l, rfl, by omega, fun x hx => hx, fun _ x hx => by simp at hx; rw [hx]; exact hm⟩
      · rw [show decide ((-1 : Int) < 0) = true from rfl]
        simp only [cond_true, gp_pos (show l.length + ([t.tx] : List ByteArray).length ≤ 68719476736 by simp; omega)]
        exact ⟨l ++ [t.tx], rfl, by simp; omega, fun x hx => by simp [hx], fun _ x hx => by simp at hx; simp [hx]⟩
    | false =>
      simp only [cond_false, Bool.false_eq_true, if_false]
      obtain ⟨l', e, x1, x2, x3⟩ := mVarsSL n t (m_spec_l11Vars n) (by omega) (l.length + wtL t.ks) (fun q hq l hl => by
        have := wt_kid hq
        exact mVarsS n q l (by omega) (by omega)) t.ks [] n l true rfl (by omega) (by omega)
      exact ⟨l', by simpa using e, by omega, x2, fun hv => x3 (by simpa using hv)⟩
theorem mPatS {n : Nat} {t : Tree} (h : wt t + 3 ≤ n) (hw : wt t ≤ 10000000000) : m_spec_l11Pattern n t = some (pok t) := by
  unfold m_spec_l11Pattern m_spec_TreeOK pok
  simp only [gp_pos (show wt t ≤ 1099511627776 by omega), Option.bind_some]
  obtain ⟨l', e, _⟩ := mVarsS n t [] (by simpa using h) (by simpa using hw)
  cases okT t with
  | true => simp only [Bool.not_true, cond_false, e, Option.bind_some, Bool.true_and]
  | false => rfl
/-! ### sameness, copies -/
instance : DecidableEq Tree := fun a b => if h : same a b = true then .isTrue ((same_iff a b).mp h) else .isFalse (fun e => h ((same_iff a b).mpr e))
theorem same_dec (a b : Tree) : same a b = decide (a = b) := by
  cases h : same a b with
  | true => rw [(same_iff a b).mp h]; simp
  | false =>
    have : ¬ a = b := fun e => by rw [(same_iff a b).mpr e] at h; cases h
    simp [this]
theorem xor_bne (a b : Bool) : (a ^^ b) = (a != b) := rfl
theorem mSameIL (self : Tree → Tree → Option Bool) (a b : Tree) (hw : wt a ≤ 100000000000) : ∀ (r pre rb pb : List Tree) (k : Nat), a.ks = pre ++ r → b.ks = pb ++ rb → pre.length = pb.length → r.length = rb.length → r.length < k → (∀ q ∈ a.ks, ∀ p, self q p = some (same q p)) → m_impl_same_l3 self a b k (pre.length : Int) = some (sameL r rb)
  | [], pre, rb, pb, k, h, hb, h1, h2, hk, hs => by
    obtain ⟨k, rfl⟩ : ∃ m, k = m + 1 := ⟨k - 1, by simp at hk; omega⟩
    have hl : ¬ (pre.length : Int) < ((encM a.ks).length : Int) := by rw [encM_len, h]; simp
    rw [m_impl_same_l3, decide_eq_false hl]; rfl
  | q :: r, pre, [], pb, k, h, hb, h1, h2, hk, hs => by simp at h2
  | q :: r, pre, p :: rb, pb, k, h, hb, h1, h2, hk, hs => by
    obtain ⟨k, rfl⟩ : ∃ m, k = m + 1 := ⟨k - 1, by simp at hk; omega⟩
    obtain ⟨p1, p2, p3⟩ := pre_len h hw
    have e2 : ix b.ks (pre.length : Int) = some p := by rw [hb, h1, ixp]
    rw [m_impl_same_l3, decide_eq_true p2]
    rw [show ix a.ks (pre.length : Int) = some q by rw [h, ixp], e2]
    simp only [cond_true, Option.bind_some, hs q p3, sameL, wln pre q p1]
    cases same q p with
    | true => exact mSameIL self a b hw r (pre ++ [q]) rb (pb ++ [p]) k (by rw [h]; simp) (by rw [hb]; simp) (by simp [h1]) (by simpa using h2) (by simp at hk; omega) hs
    | false => rfl
theorem mSameI : ∀ (n : Nat) (a b : Tree), wt a + 1 ≤ n → wt a ≤ 100000000000 → m_impl_same n a b = some (decide (a = b))
  | 0, a, b, h, hw => by have := wt_pos a; omega
  | n + 1, a, b, h, hw => by
    have h1 := wt_len a
    rw [← same_dec, same_eq]
    unfold m_impl_same
    cases d1 : decide (a.nm = b.nm) with
    | false => rfl
    | true =>
    cases d2 : decide (a.tx = b.tx) with
    | false => rfl
    | true =>
    cases c3 : (a.lf == b.lf) with
    | false =>
      have e : (a.lf != b.lf) = true := by rw [bne, c3]; rfl
      simp only [Bool.not_true, cond_false, Bool.true_and, Bool.false_and]
      simp [xor_bne, c3, e]
    | true =>
      have e : (a.lf != b.lf) = false := by rw [bne, c3]; rfl
      by_cases c4 : a.ks.length = b.ks.length
      · have := mSameIL (m_impl_same n) a b hw a.ks [] b.ks [] n rfl rfl rfl c4 (by omega) (fun q hq p => by have := wt_kid hq; rw [same_dec]; exact mSameI n q p (by omega) (by omega))
        simp [xor_bne, c3, e, encM_len, c4] at this ⊢
        exact this
      · have e1 : (((a.ks.length : Nat) : Int) != ((b.ks.length : Nat) : Int)) = true := by simp; omega
        have e2 : (a.ks.length == b.ks.length) = false := by simpa using c4
        simp only [Bool.not_true, cond_false, xor_bne, c3, encM_len, e1, e2, cond_true, bne_self_eq_false, Bool.and_false, Bool.false_and]
theorem mSameSL (self : Tree → Tree → Option Bool) (a b : Tree) (hw : wt a ≤ 100000000000) : ∀ (r pre rb pb : List Tree) (k : Nat), a.ks = pre ++ r → b.ks = pb ++ rb → pre.length = pb.length → r.length = rb.length → r.length < k → (∀ q ∈ a.ks, ∀ p, self q p = some (same q p)) → m_spec_l01Same_l3 self a b k (pre.length : Int) = some (sameL r rb)
  | [], pre, rb, pb, k, h, hb, h1, h2, hk, hs => by
    obtain ⟨k, rfl⟩ : ∃ m, k = m + 1 := ⟨k - 1, by simp at hk; omega⟩
    have hl : ¬ (pre.length : Int) < ((encM a.ks).length : Int) := by rw [encM_len, h]; simp
    rw [m_spec_l01Same_l3, decide_eq_false hl]; rfl
  | q :: r, pre, [], pb, k, h, hb, h1, h2, hk, hs => by simp at h2
  | q :: r, pre, p :: rb, pb, k, h, hb, h1, h2, hk, hs => by
    obtain ⟨k, rfl⟩ : ∃ m, k = m + 1 := ⟨k - 1, by simp at hk; omega⟩
    obtain ⟨p1, p2, p3⟩ := pre_len h hw
    have e2 : ix b.ks (pre.length : Int) = some p := by rw [hb, h1, ixp]
    rw [m_spec_l01Same_l3, decide_eq_true p2]
    rw [show ix a.ks (pre.length : Int) = some q by rw [h, ixp], e2]
    simp only [cond_true, Option.bind_some, hs q p3, sameL, wln pre q p1]
    cases same q p with
    | true => exact mSameSL self a b hw r (pre ++ [q]) rb (pb ++ [p]) k (by rw [h]; simp) (by rw [hb]; simp) (by simp [h1]) (by simpa using h2) (by simp at hk; omega) hs
    | false => rfl
theorem mSameS : ∀ (n : Nat) (a b : Tree), wt a + 1 ≤ n → wt a ≤ 100000000000 → m_spec_l01Same n a b = some (decide (a = b))
  | 0, a, b, h, hw => by have := wt_pos a; omega
  | n + 1, a, b, h, hw => by
    have h1 := wt_len a
    rw [← same_dec, same_eq]
    unfold m_spec_l01Same
    cases d1 : decide (a.nm = b.nm) with
    | false => rfl
    | true =>
    cases d2 : decide (a.tx = b.tx) with
    | false => rfl
    | true =>
    cases c3 : (a.lf == b.lf) with
    | false =>
      have e : (a.lf != b.lf) = true := by rw [bne, c3]; rfl
      simp only [Bool.not_true, cond_false, Bool.true_and, Bool.false_and]
      simp [xor_bne, c3, e]
    | true =>
      have e : (a.lf != b.lf) = false := by rw [bne, c3]; rfl
      by_cases c4 : a.ks.length = b.ks.length
      · have := mSameSL (m_spec_l01Same n) a b hw a.ks [] b.ks [] n rfl rfl rfl c4 (by omega) (fun q hq p => by have := wt_kid hq; rw [same_dec]; exact mSameS n q p (by omega) (by omega))
        simp [xor_bne, c3, e, encM_len, c4] at this ⊢
        exact this
      · have e1 : (((a.ks.length : Nat) : Int) != ((b.ks.length : Nat) : Int)) = true := by simp; omega
        have e2 : (a.ks.length == b.ks.length) = false := by simpa using c4
        simp only [Bool.not_true, cond_false, xor_bne, c3, encM_len, e1, e2, cond_true, bne_self_eq_false, Bool.and_false, Bool.false_and]
theorem mCopyIL (self : Tree → Option Tree) (t : Tree) (hw : wt t ≤ 10000000000) : ∀ (r pre : List Tree) (k : Nat), t.ks = pre ++ r → r.length < k → (∀ q ∈ t.ks, self q = some q) → m_impl_copyTree_l3 self t k (pre.length : Int) pre = some t
  | [], pre, k, h, hk, hs => by
    obtain ⟨k, rfl⟩ : ∃ m, k = m + 1 := ⟨k - 1, by simp at hk; omega⟩
    have hl : ¬ (pre.length : Int) < ((encM t.ks).length : Int) := by rw [encM_len, h]; simp
    rw [m_impl_copyTree_l3, decide_eq_false hl]
    simp only [List.append_nil] at h
    subst h
    show some (Tree.mk t.nm t.tx t.lf t.ks) = some t
    cases t; rfl
  | q :: r, pre, k, h, hk, hs => by
    obtain ⟨k, rfl⟩ : ∃ m, k = m + 1 := ⟨k - 1, by simp at hk; omega⟩
    obtain ⟨p1, p2, p3⟩ := pre_len h (by omega)
    have h1 := wt_len t
    have h2 : t.ks.length = pre.length + (r.length + 1) := by rw [h]; simp
    rw [m_impl_copyTree_l3, decide_eq_true p2]
    rw [show ix t.ks (pre.length : Int) = some q by rw [h, ixp]]
    simp only [cond_true, Option.bind_some, hs q p3, gp_pos (show pre.length + ([q] : List Tree).length ≤ 68719476736 by simp; omega), wln pre q p1]
    exact mCopyIL self t hw r (pre ++ [q]) k (by rw [h]; simp) (by simp at hk; omega) hs
theorem mCopyI : ∀ (n : Nat) (t : Tree), wt t + 1 ≤ n → wt t ≤ 10000000000 → m_impl_copyTree n t = some t
  | 0, t, h, hw => by omega
  | n + 1, t, h, hw => by
    have h1 := wt_len t
    unfold m_impl_copyTree
    exact mCopyIL (m_impl_copyTree n) t hw t.ks [] n rfl (by omega) (fun q hq => by have := wt_kid hq; exact mCopyI n q (by omega) (by omega))
theorem mCopySL (self : Tree → Option Tree) (t : Tree) (hw : wt t ≤ 10000000000) : ∀ (r pre : List Tree) (k : Nat), t.ks = pre ++ r → r.length < k → (∀ q ∈ t.ks, self q = some q) → m_spec_l01Copy_l3 self t k (pre.length : Int) pre = some t
  | [], pre, k, h, hk, hs => by
    obtain ⟨k, rfl⟩ : ∃ m, k = m + 1 := ⟨k - 1, by simp at hk; omega⟩
    have hl : ¬ (pre.length : Int) < ((encM t.ks).length : Int) := by rw [encM_len, h]; simp
    rw [m_spec_l01Copy_l3, decide_eq_false hl]
    simp only [List.append_nil] at h
    subst h
    show some (Tree.mk t.nm t.tx t.lf t.ks) = some t
    cases t; rfl
  | q :: r, pre, k, h, hk, hs => by
    obtain ⟨k, rfl⟩ : ∃ m, k = m + 1 := ⟨k - 1, by simp at hk; omega⟩
    obtain ⟨p1, p2, p3⟩ := pre_len h (by omega)
    have h1 := wt_len t
    have h2 : t.ks.length = pre.length + (r.length + 1) := by rw [h]; simp
    rw [m_spec_l01Copy_l3, decide_eq_true p2]
    rw [show ix t.ks (pre.length : Int) = some q by rw [h, ixp]]
    simp only [cond_true, Option.bind_some, hs q p3, gp_pos (show pre.length + ([q] : List Tree).length ≤ 68719476736 by simp; omega), wln pre q p1]
    exact mCopySL self t hw r (pre ++ [q]) k (by rw [h]; simp) (by simp at hk; omega) hs
theorem mCopyS : ∀ (n : Nat) (t : Tree), wt t + 1 ≤ n → wt t ≤ 10000000000 → m_spec_l01Copy n t = some t
  | 0, t, h, hw => by omega
  | n + 1, t, h, hw => by
    have h1 := wt_len t
    unfold m_spec_l01Copy
    exact mCopySL (m_spec_l01Copy n) t hw t.ks [] n rfl (by omega) (fun q hq => by have := wt_kid hq; exact mCopyS n q (by omega) (by omega))
end Go.Proofs.Ytegpjjnedbbpjaa.Z
