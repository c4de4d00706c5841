/- FnRenamed, plain: right terms. -/
import Derived.Test.YtegpjjnedbbpjaaRnK
set_option linter.unusedVariables false
set_option linter.unusedSimpArgs false
namespace Go.Proofs.Ytegpjjnedbbpjaa.Z
open Go Go.RowKit Go.Proofs.Sy Go.Proofs
set_option maxRecDepth 100000
theorem bytesTot (s : ByteArray) (hs : s.size ≤ 1000000000000) (a b : Int) : ∀ (k : Nat) (i : Int), 0 ≤ i → i ≤ s.size → s.size - i < k → ∃ r, m_spec_l03Bytes_l3 s a b k i = some r
  | 0, i, h0, h1, h2 => by omega
  | k + 1, i, h0, h1, h2 => by
    rw [m_spec_l03Bytes_l3]
    by_cases c : i < (s.size : Int)
    · rw [decide_eq_true c, cond_true, gp_pos ⟨h0, c⟩, gp_pos ⟨h0, c⟩, show wr .i64 (i + 1) = i + 1 from w64 (by omega)]
      cases decide (bt s i < a) with
      | true => exact ⟨_, rfl⟩
      | false =>
      cases decide (bt s i > b) with
      | true => exact ⟨_, rfl⟩
      | false => exact bytesTot s hs a b k (i + 1) (by omega) (by omega) (by omega)
    · rw [decide_eq_false c]; exact ⟨_, rfl⟩
theorem numTot {n : Nat} {s : ByteArray} (hs : s.size ≤ 1000000000000) (hn : s.size + 1 ≤ n) : ∃ r, m_spec_l12Num n s = some r := by
  unfold m_spec_l12Num
  obtain ⟨r, e⟩ := bytesTot s hs 48 57 n 0 (by omega) (by omega) (by omega)
  have e' : m_spec_l03Bytes n s 48 57 = some r := e
  have j : m_spec_l12Num_j1 n s = some r := by rw [m_spec_l12Num_j1, e']; rfl
  rw [btw, Option.bind_some]
  cases c : (decide (1 ≤ (s.size : Int)) && decide ((s.size : Int) ≤ 9)) with
  | false => exact ⟨_, rfl⟩
  | true =>
    simp only [Bool.and_eq_true, decide_eq_true_eq] at c
    simp only [Bool.not_true, cond_false]
    cases decide ((s.size : Int) > 1) with
    | false => exact ⟨r, j⟩
    | true =>
      rw [cond_true, gp_pos (by omega)]
      cases (bt s 0 == 48) with
      | true => exact ⟨_, rfl⟩
      | false => exact ⟨r, j⟩
/-- A term's shape. -/
inductive Sh : Tree → Prop
  | leaf (t : Tree) (h : t.lf = true) : Sh t
  | bnd (t : Tree) (h : t.lf = false) (h0 : t.nm = ⟨#[76, 97, 109]⟩ ∨ t.nm = ⟨#[76, 101, 116]⟩) (h2 : 2 ≤ t.ks.length) (h3 : t.nm = ⟨#[76, 101, 116]⟩ → t.ks.length = 3) (hk : ∀ (i : Nat) q, 1 ≤ i → t.ks[i]? = some q → Sh q) : Sh t
  | node (t : Tree) (h : t.lf = false) (h2 : ¬ t.nm = ⟨#[76, 97, 109]⟩) (h3 : ¬ t.nm = ⟨#[76, 101, 116]⟩) (hk : ∀ q ∈ t.ks, Sh q) : Sh t
theorem termL (self : Tree → Option Bool) (t : Tree) (hw : wt t ≤ 100000000000) (hs : ∀ q ∈ t.ks, ∃ b, self q = some b ∧ (b = true → Sh q)) : ∀ (r pre : List Tree) (k : Nat), t.ks = pre ++ r → r.length < k → ∃ b, m_spec_l12Term_l6 self t ((encM t.ks).length : Int) k (pre.length : Int) = some b ∧ (b = true → ∀ q ∈ r, Sh q)
  | [], pre, k, h, hk => by
    obtain ⟨k, rfl⟩ : ∃ m, k = m + 1 := ⟨k - 1, by simp at hk; omega⟩
    have hl : ¬ (pre.length : Int) < ((encM t.ks).length : Int) := by rw [encM_len, h]; simp
    exact ⟨true, by rw [m_spec_l12Term_l6, decide_eq_false hl]; rfl, fun _ q hq => by simp at hq⟩
  | q :: r, pre, k, h, hk => by
    obtain ⟨k, rfl⟩ : ∃ m, k = m + 1 := ⟨k - 1, by simp at hk; omega⟩
    have hlen : t.ks.length = pre.length + (r.length + 1) := by rw [h]; simp
    have h1 := wt_len t
    have p2 : (pre.length : Int) < ((encM t.ks).length : Int) := by rw [encM_len]; omega
    have hm : q ∈ t.ks := by rw [h]; simp
    obtain ⟨b, e, hb⟩ := hs q hm
    have ei : ix t.ks (pre.length : Int) = some q := by rw [h, ixp]
    rw [m_spec_l12Term_l6, decide_eq_true p2]
    simp only [cond_true, ei, Option.bind_some, e, wln pre q (by omega)]
    cases b with
    | false => exact ⟨false, rfl, fun h => by cases h⟩
    | true =>
      obtain ⟨b', e', hb'⟩ := termL self t hw hs r (pre ++ [q]) k (by rw [h]; simp) (by simp at hk; omega)
      refine ⟨b', e', fun h q' hq' => ?_⟩
      rcases List.mem_cons.mp hq' with rfl | hq'
      · exact hb rfl
      · exact hb' h q' hq'
theorem termTot : ∀ (n : Nat) (t : Tree), wt t + 40 ≤ n → wt t ≤ 100000000000 → ∃ b, m_spec_l12Term n t = some b ∧ (b = true → Sh t)
  | 0, t, hn, hw => by omega
  | n + 1, t, hn, hw => by
    have h1 := wt_len t
    have h2 := wt_eq t
    have kid : ∀ q ∈ t.ks, ∃ b, m_spec_l12Term n q = some b ∧ (b = true → Sh q) := fun q hq => by
      have := wt_kid hq
      exact termTot n q (by omega) (by omega)
    have j2 : ∀ (v len : Int), (v = 0 ∨ v = 1) → 2 ≤ len → ∃ b, m_spec_l12Term_j2 (m_spec_l12Term n) n t v len = some b ∧ (b = true → (t.ks.length : Int) = len ∧ ∀ (i : Nat) q, v ≤ i → t.ks[i]? = some q → Sh q) := fun v len hv hl => by
      unfold m_spec_l12Term_j2
      by_cases c : (t.ks.length : Int) = len
      · have e0 : (((encM t.ks).length : Int) != len) = false := by rw [encM_len]; simp [c]
        rw [e0, cond_false]
        have j3 : ∃ b, m_spec_l12Term_j3 (m_spec_l12Term n) n t v len = some b ∧ (b = true → (t.ks.length : Int) = len ∧ ∀ (i : Nat) q, v ≤ i → t.ks[i]? = some q → Sh q) := by
          unfold m_spec_l12Term_j3
          rcases hv with rfl | rfl
          · obtain ⟨b, e, hb⟩ := termL (m_spec_l12Term n) t hw kid t.ks [] n rfl (by omega)
            rw [encM_len, c] at e
            exact ⟨b, e, fun h => ⟨c, fun i q _ hi => hb h q (List.mem_of_getElem? hi)⟩⟩
          · cases hks : t.ks with
            | nil => rw [hks] at c; simp at c; omega
            | cons x r =>
              obtain ⟨b, e, hb⟩ := termL (m_spec_l12Term n) t hw kid r [x] n (by rw [hks]; rfl) (by rw [hks] at h1; simp at h1; omega)
              rw [encM_len, c] at e
              refine ⟨b, e, fun h => ⟨by rw [← hks]; exact c, fun i q hi hq => ?_⟩⟩
              obtain ⟨i, rfl⟩ : ∃ m, i = m + 1 := ⟨i - 1, by omega⟩
              exact hb h q (List.mem_of_getElem? (by simpa using hq))
        cases (v == 1) with
        | false => exact j3
        | true =>
          obtain ⟨x, hx, hm⟩ := ix_tot (l := t.ks) (i := 0) (by omega) (by omega)
          have hxw := wt_kid hm
          have hx2 := wt_eq x
          simp only [cond_true, hx, Option.bind_some]
          cases x.lf with
          | false => exact ⟨false, rfl, fun h => by cases h⟩
          | true =>
          cases decide (x.nm = ⟨#[73, 100]⟩) with
          | false => exact ⟨false, rfl, fun h => by cases h⟩
          | true =>
            simp only [Bool.not_true, cond_false, nameS (n := n) (by omega), Option.bind_some]
            cases nameOK x.tx with
            | false => exact ⟨false, rfl, fun h => by cases h⟩
            | true => exact j3
      · have e0 : (((encM t.ks).length : Int) != len) = true := by rw [encM_len]; simpa using c
        rw [e0]
        exact ⟨false, rfl, fun h => by cases h⟩
    unfold m_spec_l12Term
    cases hl : t.lf with
    | true =>
      have sh : Sh t := .leaf t hl
      simp only [cond_true]
      cases decide (t.nm = ⟨#[73, 100]⟩) with
      | true => exact ⟨nameOK t.tx, by simp only [cond_true, nameS (n := n) (by omega), Option.bind_some], fun _ => sh⟩
      | false =>
      cases decide (t.nm = ⟨#[78, 117, 109]⟩) with
      | true =>
        obtain ⟨b, e⟩ := numTot (n := n) (s := t.tx) (by omega) (by omega)
        exact ⟨b, by simp only [cond_true, cond_false, e, Option.bind_some], fun _ => sh⟩
      | false =>
      cases decide (t.nm = ⟨#[89, 101, 115]⟩) with
      | true => exact ⟨_, rfl, fun _ => sh⟩
      | false =>
        simp only [cond_false, m_spec_l12Term_j1]
        cases decide (t.nm = ⟨#[78, 111]⟩) <;> exact ⟨_, rfl, fun _ => sh⟩
    | false =>
      simp only [cond_false]
      by_cases n1 : t.nm = ⟨#[76, 97, 109]⟩
      · rw [decide_eq_true n1]
        obtain ⟨b, e, hb⟩ := j2 1 2 (.inr rfl) (by omega)
        refine ⟨b, e, fun h => ?_⟩
        obtain ⟨a1, a2⟩ := hb h
        exact .bnd t hl (.inl n1) (by omega) (fun h => by rw [n1] at h; exact absurd h (by decide)) (fun i q hi hq => a2 i q (by omega) hq)
      · rw [decide_eq_false n1]
        by_cases n2 : t.nm = ⟨#[76, 101, 116]⟩
        · rw [decide_eq_true n2]
          obtain ⟨b, e, hb⟩ := j2 1 3 (.inr rfl) (by omega)
          refine ⟨b, e, fun h => ?_⟩
          obtain ⟨a1, a2⟩ := hb h
          exact .bnd t hl (.inr n2) (by omega) (fun _ => by omega) (fun i q hi hq => a2 i q (by omega) hq)
        · rw [decide_eq_false n2]
          simp only [cond_false]
          have nd : ∀ len : Int, 2 ≤ len → ∃ b, m_spec_l12Term_j2 (m_spec_l12Term n) n t 0 len = some b ∧ (b = true → Sh t) := fun len hlen => by
            obtain ⟨b, e, hb⟩ := j2 0 len (.inl rfl) hlen
            refine ⟨b, e, fun h => .node t hl n1 n2 fun q hq => ?_⟩
            obtain ⟨i, hi⟩ := List.getElem?_of_mem hq
            exact (hb h).2 i q (by omega) hi
          cases decide (t.nm = ⟨#[73, 102]⟩) with
          | true => exact nd 3 (by omega)
          | false =>
          cases decide (t.nm = ⟨#[65, 112, 112]⟩) with
          | true => exact nd 2 (by omega)
          | false =>
          cases decide (t.nm = ⟨#[65, 100, 100]⟩) with
          | true => exact nd 2 (by omega)
          | false =>
          cases decide (t.nm = ⟨#[69, 113]⟩) with
          | true => exact nd 2 (by omega)
          | false => exact ⟨false, rfl, fun h => by cases h⟩
end Go.Proofs.Ytegpjjnedbbpjaa.Z
