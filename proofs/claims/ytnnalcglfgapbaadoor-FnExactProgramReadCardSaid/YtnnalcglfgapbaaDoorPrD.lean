/- The program's reading of a line. -/
import Derived.Test.YtnnalcglfgapbaaDoorPrC
set_option linter.unusedVariables false
set_option linter.unusedSectionVars false
set_option linter.unusedSimpArgs false
namespace Go.Proofs.YtnnalcglfgapbaaDoor.Z
open Go Go.RowKit Go.Proofs.Sy Go.Proofs
set_option maxRecDepth 100000
def opF (w : ByteArray) : Int → List ByteArray → Int → Int
  | _, [], acc => acc
  | i, x :: xs, acc => opF w (i + 1) xs (if 0 < i ∧ x = w then i else acc)
def opOf (w : By) : Int := opF (ofL w) 0 WL 0
theorem opOf_cases (w : By) : (1 ≤ opOf w ∧ opOf w ≤ 10 ∧ wdL (opOf w) = w) ∨ opOf w = 0 := by
  unfold opOf
  by_cases h1 : (⟨#[112, 117, 115, 104]⟩ : ByteArray) = ofL w
  · rw [← ofL_data w, ← h1]; exact .inl (by decide)
  by_cases h2 : (⟨#[100, 114, 111, 112]⟩ : ByteArray) = ofL w
  · rw [← ofL_data w, ← h2]; exact .inl (by decide)
  by_cases h3 : (⟨#[116, 101, 108, 108]⟩ : ByteArray) = ofL w
  · rw [← ofL_data w, ← h3]; exact .inl (by decide)
  by_cases h4 : (⟨#[112, 97, 115, 115]⟩ : ByteArray) = ofL w
  · rw [← ofL_data w, ← h4]; exact .inl (by decide)
  by_cases h5 : (⟨#[106, 117, 109, 112]⟩ : ByteArray) = ofL w
  · rw [← ofL_data w, ← h5]; exact .inl (by decide)
  by_cases h6 : (⟨#[105, 102, 110, 101, 120, 116]⟩ : ByteArray) = ofL w
  · rw [← ofL_data w, ← h6]; exact .inl (by decide)
  by_cases h7 : (⟨#[105, 102, 101, 110, 100]⟩ : ByteArray) = ofL w
  · rw [← ofL_data w, ← h7]; exact .inl (by decide)
  by_cases h8 : (⟨#[105, 102, 116, 111, 112]⟩ : ByteArray) = ofL w
  · rw [← ofL_data w, ← h8]; exact .inl (by decide)
  by_cases h9 : (⟨#[100, 111, 110, 101]⟩ : ByteArray) = ofL w
  · rw [← ofL_data w, ← h9]; exact .inl (by decide)
  by_cases h10 : (⟨#[102, 97, 105, 108]⟩ : ByteArray) = ofL w
  · rw [← ofL_data w, ← h10]; exact .inl (by decide)
  exact .inr (by simp [opF, WL, h1, h2, h3, h4, h5, h6, h7, h8, h9, h10])
theorem opOf_wd {a : Int} (h : 1 ≤ a ∧ a ≤ 10) : opOf (wdL a) = a := by
  rcases ten h with rfl | rfl | rfl | rfl | rfl | rfl | rfl | rfl | rfl | rfl <;> decide
theorem wd_no {a : Int} (h : 1 ≤ a ∧ a ≤ 10) : (32 : UInt8) ∉ wdL a := by
  rcases ten h with rfl | rfl | rfl | rfl | rfl | rfl | rfl | rfl | rfl | rfl <;> decide
def nextI : List By → Int × Bool × List By
  | [] => (0, false, [])
  | w :: r => if canonB w = true then ((val w : Int), true, r) else (0, false, r)
def readA (a : Int) (rest : List By) : gIns × Bool :=
  let p := bif hN a then nextI rest else (0, true, rest)
  let q := bif p.2.1 && hT a then nextI p.2.2 else (0, p.2.1, p.2.2)
  (gIns.mk a p.1 q.1, q.2.1 && q.2.2.isEmpty)
def readI : List By → gIns × Bool
  | [] => (gIns.mk 0 0 0, false)
  | w :: rest => if opOf w = 0 then (gIns.mk 0 0 0, false) else readA (opOf w) rest
theorem nextI_ok {n : Nat} (hn : 100 ≤ n) (ws : List By) (hw : ∀ w ∈ ws, w.length ≤ 400000) (hl : ws.length ≤ 1000000) : m_impl_readIns_1 n (ws.map ofL) = some ((nextI ws).1, (nextI ws).2.1, (nextI ws).2.2.map ofL) := by
  unfold m_impl_readIns_1
  cases ws with
  | nil => rfl
  | cons w r =>
    have e : ix ((w :: r).map ofL) 0 = some (ofL w) := rfl
    rw [beq_eq_false_iff_ne.mpr (by simp; omega), cond_false, e, Option.bind_some, decimalI hn w (hw w (by simp)), Option.bind_some, gp_pos ⟨by omega, by simp; omega, by omega⟩]
    simp only [nextI]
    cases canonB w <;> simp
theorem hasN_I (n : Nat) (a : Int) : m_impl_hasN n a = some (hN a) := by
  unfold m_impl_hasN hN
  simp only [cE, cD]
  grind
theorem jumps_I (n : Nat) (a : Int) : m_impl_jumps n a = some (hT a) := by
  unfold m_impl_jumps m_impl_ifs hT
  simp only [cE, cD]
  by_cases h5 : a = 5
  · subst h5; rfl
  by_cases h6 : a = 6
  · subst h6; rfl
  by_cases h7 : a = 7
  · subst h7; rfl
  by_cases h8 : a = 8
  · subst h8; rfl
  rw [if_neg h5, if_neg h6, if_neg h7, Option.bind_some, beq_eq_false_iff_ne.mpr h8, decide_eq_false (by omega)]
theorem nextI_sub (ws : List By) : ∀ w ∈ (nextI ws).2.2, w ∈ ws := by
  cases ws with
  | nil => simp [nextI]
  | cons w r =>
    simp only [nextI]
    split <;> (intro x hx; exact List.mem_cons_of_mem _ hx)
theorem nextI_len (ws : List By) : (nextI ws).2.2.length ≤ ws.length := by
  cases ws with
  | nil => simp [nextI]
  | cons w r =>
    simp only [nextI]
    split <;> simp
theorem j9_ok (a n t : Int) (ok : Bool) (rest : List By) : m_impl_readIns_j9 a n ok (rest.map ofL) t = some (gIns.mk a n t, ok && rest.isEmpty) := by
  unfold m_impl_readIns_j9
  cases ok with
  | false => rfl
  | true =>
    cases rest with
    | nil => rfl
    | cons x r =>
      rw [cond_true, beq_eq_false_iff_ne.mpr (by simp; omega)]; rfl
theorem j7_ok {n : Nat} (hn : 100 ≤ n) (a : Int) (v : Int) (ok : Bool) (ws : List By) (hw : ∀ w ∈ ws, w.length ≤ 400000) (hl : ws.length ≤ 1000000) :
    m_impl_readIns_j7 n a ok (ws.map ofL) v = some (gIns.mk a v (bif ok && hT a then nextI ws else (0, ok, ws)).1, (bif ok && hT a then nextI ws else (0, ok, ws)).2.1 && (bif ok && hT a then nextI ws else (0, ok, ws)).2.2.isEmpty) := by
  unfold m_impl_readIns_j7 m_impl_readIns_j10
  cases ok with
  | false => rw [cond_false, cond_false]; exact j9_ok a v 0 false ws
  | true =>
    rw [cond_true, jumps_I, Option.bind_some, Bool.true_and]
    cases hT a with
    | false => rw [cond_false, cond_false]; exact j9_ok a v 0 true ws
    | true => rw [cond_true, cond_true, nextI_ok hn ws hw hl, Option.bind_some]; exact j9_ok a v _ _ _
theorem j6_ok {n : Nat} (hn : 100 ≤ n) (w : By) (ws : List By) (hw : ∀ x ∈ ws, x.length ≤ 400000) (hl : ws.length ≤ 1000000) (a : Int) : m_impl_readIns_j6 n ((w :: ws).map ofL) a = some (if a = 0 then (gIns.mk 0 0 0, false) else readA a ws) := by
  unfold m_impl_readIns_j6
  rw [cE]
  by_cases h : a = 0
  · rw [if_pos h, if_pos h]
  rw [if_neg h, if_neg h, gp_pos ⟨by omega, by simp; omega, by omega⟩, hasN_I, Option.bind_some]
  have e' : List.drop (1 : Int).toNat (List.take (((((w :: ws).map ofL).map S).length : Nat) : Int).toNat ((w :: ws).map ofL)) = ws.map ofL := by simp
  rw [e']
  unfold readA
  cases hN a with
  | false => rw [cond_false, cond_false]; exact j7_ok hn a 0 true ws hw hl
  | true =>
    rw [cond_true, cond_true, nextI_ok hn ws hw hl, Option.bind_some]
    exact j7_ok hn a _ _ _ (fun x hx => hw x (nextI_sub ws x hx)) (Nat.le_trans (nextI_len ws) hl)
theorem WL_len : WL.length = 11 := rfl
theorem l14_ok (n : Nat) (w : By) (ws : List By) : ∀ (r pre : List ByteArray) (k : Nat) (acc : Int), WL = pre ++ r → r.length < k →
    m_impl_readIns_l14 n ((w :: ws).map ofL) WL k (pre.length : Int) acc = m_impl_readIns_j6 n ((w :: ws).map ofL) (opF (ofL w) (pre.length : Int) r acc)
  | [], pre, k, acc, h, hk => by
    obtain ⟨k, rfl⟩ : ∃ m, k = m + 1 := ⟨k - 1, by simp at hk; omega⟩
    have : pre = WL := by simpa using h.symm
    subst this
    rw [m_impl_readIns_l14, List.length_map, decide_eq_false (by omega), cond_false]; rfl
  | x :: r, pre, k, acc, h, hk => by
    obtain ⟨k, rfl⟩ : ∃ m, k = m + 1 := ⟨k - 1, by simp at hk; omega⟩
    have hl : WL.length = pre.length + (r.length + 1) := by rw [h]; simp
    rw [WL_len] at hl
    have ei : ix WL (pre.length : Int) = some x := by rw [h, ixp]
    have e0 : ix ((w :: ws).map ofL) 0 = some (ofL w) := rfl
    have ih := fun acc => l14_ok n w ws r (pre ++ [x]) k acc (by rw [h]; simp) (by simp at hk; omega)
    rw [m_impl_readIns_l14, List.length_map, WL_len, decide_eq_true (by omega), cond_true, ei, Option.bind_some, opF]
    have ew : ((pre ++ [x]).length : Int) = (pre.length : Int) + 1 := by simp
    unfold m_impl_readIns_j15
    rw [wln pre x (by omega)]
    by_cases h0 : (pre.length : Int) > 0
    · rw [decide_eq_true h0, cond_true, e0, Option.bind_some]
      by_cases hx : x = ofL w
      · rw [decide_eq_true hx, cond_true, if_pos ⟨by omega, hx⟩, ih, ew]
      · rw [decide_eq_false hx, cond_false, if_neg (fun h => hx h.2), ih, ew]
    · rw [decide_eq_false h0, cond_false, cond_false, if_neg (fun h => h0 (by omega)), ih, ew]
theorem readI_ok {n : Nat} (hn : 100 ≤ n) (T : By) (hT : T.length ≤ 400000) (w : By) (ws : List By) (hs : spl 32 T = w :: ws) (hw : ∀ x ∈ ws, x.length ≤ 400000) (hl : ws.length ≤ 1000000) : m_impl_readIns n (ofL T) = some (readI (spl 32 T)) := by
  unfold m_impl_readIns
  rw [splitI n T 32 (by omega), Option.bind_some, words_I, Option.bind_some, hs]
  have := l14_ok n w ws WL [] n 0 rfl (by rw [WL_len]; omega)
  refine Eq.trans this ?_
  rw [j6_ok hn w ws hw hl]
  rfl
theorem joinW_len (c : UInt8) : ∀ ws : List By, (∀ w ∈ ws, w.length ≤ (joinW c ws).length) ∧ ws.length ≤ (joinW c ws).length + 1
  | [] => ⟨by simp, by simp⟩
  | [w] => ⟨by simp [joinW], by simp [joinW]⟩
  | w :: v :: ws => by
    obtain ⟨h1, h2⟩ := joinW_len c (v :: ws)
    rw [joinW_cons c w (by simp)]
    refine ⟨fun x hx => ?_, ?_⟩
    · rw [List.length_append, List.length_cons]
      rcases List.mem_cons.mp hx with rfl | hx
      · omega
      · have := h1 x hx; omega
    · simp only [List.length_append, List.length_cons] at h2 ⊢; omega
theorem readI_T {n : Nat} (hn : 100 ≤ n) (T : By) (hT : T.length ≤ 400000) : m_impl_readIns n (ofL T) = some (readI (spl 32 T)) := by
  obtain ⟨h1, h2⟩ := joinW_len 32 (spl 32 T)
  rw [join_spl] at h1 h2
  cases hs : spl 32 T with
  | nil => exact absurd hs (spl_ne 32 T)
  | cons w ws =>
    rw [← hs]
    rw [hs] at h1 h2
    exact readI_ok hn T hT w ws hs (fun x hx => Nat.le_trans (h1 x (by simp [hx])) hT) (by simp at h2; omega)
/-- What a line is made of. -/
def pcs (x : gIns) : List By := wdL x.op_ :: ((bif hN x.op_ then [Lib.decDigits x.n_.toNat] else []) ++ (bif hT x.op_ then [Lib.decDigits x.to_.toNat] else []))
structure Va (x : gIns) : Prop where
  lo : Lo x
  n0 : hN x.op_ = false → x.n_ = 0
  t0 : hT x.op_ = false → x.to_ = 0
theorem join_pcs (x : gIns) : joinW 32 (pcs x) = line x := by
  unfold pcs line nT tT
  cases hN x.op_ <;> cases hT x.op_ <;> simp [joinW]
theorem dec_no (v : Nat) : (32 : UInt8) ∉ Lib.decDigits v := fun h => by
  have := isD_iff.mp ((canon_dec v).1.dg 32 h)
  have e : (32 : UInt8).toNat = 32 := rfl
  omega
theorem pcs_no {x : gIns} (h : Lo x) : ∀ w ∈ pcs x, (32 : UInt8) ∉ w := by
  intro w hw
  unfold pcs at hw
  rcases List.mem_cons.mp hw with rfl | hw
  · exact wd_no h.op
  · rcases List.mem_append.mp hw with hw | hw
    · cases hh : hN x.op_ <;> rw [hh] at hw <;> simp at hw
      subst hw; exact dec_no _
    · cases hh : hT x.op_ <;> rw [hh] at hw <;> simp at hw
      subst hw; exact dec_no _
theorem spl_line {x : gIns} (h : Lo x) : spl 32 (line x) = pcs x := by
  rw [← join_pcs]
  exact spl_join 32 _ (by simp [pcs]) (pcs_no h)
theorem canonB_iff {l : By} : canonB l = true ↔ Canon l ∧ l.length ≤ 6 := by
  unfold canonB
  simp only [Bool.and_eq_true, decide_eq_true_eq, Bool.not_eq_true', Bool.and_eq_false_iff, decide_eq_false_iff_not, List.all_eq_true]
  constructor
  · rintro ⟨⟨h1, h2⟩, h3, h4⟩
    refine ⟨⟨fun e => by subst e; simp at h1, h4, fun hl he => ?_⟩, h2⟩
    rcases h3 with h3 | h3
    · exact h3 hl
    · cases l with
      | nil => simp at h1
      | cons b r => simp at he h3; exact h3 he
  · rintro ⟨⟨h1, h2, h3⟩, h4⟩
    refine ⟨⟨List.length_pos_iff.mpr h1, h4⟩, ?_, h2⟩
    by_cases hl : 1 < l.length
    · right
      have := h3 hl
      cases l with
      | nil => simp at hl
      | cons b r => simp at this ⊢; exact this
    · exact .inl hl
theorem canonB_dec {v : Int} (h : 0 ≤ v ∧ v ≤ 999999) : canonB (Lib.decDigits v.toNat) = true ∧ ((val (Lib.decDigits v.toNat) : Nat) : Int) = v := by
  obtain ⟨h1, h2, _⟩ := canon_dec v.toNat
  exact ⟨canonB_iff.mpr ⟨h1, dec_len 5 _ (by omega)⟩, by rw [h2]; omega⟩
/-- A line is read as what it shows. -/
theorem read_pcs {x : gIns} (h : Va x) : readI (pcs x) = (x, true) := by
  obtain ⟨op, n, t⟩ := x
  have ho := h.lo.op
  have hn := canonB_dec h.lo.n
  have ht := canonB_dec h.lo.t
  have n0 := h.n0
  have t0 := h.t0
  simp only at ho hn ht n0 t0
  unfold pcs readI readA
  simp only [opOf_wd ho]
  rw [if_neg (by omega)]
  cases hh : hN op <;> cases hg : hT op
  · simp [n0 hh, t0 hg]
  · simp [n0 hh, nextI, ht]
  · simp [t0 hg, nextI, hn]
  · simp [nextI, hn, ht]
end Go.Proofs.YtnnalcglfgapbaaDoor.Z
