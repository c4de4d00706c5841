/- The reader of trees (program): its parts. -/
import Derived.Test.YtgdecbliegelmaaAxT
set_option linter.unusedVariables false
set_option linter.unusedSimpArgs false
namespace Go.Proofs.Ytgdecbliegelmaa.Z
open Go Go.RowKit Go.Proofs.Sy Go.Proofs
set_option maxRecDepth 100000
def Suf (s : ByteArray) (i : Int) (l : List UInt8) : Prop := 0 ≤ i ∧ i ≤ s.size ∧ s.size ≤ 1099511627776 ∧ s.data.toList.drop i.toNat = l
theorem size_ls (s : ByteArray) : s.size = s.data.toList.length := by rw [Array.length_toList]; rfl
theorem Suf.cons {s : ByteArray} {i : Int} {b : UInt8} {l : List UInt8} (h : Suf s i (b :: l)) : i < s.size ∧ bt s i = (b.toNat : Int) ∧ Suf s (i + 1) l := by
  obtain ⟨h0, h1, h2, h3⟩ := h
  have hlt : i < s.size := by
    rcases Int.lt_or_le i s.size with h | h
    · exact h
    · rw [drop_all h] at h3; cases h3
  obtain ⟨c, hc, hd⟩ := bt_drop h0 hlt
  rw [hd] at h3
  obtain ⟨rfl, h4⟩ := List.cons.inj h3
  exact ⟨hlt, hc, by omega, by omega, h2, h4⟩
theorem Suf.len {s : ByteArray} {i : Int} {l : List UInt8} (h : Suf s i l) : i + l.length = s.size := by
  obtain ⟨h0, h1, h2, rfl⟩ := h
  have := size_ls s
  rw [List.length_drop]; omega
theorem Suf.app {s : ByteArray} {i : Int} {a l : List UInt8} (h : Suf s i (a ++ l)) : Suf s (i + a.length) l := by
  have hl := h.len
  obtain ⟨h0, h1, h2, h3⟩ := h
  rw [List.length_append] at hl
  refine ⟨by omega, by omega, h2, ?_⟩
  rw [show (i + a.length).toNat = i.toNat + a.length by omega, ← List.drop_drop, h3]
  simp
theorem Suf.zero (s : ByteArray) (h : s.size ≤ 1099511627776) : Suf s 0 s.data.toList := ⟨by omega, by omega, h, rfl⟩
theorem Suf.ext {s : ByteArray} {i : Int} {nm : ByteArray} {l : List UInt8} (h : Suf s i (nm.data.toList ++ l)) : s.extract i.toNat (i + nm.size).toNat = nm := by
  have hl := h.len
  have hn := size_ls nm
  obtain ⟨h0, h1, h2, h3⟩ := h
  have : (s.extract i.toNat (i + nm.size).toNat).data.toList = nm.data.toList := by
    rw [ByteArray.data_extract, Array.toList_extract]
    rw [List.extract_eq_take_drop, h3, show (i + nm.size).toNat - i.toNat = nm.data.toList.length by omega]
    simp
  cases nm with
  | mk d =>
    generalize s.extract i.toNat (i + ByteArray.size ⟨d⟩).toNat = q at this
    cases q with
    | mk d' => congr 1; exact Array.toList_inj.mp this
theorem rAt {s : ByteArray} {i : Int} {b : UInt8} {l : List UInt8} (h : Suf s i (b :: l)) (n : Nat) : m_impl_treeReader_at n ⟨s, i⟩ = some ((b.toNat : Int), ⟨s, i⟩) := by
  obtain ⟨h1, h2, h3⟩ := h.cons
  have hb : b.toNat < 256 := b.toNat_lt
  simp only [m_impl_treeReader_at, decide_eq_true h1, cond_true, gp_pos (show 0 ≤ i ∧ i < (s.size : Int) from ⟨h.1, h1⟩), h2]
  rw [show wr .i64 (b.toNat : Int) = b.toNat from w64 (by omega)]
theorem rAtN {s : ByteArray} {i : Int} (h : Suf s i []) (n : Nat) : m_impl_treeReader_at n ⟨s, i⟩ = some (-1, ⟨s, i⟩) := by
  have := h.len
  have h1 : ¬ i < (s.size : Int) := by simp at this; omega
  simp only [m_impl_treeReader_at, decide_eq_false h1, cond_false]
def nbl (l : List UInt8) : Prop := match l with
  | [] => True
  | b :: _ => b.toNat ≠ 32 ∧ b.toNat ≠ 10
theorem rBl0 {s : ByteArray} {i : Int} {l : List UInt8} (h : Suf s i l) (hl : nbl l) (n k : Nat) (a : gtreeReader) : m_impl_treeReader_blanks_l8 n a (k + 1) ⟨s, i⟩ = some (decide (i > a.i_), ⟨s, i⟩) := by
  cases l with
  | nil =>
    simp [m_impl_treeReader_blanks_l8, rAtN h, m_impl_treeReader_blanks_j5]
  | cons b l =>
    have e1 : ((b.toNat : Int) == 32) = false := by have := hl.1; simp; omega
    have e2 : ((b.toNat : Int) == 10) = false := by have := hl.2; simp; omega
    simp [m_impl_treeReader_blanks_l8, rAt h, m_impl_treeReader_blanks_j5, e1, e2]
theorem rBl1 {s : ByteArray} {i : Int} {b : UInt8} {l : List UInt8} (h : Suf s i (b :: l)) (hb : b = 32 ∨ b = 10) (n k : Nat) (a : gtreeReader) : m_impl_treeReader_blanks_l8 n a (k + 1) ⟨s, i⟩ = m_impl_treeReader_blanks_l8 n a k ⟨s, i + 1⟩ := by
  obtain ⟨h1, h2, h3⟩ := h.cons
  have hw : wr .i64 (i + 1) = i + 1 := w64 (by have := h3.2.1; have := h3.2.2.1; have := h3.1; omega)
  rcases hb with rfl | rfl
  · simp [m_impl_treeReader_blanks_l8, rAt h, m_impl_treeReader_blanks_j9, hw]
  · simp [m_impl_treeReader_blanks_l8, rAt h, m_impl_treeReader_blanks_j9, hw]
theorem rBlanks0 {s : ByteArray} {i : Int} {l : List UInt8} (h : Suf s i l) (hl : nbl l) {n : Nat} (hn : 1 ≤ n) : m_impl_treeReader_blanks n ⟨s, i⟩ = some (false, ⟨s, i⟩) := by
  obtain ⟨m, rfl⟩ : ∃ m, n = m + 1 := ⟨n - 1, by omega⟩
  unfold m_impl_treeReader_blanks
  rw [rBl0 h hl]
  simp
theorem rBlanks1 {s : ByteArray} {i : Int} {b : UInt8} {l : List UInt8} (h : Suf s i (b :: l)) (hb : b = 32 ∨ b = 10) (hl : nbl l) {n : Nat} (hn : 2 ≤ n) : m_impl_treeReader_blanks n ⟨s, i⟩ = some (true, ⟨s, i + 1⟩) := by
  obtain ⟨m, rfl⟩ : ∃ m, n = m + 2 := ⟨n - 2, by omega⟩
  unfold m_impl_treeReader_blanks
  rw [rBl1 h hb, rBl0 h.cons.2.2 hl]
  have : i + 1 > i := by omega
  simp [this]
theorem rBlanks2 {s : ByteArray} {i : Int} {b c : UInt8} {l : List UInt8} (h : Suf s i (b :: c :: l)) (hb : b = 32 ∨ b = 10) (hc : c = 32 ∨ c = 10) (hl : nbl l) {n : Nat} (hn : 3 ≤ n) : m_impl_treeReader_blanks n ⟨s, i⟩ = some (true, ⟨s, i + 2⟩) := by
  obtain ⟨m, rfl⟩ : ∃ m, n = m + 3 := ⟨n - 3, by omega⟩
  unfold m_impl_treeReader_blanks
  rw [rBl1 h hb, rBl1 h.cons.2.2 hc, rBl0 h.cons.2.2.cons.2.2 hl]
  have : i + 1 + 1 > i := by omega
  simp only [this, decide_true]
  rw [show i + 1 + 1 = i + 2 by omega]
theorem mLetter (n : Nat) (c : Int) : m_impl_isLetter n c = some (isLetter c) := by
  unfold m_impl_isLetter isLetter
  by_cases h1 : 97 ≤ c <;> by_cases h2 : c ≤ 122 <;> by_cases h3 : 65 ≤ c <;> simp [h1, h2, h3, GE.ge]
theorem mDigit (n : Nat) (c : Int) : m_impl_isDigit n c = some (isDigit c) := by
  unfold m_impl_isDigit isDigit
  by_cases h1 : 48 ≤ c <;> simp [h1, GE.ge]
theorem mInName (n : Nat) (c : Int) : m_impl_inName n c = some (inName c) := by
  unfold m_impl_inName inName
  rw [mLetter, mDigit]
  cases isLetter c <;> cases isDigit c <;> simp
/-- What comes is no part of a name. -/
def nnm (l : List UInt8) : Prop := match l with
  | [] => True
  | b :: _ => inName b.toNat = false
theorem rNameL {s : ByteArray} (n : Nat) (a : gtreeReader) (ha : 0 ≤ a.i_) : ∀ (r : List UInt8) (k : Nat) (i : Int) (l : List UInt8), Suf s i (r ++ l) → nnm l → (∀ b ∈ r, inName b.toNat = true) → a.i_ ≤ i → i - a.i_ + r.length ≤ 24 → r.length < k → m_impl_treeReader_name_l10 n a k ⟨s, i⟩ = m_impl_treeReader_name_j7 a ⟨s, i + r.length⟩
  | [], k, i, l, h, hl, _, _, _, hk => by
    obtain ⟨k, rfl⟩ : ∃ m, k = m + 1 := ⟨k - 1, by simp at hk; omega⟩
    simp only [List.nil_append] at h
    cases l with
    | nil => simp [m_impl_treeReader_name_l10, rAtN h]
    | cons b l =>
      have hb : b.toNat < 256 := b.toNat_lt
      have e : wr .u8 (b.toNat : Int) = b.toNat := wr8 _ (by omega)
      have hp : (b.toNat : Int) ≥ 0 := by omega
      have hl' : inName b.toNat = false := hl
      simp [m_impl_treeReader_name_l10, rAt h, e, mInName, hl']
  | b :: r, k, i, l, h, hl, hr, hai, hle, hk => by
    obtain ⟨k, rfl⟩ : ∃ m, k = m + 1 := ⟨k - 1, by simp at hk; omega⟩
    have hb : b.toNat < 256 := b.toNat_lt
    have e : wr .u8 (b.toNat : Int) = b.toNat := wr8 _ (by omega)
    have hin : inName b.toNat = true := hr b (List.mem_cons_self ..)
    simp only [List.length_cons] at hle hk
    obtain ⟨h1, h2, h3⟩ := Suf.cons (l := r ++ l) h
    have hsz := h3.2.1
    have hs2 := h3.2.2.1
    have ew : wr .i64 (i - a.i_) = i - a.i_ := w64 (by omega)
    have ew1 : wr .i64 (i + 1) = i + 1 := w64 (by omega)
    have e24 : ¬ i - a.i_ = 24 := by omega
    have ih := rNameL n a ha r k (i + 1) l h3 hl (fun c hc => hr c (List.mem_cons_of_mem _ hc)) (by omega) (by omega) (by omega)
    have hat := rAt (l := r ++ l) h n
    simp only [m_impl_treeReader_name_l10, hat, Option.bind_some, e, mInName, hin, cond_true, ew, m_impl_treeReader_name_j11, ew1]
    rw [show decide ((b.toNat : Int) ≥ 0) = true by simp, show (i - a.i_ == 24) = false by simpa using e24]
    simp only [cond_true, cond_false]
    rw [ih, show i + 1 + (r.length : Int) = i + ((b :: r).length : Int) by simp only [List.length_cons]; omega]
def nmQ (l : List UInt8) : Bool := match l with
  | [] => false
  | c :: r => isLetter c.toNat && r.all (fun b => inName b.toNat) && decide (r.length < 24)
theorem rName {s : ByteArray} {i : Int} {nm : ByteArray} {l : List UInt8} (h : Suf s i (nm.data.toList ++ l)) (hn : nmQ nm.data.toList = true) (hl : nnm l) {n : Nat} (hf : 26 ≤ n) : m_impl_treeReader_name n ⟨s, i⟩ = some (.ok (nm, ⟨s, i + nm.size⟩)) := by
  have hsz := size_ls nm
  have hx := h.ext
  cases hd : nm.data.toList with
  | nil => rw [hd] at hn; cases hn
  | cons c r =>
    rw [hd] at hn h hsz
    simp only [nmQ, Bool.and_eq_true, decide_eq_true_eq, List.all_eq_true] at hn
    simp only [List.length_cons] at hsz
    have hb : c.toNat < 256 := c.toNat_lt
    have e : wr .u8 (c.toNat : Int) = c.toNat := wr8 _ (by omega)
    have hin : ∀ b ∈ c :: r, inName b.toNat = true := fun b hb => by
      rcases List.mem_cons.mp hb with rfl | hb
      · unfold inName; rw [hn.1.1]; rfl
      · exact hn.1.2 b hb
    have hlen := h.len
    have h0 := h.1
    have hl2 : i + nm.size ≤ s.size := by
      simp only [List.length_append, List.length_cons] at hlen; omega
    have hloop := rNameL n ⟨s, i⟩ h0 (c :: r) n i l h hl hin (Int.le_refl _) (by simp only [List.length_cons]; omega) (by simp only [List.length_cons]; omega)
    have hat := rAt (l := r ++ l) h n
    unfold m_impl_treeReader_name
    rw [hat]
    simp only [Option.bind_some]
    rw [show decide ((c.toNat : Int) < 0) = false by simp]
    simp only [cond_false, e, mLetter, Option.bind_some, hn.1.1, Bool.not_true, m_impl_treeReader_name_j12, m_impl_treeReader_name_j2]
    rw [hloop, show i + ((c :: r).length : Int) = i + nm.size by simp only [List.length_cons]; omega]
    unfold m_impl_treeReader_name_j7
    simp only
    rw [gp_pos ⟨h0, by omega, hl2⟩, hx]
end Go.Proofs.Ytgdecbliegelmaa.Z
