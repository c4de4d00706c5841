/- The reader of trees (program): what is shown is read. -/
import Derived.Test.YtgdecbliegelmaaRdA
set_option linter.unusedVariables false
set_option linter.unusedSimpArgs false
namespace Go.Proofs.Ytgdecbliegelmaa.Z
open Go Go.RowKit Go.Proofs.Sy Go.Proofs
set_option maxRecDepth 100000
theorem rFit (n : Nat) (v room kk : Int) (rec_ : Int → Int → Int → gtreeReader → Option (Ou (Int × gtreeReader))) (r : Int × gtreeReader) (q : gtreeReader) (hi : Int) (hH : wr .i64 (wr .i64 (wr .i64 (wr .i64 (wr .i64 (v * 10) + r.1) - 48) + 1) * room) = hi) (hb : 0 ≤ hi ∧ hi ≤ 100000) :
    ∀ (k : Nat) (x : Int) (f : Bool), 0 ≤ x → x ≤ hi → hi - x < k → (f = true ∨ ∃ y, x ≤ y ∧ y < hi ∧ (y < 32 ∨ (126 < y ∧ y < 256))) →
      m_impl_treeReader_three_l163 n v room kk rec_ r q k f x = m_impl_treeReader_three_j159 n v room kk rec_ r q true
  | 0, x, f, h0, h1, h2, h3 => by omega
  | k + 1, x, f, h0, h1, h2, h3 => by
    have ew : wr .i64 (x + 1) = x + 1 := w64 (by omega)
    unfold m_impl_treeReader_three_l163
    rw [hH]
    by_cases hx : x < hi
    · have ih := fun f => rFit n v room kk rec_ r q hi hH hb k (x + 1) f (by omega) (by omega) (by omega)
      rw [decide_eq_true hx]
      simp only [cond_true, m_impl_treeReader_three_j164, ew]
      cases f with
      | true => exact ih true (.inl rfl)
      | false =>
        obtain ⟨y, y1, y2, y3⟩ : ∃ y, x ≤ y ∧ y < hi ∧ (y < 32 ∨ (126 < y ∧ y < 256)) := by
          rcases h3 with h | h
          · cases h
          · exact h
        simp only [cond_false]
        by_cases c1 : x < 32
        · rw [decide_eq_true c1]; exact ih true (.inl rfl)
        · rw [decide_eq_false c1]
          simp only [cond_false]
          by_cases c2 : x > 126
          · have c3 : x < 256 := by omega
            rw [decide_eq_true c2, decide_eq_true c3]; exact ih true (.inl rfl)
          · rw [decide_eq_false c2]
            exact ih false (.inr ⟨y, by omega, y2, y3⟩)
    · have hf : f = true := by
        rcases h3 with h | ⟨y, y1, y2, y3⟩
        · exact h
        · omega
      subst hf
      rw [decide_eq_false hx]
      rfl
theorem rThree1 {s : ByteArray} {i : Int} {d : UInt8} {l : List UInt8} (h : Suf s i (d :: l)) (n k : Nat) (v room kk w : Int) (hk : 0 ≤ kk ∧ kk < 3) (hv : 0 ≤ v ∧ v ≤ 25) (hr : room = 100 ∨ room = 10 ∨ room = 1) (hd : 48 ≤ d.toNat ∧ d.toNat ≤ 57) (hw : w = v * 10 + d.toNat - 48)
    (hy : ∃ y, w * room ≤ y ∧ y < (w + 1) * room ∧ (y < 32 ∨ (126 < y ∧ y < 256))) (hn : 102 ≤ n) : m_impl_treeReader_three_l138 n (k + 1) v room kk ⟨s, i⟩ = m_impl_treeReader_three_l138 n k w (room / 10) (kk + 1) ⟨s, i + 1⟩ := by
  have hc := h.cons
  have hs1 := hc.2.2.2.1
  have hs2 := hc.2.2.2.2.1
  have hs0 := h.1
  have e1 : wr .i64 (v * 10) = v * 10 := w64 (by omega)
  have e2 : wr .i64 (v * 10 + (d.toNat : Int)) = v * 10 + d.toNat := w64 (by omega)
  have e3 : wr .i64 (v * 10 + (d.toNat : Int) - 48) = w := by rw [hw]; exact w64 (by omega)
  have hwb : 0 ≤ w ∧ w ≤ 259 := by omega
  have hrb : 0 ≤ w * room ∧ w * room ≤ 25900 ∧ (w + 1) * room = w * room + room ∧ 1 ≤ room ∧ room ≤ 100 := by rcases hr with rfl | rfl | rfl <;> omega
  have e4 : wr .i64 (w * room) = w * room := w64 (by omega)
  have e5 : wr .i64 (w + 1) = w + 1 := w64 (by omega)
  have e6 : wr .i64 ((w + 1) * room) = (w + 1) * room := w64 (by omega)
  have e7 : wr .i64 (room.tdiv 10) = room / 10 := by rw [Int.tdiv_eq_ediv_of_nonneg (by omega)]; exact w64 (by omega)
  have e8 : wr .i64 (kk + 1) = kk + 1 := w64 (by omega)
  have e9 : wr .i64 (i + 1) = i + 1 := w64 (by omega)
  have c1 : ¬ (d.toNat : Int) < 48 := by omega
  have c2 : ¬ (d.toNat : Int) > 57 := by omega
  have hfit := rFit n v room kk (m_impl_treeReader_three_l138 n k) ((d.toNat : Int), ⟨s, i⟩) ⟨s, i⟩ ((w + 1) * room) (by simp only; rw [e1, e2, e3, e5, e6]) (by omega) n (w * room) false (by omega) (by omega) (by omega) (.inr hy)
  rw [m_impl_treeReader_three_l138, decide_eq_true hk.2, rAt h]
  simp only [cond_true, Option.bind_some]
  rw [decide_eq_false c1, decide_eq_false c2]
  simp only [cond_false, m_impl_treeReader_three_j165, m_impl_treeReader_three_j154, e1, e2, e3, e4]
  rw [hfit]
  simp only [m_impl_treeReader_three_j159, Bool.not_true, cond_false, m_impl_treeReader_three_j160, m_impl_treeReader_three_j152, e1, e2, e3, e7, e8, e9]
theorem u8n (n : Nat) (h : n < 256) : (UInt8.ofNat n).toNat = n := by rw [UInt8.toNat_ofNat']; omega
theorem rThree {s : ByteArray} {i : Int} {b : UInt8} {l : List UInt8} (h : Suf s i (UInt8.ofNat (48 + b.toNat / 100) :: UInt8.ofNat (48 + b.toNat / 10 % 10) :: UInt8.ofNat (48 + b.toNat % 10) :: l)) (hb : ¬ (32 ≤ b.toNat ∧ b.toNat ≤ 126)) {n : Nat} (hn : 102 ≤ n) : m_impl_treeReader_three n ⟨s, i⟩ = some (.ok ((b.toNat : Int), ⟨s, i + 3⟩)) := by
  have hlt : b.toNat < 256 := b.toNat_lt
  obtain ⟨m, rfl⟩ : ∃ m, n = m + 4 := ⟨n - 4, by omega⟩
  have t1 : (UInt8.ofNat (48 + b.toNat / 100)).toNat = 48 + b.toNat / 100 := u8n _ (by omega)
  have t2 : (UInt8.ofNat (48 + b.toNat / 10 % 10)).toNat = 48 + b.toNat / 10 % 10 := u8n _ (by omega)
  have t3 : (UInt8.ofNat (48 + b.toNat % 10)).toNat = 48 + b.toNat % 10 := u8n _ (by omega)
  have hy : (b.toNat : Int) < 32 ∨ (126 < (b.toNat : Int) ∧ (b.toNat : Int) < 256) := by omega
  unfold m_impl_treeReader_three
  rw [rThree1 h (m + 4) (m + 3) 0 100 0 (b.toNat / 100 : Nat) (by omega) (by omega) (.inl rfl) (by omega) (by omega) ⟨b.toNat, by omega, by omega, hy⟩ (by omega)]
  rw [rThree1 h.cons.2.2 (m + 4) (m + 2) _ _ _ (b.toNat / 10 : Nat) (by omega) (by omega) (by omega) (by omega) (by omega) ⟨b.toNat, by omega, by omega, hy⟩ (by omega)]
  rw [rThree1 h.cons.2.2.cons.2.2 (m + 4) (m + 1) _ _ _ (b.toNat : Nat) (by omega) (by omega) (by omega) (by omega) (by omega) ⟨b.toNat, by omega, by omega, hy⟩ (by omega)]
  unfold m_impl_treeReader_three_l138
  have e : wr .u8 (b.toNat : Int) = b.toNat := wr8 _ (by omega)
  simp only [m_impl_treeReader_three_j83, e]
  rw [show decide ((0 : Int) + 1 + 1 + 1 < 3) = false by decide]
  simp only [cond_false]
  rw [show i + 1 + 1 + 1 = i + 3 by omega]
theorem toU8_b (b : UInt8) : toU8 (b.toNat : Int) = some b := by
  have hlt : b.toNat < 256 := b.toNat_lt
  unfold toU8
  rw [if_pos (by omega)]
  simp
theorem rLeafStep {s : ByteArray} {i : Int} {b : UInt8} {l : List UInt8} (h : Suf s i (qb b ++ l)) (n k : Nat) (out : List UInt8) (ho : out.length ≤ 1000000) (hn : 102 ≤ n) : m_impl_treeReader_leaf_l29 n (k + 1) ⟨s, i⟩ out = m_impl_treeReader_leaf_l29 n k ⟨s, i + (qb b).length⟩ (out ++ [b]) := by
  have hlt : b.toNat < 256 := b.toNat_lt
  have e : wr .u8 (b.toNat : Int) = b.toNat := wr8 _ (by omega)
  have hg : out.length + ([b] : List UInt8).length ≤ 68719476736 := by simp; omega
  unfold qb at h ⊢
  by_cases c1 : b.toNat = 34 ∨ b.toNat = 92
  · rw [if_pos c1] at h ⊢
    have h' : Suf s i (92 :: b :: l) := h
    have h2 := h'.cons.2.2
    have w1 : wr .i64 (i + 1) = i + 1 := w64 (by have := h2.1; have := h2.2.1; have := h2.2.2.1; omega)
    have w2 : wr .i64 (i + 1 + 1) = i + 2 := (w64 (by have := h2.1; have := h2.2.1; have := h2.2.2.1; omega)).trans (by omega)
    rw [m_impl_treeReader_leaf_l29, rAt h']
    simp only [Option.bind_some, rAt h', show (((92 : UInt8).toNat : Int) != 34) = true from rfl, cond_true, show decide (((92 : UInt8).toNat : Int) < 32) = false from rfl, cond_false, show decide (((92 : UInt8).toNat : Int) > 126) = false from rfl, m_impl_treeReader_leaf_j34, m_impl_treeReader_leaf_j31, show (((92 : UInt8).toNat : Int) != 92) = false from rfl, w1, rAt h2]
    rcases c1 with c1 | c1
    · rw [show ((b.toNat : Int) == 34) = true by simp [c1]]
      simp only [cond_true, m_impl_treeReader_leaf_j33, e, toU8_b, Option.bind_some, gp_pos hg, w2]
      rfl
    · rw [show ((b.toNat : Int) == 34) = false by simp; omega, show ((b.toNat : Int) == 92) = true by simp [c1]]
      simp only [cond_true, cond_false, m_impl_treeReader_leaf_j33, e, toU8_b, Option.bind_some, gp_pos hg, w2]
      rfl
  · rw [if_neg c1] at h ⊢
    by_cases c2 : 32 ≤ b.toNat ∧ b.toNat ≤ 126
    · rw [if_pos c2] at h ⊢
      have h' : Suf s i (b :: l) := h
      have h2 := h'.cons.2.2
      have w1 : wr .i64 (i + 1) = i + 1 := w64 (by have := h2.1; have := h2.2.1; have := h2.2.2.1; omega)
      have d1 : ¬ (b.toNat : Int) < 32 := by omega
      have d2 : ¬ (b.toNat : Int) > 126 := by omega
      have d3 : ((b.toNat : Int) != 34) = true := by simp; omega
      have d4 : ((b.toNat : Int) != 92) = true := by simp; omega
      rw [m_impl_treeReader_leaf_l29, rAt h']
      simp only [Option.bind_some, rAt h', d3, cond_true, decide_eq_false d1, decide_eq_false d2, cond_false, m_impl_treeReader_leaf_j34, m_impl_treeReader_leaf_j31, d4, e, toU8_b, gp_pos hg, w1]
      rfl
    · rw [if_neg c2] at h ⊢
      have h' : Suf s i (92 :: UInt8.ofNat (48 + b.toNat / 100) :: UInt8.ofNat (48 + b.toNat / 10 % 10) :: UInt8.ofNat (48 + b.toNat % 10) :: l) := h
      have h2 := h'.cons.2.2
      have t1 : (UInt8.ofNat (48 + b.toNat / 100)).toNat = 48 + b.toNat / 100 := u8n _ (by omega)
      have w1 : wr .i64 (i + 1) = i + 1 := w64 (by have := h2.1; have := h2.2.1; have := h2.2.2.1; omega)
      have d1 : (((UInt8.ofNat (48 + b.toNat / 100)).toNat : Int) == 34) = false := by rw [t1]; simp; omega
      have d2 : (((UInt8.ofNat (48 + b.toNat / 100)).toNat : Int) == 92) = false := by rw [t1]; simp; omega
      rw [m_impl_treeReader_leaf_l29, rAt h']
      simp only [Option.bind_some, rAt h', show (((92 : UInt8).toNat : Int) != 34) = true from rfl, cond_true, show decide (((92 : UInt8).toNat : Int) < 32) = false from rfl, cond_false, show decide (((92 : UInt8).toNat : Int) > 126) = false from rfl, m_impl_treeReader_leaf_j34, m_impl_treeReader_leaf_j31, show (((92 : UInt8).toNat : Int) != 92) = false from rfl, w1, rAt h2, d1, d2, m_impl_treeReader_leaf_j33, rThree h2 c2 hn, Ou.el, toU8_b, gp_pos hg]
      congr 2
      show i + 1 + 3 = i + 4
      omega
theorem rLeafL {s : ByteArray} (n : Nat) (hn : 102 ≤ n) : ∀ (tx : List UInt8) (k : Nat) (i : Int) (out l : List UInt8), Suf s i (tx.flatMap qb ++ l) → out.length + tx.length ≤ 1000000 → m_impl_treeReader_leaf_l29 n (k + tx.length) ⟨s, i⟩ out = m_impl_treeReader_leaf_l29 n k ⟨s, i + (tx.flatMap qb).length⟩ (out ++ tx)
  | [], k, i, out, l, h, ho => by simp
  | b :: tx, k, i, out, l, h, ho => by
    have h' : Suf s i (qb b ++ (tx.flatMap qb ++ l)) := by rw [List.flatMap_cons, List.append_assoc] at h; exact h
    simp only [List.length_cons] at ho
    rw [List.length_cons, show k + (tx.length + 1) = k + tx.length + 1 by omega, rLeafStep h' n _ out (by omega) hn, rLeafL n hn tx k _ (out ++ [b]) l h'.app (by simp; omega)]
    rw [List.flatMap_cons, List.length_append, List.append_assoc]
    congr 2
    omega
theorem quote_ls (tx : ByteArray) : (quote tx).data.toList = 34 :: (tx.data.toList.flatMap qb ++ [34]) := by simp [quote]
theorem rLeaf {s : ByteArray} {i : Int} {tx : ByteArray} {l : List UInt8} (h : Suf s i ((quote tx).data.toList ++ l)) {n : Nat} (hn : 102 + tx.size ≤ n) (ht : tx.size ≤ 1000000) : m_impl_treeReader_leaf n ⟨s, i⟩ = some (.ok (tx, ⟨s, i + (quote tx).size⟩)) := by
  have hsz := size_ls tx
  have hq := size_ls (quote tx)
  rw [quote_ls] at h hq
  have h' : Suf s i (34 :: (tx.data.toList.flatMap qb ++ 34 :: l)) := by simpa using h
  have h2 := h'.cons.2.2
  have h3 := h2.app
  have w1 : wr .i64 (i + 1) = i + 1 := w64 (by have := h2.1; have := h2.2.1; have := h2.2.2.1; omega)
  have w2 : wr .i64 (i + 1 + ((tx.data.toList.flatMap qb).length : Int) + 1) = i + (quote tx).size := by
    have := h3.cons.2.2
    have a1 := this.1; have a2 := this.2.1; have a3 := this.2.2.1
    rw [hq]
    simp only [List.length_cons, List.length_append, List.length_nil]
    exact (w64 (by omega)).trans (by omega)
  obtain ⟨m, rfl⟩ : ∃ m, n = (m + 1) + tx.data.toList.length := ⟨n - 1 - tx.data.toList.length, by omega⟩
  have hl := rLeafL (m + 1 + tx.data.toList.length) (by omega) tx.data.toList (m + 1) (i + 1) [] (34 :: l) h2 (by simp; omega)
  unfold m_impl_treeReader_leaf
  rw [rAt h']
  simp only [Option.bind_some, show (((34 : UInt8).toNat : Int) != 34) = false from rfl, cond_false, m_impl_treeReader_leaf_j1, w1]
  rw [hl, m_impl_treeReader_leaf_l29, rAt h3]
  simp only [Option.bind_some, show (((34 : UInt8).toNat : Int) != 34) = false from rfl, cond_false, m_impl_treeReader_leaf_j18, w2, List.nil_append]
  rfl
theorem rLeafCut {s : ByteArray} {i : Int} {tx : ByteArray} (h : Suf s i (34 :: tx.data.toList.flatMap qb)) {n : Nat} (hn : 102 + tx.size ≤ n) (ht : tx.size ≤ 1000000) : m_impl_treeReader_leaf n ⟨s, i⟩ = some (.pan s.size) := by
  have hsz := size_ls tx
  have h2 := h.cons.2.2
  have h2' : Suf s (i + 1) (tx.data.toList.flatMap qb ++ []) := by simpa using h2
  have h3 := h2'.app
  have w1 : wr .i64 (i + 1) = i + 1 := w64 (by have := h2.1; have := h2.2.1; have := h2.2.2.1; omega)
  obtain ⟨m, rfl⟩ : ∃ m, n = (m + 1) + tx.data.toList.length := ⟨n - 1 - tx.data.toList.length, by omega⟩
  have hl := rLeafL (m + 1 + tx.data.toList.length) (by omega) tx.data.toList (m + 1) (i + 1) [] [] h2' (by simp; omega)
  have hend := h3.len
  simp only [List.length_nil] at hend
  unfold m_impl_treeReader_leaf
  rw [rAt h]
  simp only [Option.bind_some, show (((34 : UInt8).toNat : Int) != 34) = false from rfl, cond_false, m_impl_treeReader_leaf_j1, w1]
  rw [hl, m_impl_treeReader_leaf_l29, rAtN h3]
  simp only [Option.bind_some, show ((-1 : Int) != 34) = true from rfl, cond_true, rAtN h3, show decide ((-1 : Int) < 32) = true from rfl, m_impl_treeReader_leaf_j34, m_impl_treeReader_bad, Ou.el]
  congr 2
  omega
end Go.Proofs.Ytgdecbliegelmaa.Z
