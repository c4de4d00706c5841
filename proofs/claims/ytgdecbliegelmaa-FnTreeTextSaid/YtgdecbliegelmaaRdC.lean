/- The reader of trees (program): trees. -/
import Derived.Test.YtgdecbliegelmaaRdB
set_option linter.unusedVariables false
set_option linter.unusedSimpArgs false
namespace Go.Proofs.Ytgdecbliegelmaa.Z
open Go Go.RowKit Go.Proofs.Sy Go.Proofs
set_option maxRecDepth 100000
def kidT : List Tree → List UInt8
  | [] => []
  | k :: ks => 32 :: ((shw k).data.toList ++ kidT ks)
def bodT : List Tree → List UInt8
  | [] => []
  | k :: ks => (shw k).data.toList ++ kidT ks
theorem lsa (a b : ByteArray) : (a ++ b).data.toList = a.data.toList ++ b.data.toList := by simp
theorem shwL_ls : ∀ (ks : List Tree) (s : ByteArray), (shwL ks s).data.toList = s.data.toList ++ kidT ks
  | [], s => by simp [shwL, kidT]
  | k :: ks, s => by
    rw [shwL, shwL_ls ks, lsa, lsa, kidT]
    show s.data.toList ++ [32] ++ (shw k).data.toList ++ kidT ks = _
    simp
theorem shw_leaf {t : Tree} (h : t.lf = true) : (shw t).data.toList = t.nm.data.toList ++ (quote t.tx).data.toList := by rw [shw_eq, if_pos h, lsa]
theorem shw_node {t : Tree} (h : t.lf = false) : (shw t).data.toList = 40 :: (t.nm.data.toList ++ (kidT t.ks ++ [41])) := by
  rw [shw_eq, if_neg (by simp [h]), lsa, shwL_ls, lsa]
  show [40] ++ t.nm.data.toList ++ kidT t.ks ++ [41] = _
  simp
theorem nm_of {s : ByteArray} (h : nameOK s = true) : nmQ s.data.toList = true := by
  unfold nameOK at h
  simp only [Bool.and_eq_true, decide_eq_true_eq] at h
  obtain ⟨⟨⟨h1, h2⟩, h3⟩, h4⟩ := h
  have hsz := size_ls s
  have hb : bt s 0 = ((s.data.toList.getD 0 0).toNat : Int) := by
    obtain ⟨c, hc, hd⟩ := bt_drop (s := s) (i := 0) (by omega) (by omega)
    rw [hc]
    have hd' : s.data.toList = c :: s.data.toList.drop 1 := hd
    rw [hd']; rfl
  unfold allFrom at h4
  cases hl : s.data.toList with
  | nil => rw [hl] at hsz; simp only [List.length_nil] at hsz; omega
  | cons c r =>
    rw [hl] at hb h4 hsz
    simp only [List.length_cons] at hsz
    simp only [nmQ, Bool.and_eq_true, decide_eq_true_eq]
    refine ⟨⟨?_, ?_⟩, by omega⟩
    · rw [hb] at h3; exact h3
    · simpa using h4
theorem right_nm {t : Tree} (h : right t = true) : nmQ t.nm.data.toList = true := by
  rw [right_eq] at h
  simp only [Bool.and_eq_true] at h
  exact nm_of h.1.1.1
theorem right_node {t : Tree} (h : right t = true) (hl : t.lf = false) : t.tx = ⟨#[]⟩ := by
  rw [right_eq, hl] at h
  simp at h
  exact h.1.2
theorem right_leafT {t : Tree} (h : right t = true) (hl : t.lf = true) : t.ks = [] ∧ t.tx.size ≤ 200 := by
  rw [right_eq, hl] at h
  simp at h
  exact ⟨h.1.2.1, by omega⟩
theorem rightM {t k : Tree} (h : right t = true) (hm : k ∈ t.ks) : right k = true := by
  rw [right_eq, Bool.and_eq_true] at h
  have : ∀ l : List Tree, rightL l = true → k ∈ l → right k = true := fun l => by
    induction l with
    | nil => intro _ hm; simp at hm
    | cons a l ih =>
      intro h hm
      simp only [rightL, Bool.and_eq_true] at h
      rcases List.mem_cons.mp hm with rfl | hm
      · exact h.1
      · exact ih h.2 hm
  exact this _ h.2 hm
theorem letter_rng {c : Int} (h : isLetter c = true) : 65 ≤ c ∧ c ≤ 122 := by
  unfold isLetter at h
  simp at h
  omega
theorem nm_head {s : ByteArray} (h : nmQ s.data.toList = true) : ∃ b r, s.data.toList = b :: r ∧ 65 ≤ b.toNat ∧ b.toNat ≤ 122 := by
  cases hl : s.data.toList with
  | nil => rw [hl] at h; cases h
  | cons b r =>
    rw [hl] at h
    simp only [nmQ, Bool.and_eq_true] at h
    have := letter_rng h.1.1
    exact ⟨b, r, rfl, by omega, by omega⟩
theorem shw_head {t : Tree} (h : right t = true) : ∃ b r, (shw t).data.toList = b :: r ∧ b.toNat ≠ 41 ∧ b.toNat ≠ 32 ∧ b.toNat ≠ 10 := by
  cases hl : t.lf with
  | true =>
    obtain ⟨b, r, e, h1, h2⟩ := nm_head (right_nm h)
    rw [shw_leaf hl, e]
    exact ⟨b, _, rfl, by omega, by omega, by omega⟩
  | false => rw [shw_node hl]; exact ⟨40, _, rfl, by decide, by decide, by decide⟩
theorem nbl_bT {ks : List Tree} {l : List UInt8} (hk : ∀ k ∈ ks, right k = true) (hl : nbl l) : nbl (bodT ks ++ l) := by
  cases ks with
  | nil => exact hl
  | cons k ks =>
    obtain ⟨b, r, e, h1, h2, h3⟩ := shw_head (hk k (List.mem_cons_self ..))
    simp only [bodT, e]
    exact ⟨h2, h3⟩
/-- Behind a name or a kid: what is left to read of the kids, a blank ahead of each. -/
theorem rGap {s : ByteArray} {i : Int} {ks : List Tree} {l : List UInt8} (h : Suf s i (kidT ks ++ l)) (hk : ∀ k ∈ ks, right k = true) (hl : nbl l) {n : Nat} (hn : 3 ≤ n) :
    m_impl_treeReader_blanks n ⟨s, i⟩ = some (!ks.isEmpty, ⟨s, i + ((kidT ks).length - (bodT ks).length : Nat)⟩) ∧ Suf s (i + ((kidT ks).length - (bodT ks).length : Nat)) (bodT ks ++ l) := by
  cases ks with
  | nil =>
    have := rBlanks0 (l := l) h hl (n := n) (by omega)
    simp only [kidT, bodT, List.length_nil]
    have h' : Suf s i l := h
    exact ⟨by simpa using this, by simpa using h'⟩
  | cons k ks =>
    have h' : Suf s i (32 :: (bodT (k :: ks) ++ l)) := h
    have := rBlanks1 h' (.inl rfl) (nbl_bT hk hl) (n := n) (by omega)
    have e : ((kidT (k :: ks)).length - (bodT (k :: ks)).length : Nat) = 1 := by simp only [kidT, bodT, List.length_cons]; omega
    rw [e]
    exact ⟨this, h'.cons.2.2⟩
theorem rKid {s : ByteArray} {i : Int} {k : Tree} {ks : List Tree} {l : List UInt8} (n : Nat) (self : gtreeReader → Option (Ou (Tree × gtreeReader))) (r : ByteArray × gtreeReader) (kk : Nat) (out : List Tree) (h : Suf s i (bodT (k :: ks) ++ l)) (hk : ∀ q ∈ k :: ks, right q = true) (hl : nbl l) (hn : 3 ≤ n)
    (hs : self ⟨s, i⟩ = some (.ok (k, ⟨s, i + (shw k).size⟩))) (ho : out.length ≤ 1000000) :
    ∃ j, m_impl_treeReader_tree_l18 self n r (kk + 1) true ⟨s, i⟩ out = m_impl_treeReader_tree_l18 self n r kk (!ks.isEmpty) ⟨s, j⟩ (out ++ [k]) ∧ Suf s j (bodT ks ++ l) := by
  obtain ⟨b, q, e, h1, h2, h3⟩ := shw_head (hk k (List.mem_cons_self ..))
  have hsz := size_ls (shw k)
  have h' : Suf s i (b :: (q ++ kidT ks ++ l)) := by
    have : bodT (k :: ks) ++ l = b :: (q ++ kidT ks ++ l) := by simp [bodT, e]
    rw [← this]; exact h
  have h2' : Suf s (i + (shw k).size) (kidT ks ++ l) := by
    have : Suf s i ((shw k).data.toList ++ (kidT ks ++ l)) := by rw [← List.append_assoc]; exact h
    have := this.app
    rw [← hsz] at this; exact this
  obtain ⟨g1, g2⟩ := rGap h2' (fun q hq => hk q (List.mem_cons_of_mem _ hq)) hl hn
  refine ⟨_, ?_, g2⟩
  have d1 : ((b.toNat : Int) != 41) = true := by simp; omega
  have hg : out.length + ([k] : List Tree).length ≤ 68719476736 := by simp; omega
  rw [m_impl_treeReader_tree_l18, rAt h']
  simp only [Option.bind_some, d1, cond_true, Bool.not_true, cond_false, m_impl_treeReader_tree_j21, m_impl_treeReader_tree_j20, hs, Ou.el, gp_pos hg, g1]
theorem rKids {s : ByteArray} (n : Nat) (self : gtreeReader → Option (Ou (Tree × gtreeReader))) (r : ByteArray × gtreeReader) (hn : 3 ≤ n) : ∀ (ks : List Tree) (kk : Nat) (i : Int) (out : List Tree) (l : List UInt8), Suf s i (bodT ks ++ l) → (∀ k ∈ ks, right k = true) → nbl l →
    (∀ k ∈ ks, ∀ i l, Suf s i ((shw k).data.toList ++ l) → self ⟨s, i⟩ = some (.ok (k, ⟨s, i + (shw k).size⟩))) → out.length + ks.length ≤ 1000000 →
    ∃ j, m_impl_treeReader_tree_l18 self n r (kk + ks.length) (!ks.isEmpty) ⟨s, i⟩ out = m_impl_treeReader_tree_l18 self n r kk false ⟨s, j⟩ (out ++ ks) ∧ Suf s j l
  | [], kk, i, out, l, h, hk, hl, hs, ho => ⟨i, by simp, h⟩
  | k :: ks, kk, i, out, l, h, hk, hl, hs, ho => by
    simp only [List.length_cons] at ho
    have hk' : ∀ q ∈ ks, right q = true := fun q hq => hk q (List.mem_cons_of_mem _ hq)
    have hself := hs k (List.mem_cons_self ..) i (kidT ks ++ l) (by rw [← List.append_assoc]; exact h)
    obtain ⟨j, e1, h1⟩ := rKid n self r (kk + ks.length) out h hk hl hn hself (by omega)
    obtain ⟨j2, e2, h2⟩ := rKids n self r hn ks kk j (out ++ [k]) l h1 hk' hl (fun q hq => hs q (List.mem_cons_of_mem _ hq)) (by simp; omega)
    refine ⟨j2, ?_, h2⟩
    rw [List.length_cons, show kk + (ks.length + 1) = kk + ks.length + 1 by omega]
    show m_impl_treeReader_tree_l18 self n r (kk + ks.length + 1) true ⟨s, i⟩ out = _
    rw [e1, e2, List.append_assoc]
    rfl
theorem kT_len : ∀ ks : List Tree, ks.length ≤ (kidT ks).length
  | [] => Nat.le_refl _
  | k :: ks => by have := kT_len ks; simp only [kidT, List.length_cons, List.length_append]; omega
theorem nnm_kT (ks : List Tree) (l : List UInt8) (hl : nnm l) : nnm (kidT ks ++ l) := by
  cases ks with
  | nil => exact hl
  | cons k ks => show inName ((32 : UInt8).toNat : Int) = false; decide
/-- A node, up to its kids' end. -/
theorem rNode {s : ByteArray} {i : Int} {t : Tree} {l : List UInt8} (m : Nat) (h : Suf s i (40 :: (t.nm.data.toList ++ (kidT t.ks ++ l)))) (hr : right t = true) (hf : t.lf = false) (hl : nbl l) (hl2 : nnm l) (hm : 30 + s.size ≤ m)
    (hs : ∀ k ∈ t.ks, ∀ i l, Suf s i ((shw k).data.toList ++ l) → m_impl_treeReader_tree m ⟨s, i⟩ = some (.ok (k, ⟨s, i + (shw k).size⟩))) (ho : s.size ≤ 1000000) :
    ∃ j kk q, m_impl_treeReader_tree (m + 1) ⟨s, i⟩ = m_impl_treeReader_tree_l18 (m_impl_treeReader_tree m) m (t.nm, q) (kk + 1) false ⟨s, j⟩ t.ks ∧ Suf s j l := by
  have h2 := h.cons.2.2
  have hsz := size_ls t.nm
  have w1 : wr .i64 (i + 1) = i + 1 := w64 (by have := h2.1; have := h2.2.1; have := h2.2.2.1; omega)
  have h3 : Suf s (i + 1 + t.nm.size) (kidT t.ks ++ l) := by have := h2.app; rw [← hsz] at this; exact this
  obtain ⟨b, q, e, b1, b2⟩ := nm_head (right_nm hr)
  have hb0 := rBlanks0 (s := s) (i := i + 1) h2 (by rw [e]; exact ⟨by omega, by omega⟩) (n := m) (by omega)
  have hnm := rName h2 (right_nm hr) (nnm_kT _ _ hl2) (n := m) (by omega)
  obtain ⟨g1, g2⟩ := rGap h3 (fun k hk => rightM hr hk) hl (n := m) (by omega)
  have hlen := h3.len
  have hkl := kT_len t.ks
  simp only [List.length_append] at hlen
  have h30 := h3.1
  obtain ⟨kk, hkk⟩ : ∃ kk, m = (kk + 1) + t.ks.length := ⟨m - 1 - t.ks.length, by omega⟩
  obtain ⟨j, e1, h4⟩ := rKids m (m_impl_treeReader_tree m) (t.nm, ⟨s, i + 1 + t.nm.size⟩) (by omega) t.ks (kk + 1) _ [] l g2 (fun k hk => rightM hr hk) hl hs (by simp; omega)
  refine ⟨j, kk, ⟨s, i + 1 + t.nm.size⟩, ?_, h4⟩
  rw [List.nil_append, ← hkk] at e1
  rw [m_impl_treeReader_tree, rAt h]
  simp only [Option.bind_some, show (((40 : UInt8).toNat : Int) != 40) = false from rfl, cond_false, w1, hb0, hnm, Ou.el, g1]
  exact e1
theorem rTree : ∀ (m : Nat) (t : Tree) (s : ByteArray) (i : Int) (l : List UInt8), right t = true → Suf s i ((shw t).data.toList ++ l) → 400 + s.size + wt t ≤ m → s.size ≤ 1000000 → m_impl_treeReader_tree m ⟨s, i⟩ = some (.ok (t, ⟨s, i + (shw t).size⟩))
  | 0, t, s, i, l, hr, h, hm, ho => by omega
  | m + 1, t, s, i, l, hr, h, hm, ho => by
    have hsz := size_ls (shw t)
    cases hf : t.lf with
    | false =>
      have hw := shw_node hf
      have h' : Suf s i (40 :: (t.nm.data.toList ++ (kidT t.ks ++ (41 :: l)))) := by rw [hw] at h; simpa using h
      have hks : ∀ k ∈ t.ks, ∀ i l, Suf s i ((shw k).data.toList ++ l) → m_impl_treeReader_tree m ⟨s, i⟩ = some (.ok (k, ⟨s, i + (shw k).size⟩)) := fun k hk i l hh => by
        have := wt_kid hk
        exact rTree m k s i l (rightM hr hk) hh (by omega) ho
      obtain ⟨j, kk, q, e1, h4⟩ := rNode m h' hr hf ⟨by decide, by decide⟩ (by show inName ((41 : UInt8).toNat : Int) = false; decide) (by omega) hks ho
      have hj := h4.len
      have hi := h'.len
      have h5 := h4.cons.2.2
      have w1 : wr .i64 (j + 1) = j + 1 := w64 (by have := h5.1; have := h5.2.1; have := h5.2.2.1; omega)
      have hjj : j + 1 = i + (shw t).size := by
        rw [hsz, hw]
        simp only [List.length_cons, List.length_append, List.length_nil] at hi hj ⊢
        omega
      rw [e1, m_impl_treeReader_tree_l18, rAt h4]
      simp only [Option.bind_some, show (((41 : UInt8).toNat : Int) != 41) = false from rfl, cond_false, m_impl_treeReader_tree_j11, w1]
      rw [hjj]
      have htx := right_node hr hf
      congr 3
      cases t; simp only at hf htx; subst hf; subst htx; rfl
    | true =>
      have hw := shw_leaf hf
      obtain ⟨hks, htl⟩ := right_leafT hr hf
      have hn := size_ls t.nm
      obtain ⟨b, q, e, b1, b2⟩ := nm_head (right_nm hr)
      have h' : Suf s i (t.nm.data.toList ++ ((quote t.tx).data.toList ++ l)) := by rw [hw, List.append_assoc] at h; exact h
      have hb : Suf s i (b :: (q ++ ((quote t.tx).data.toList ++ l))) := by rw [e] at h'; exact h'
      have h2 : Suf s (i + t.nm.size) ((quote t.tx).data.toList ++ l) := by have := h'.app; rw [← hn] at this; exact this
      have hnm := rName h' (right_nm hr) (by rw [quote_ls]; show inName ((34 : UInt8).toNat : Int) = false; decide) (n := m) (by omega)
      have hlf := rLeaf h2 (n := m) (by omega) (by omega)
      have d1 : ((b.toNat : Int) != 40) = true := by simp; omega
      have hs : (shw t).size = t.nm.size + (quote t.tx).size := by rw [hsz, hw, List.length_append, ← hn, ← size_ls]
      rw [m_impl_treeReader_tree, rAt hb]
      simp only [Option.bind_some, d1, cond_true, hnm, Ou.el, hlf]
      rw [hs]
      have : i + (t.nm.size : Int) + ((quote t.tx).size : Int) = i + ((t.nm.size + (quote t.tx).size : Nat) : Int) := by omega
      rw [this]
      congr 3
      cases t; simp only at hf hks; subst hf; subst hks; rfl
/-- A byte less: the reader stops at the end. -/
theorem rCut (m : Nat) (t : Tree) (s : ByteArray) (i : Int) (hr : right t = true) (h : Suf s i (shw t).data.toList.dropLast) (hm : 401 + s.size + wt t ≤ m) (ho : s.size ≤ 1000000) : m_impl_treeReader_tree m ⟨s, i⟩ = some (.pan s.size) := by
  obtain ⟨m, rfl⟩ : ∃ q, m = q + 1 := ⟨m - 1, by omega⟩
  cases hf : t.lf with
  | false =>
    have hw := shw_node hf
    have h' : Suf s i (40 :: (t.nm.data.toList ++ (kidT t.ks ++ []))) := by
      rw [hw, show (40 : UInt8) :: (t.nm.data.toList ++ (kidT t.ks ++ [41])) = (40 :: (t.nm.data.toList ++ kidT t.ks)) ++ [41] by simp, List.dropLast_concat] at h
      simpa using h
    have hks : ∀ k ∈ t.ks, ∀ i l, Suf s i ((shw k).data.toList ++ l) → m_impl_treeReader_tree m ⟨s, i⟩ = some (.ok (k, ⟨s, i + (shw k).size⟩)) := fun k hk i l hh => by
      have := wt_kid hk
      exact rTree m k s i l (rightM hr hk) hh (by omega) ho
    obtain ⟨j, kk, q, e1, h4⟩ := rNode m h' hr hf trivial trivial (by omega) hks ho
    have hj := h4.len
    simp only [List.length_nil] at hj
    rw [e1, m_impl_treeReader_tree_l18, rAtN h4]
    simp only [Option.bind_some, show ((-1 : Int) != 41) = true from rfl, cond_true, Bool.not_false]
    have hp : j = s.size := by omega
    cases hz : (((t.ks.length : Nat) : Int) == 0) with
    | true => simp only [cond_true, rAtN h4, Option.bind_some, show (!((-1 : Int) == 40)) = true from rfl, m_impl_treeReader_tree_j21, m_impl_treeReader_bad, Ou.el]; rw [hp]
    | false => simp only [cond_false, m_impl_treeReader_tree_j21, cond_true, m_impl_treeReader_bad, Option.bind_some, Ou.el]; rw [hp]
  | true =>
    have hw := shw_leaf hf
    obtain ⟨hks, htl⟩ := right_leafT hr hf
    have hn := size_ls t.nm
    obtain ⟨b, q, e, b1, b2⟩ := nm_head (right_nm hr)
    have h' : Suf s i (t.nm.data.toList ++ (34 :: t.tx.data.toList.flatMap qb)) := by
      rw [hw, quote_ls, show t.nm.data.toList ++ (34 :: (t.tx.data.toList.flatMap qb ++ [34])) = (t.nm.data.toList ++ (34 :: t.tx.data.toList.flatMap qb)) ++ [34] by simp, List.dropLast_concat] at h
      exact h
    have hb : Suf s i (b :: (q ++ (34 :: t.tx.data.toList.flatMap qb))) := by rw [e] at h'; exact h'
    have h2 : Suf s (i + t.nm.size) (34 :: t.tx.data.toList.flatMap qb) := by have := h'.app; rw [← hn] at this; exact this
    have hnm := rName h' (right_nm hr) (by show inName ((34 : UInt8).toNat : Int) = false; decide) (n := m) (by omega)
    have hlf := rLeafCut h2 (n := m) (by omega) (by omega)
    have d1 : ((b.toNat : Int) != 40) = true := by simp; omega
    rw [m_impl_treeReader_tree, rAt hb]
    simp only [Option.bind_some, d1, cond_true, hnm, Ou.el, hlf]
end Go.Proofs.Ytgdecbliegelmaa.Z
