/- FnRenamed, plain: names, right scope graphs. -/
import Derived.Test.YtegpjjnedbbpjaaRn1c
set_option linter.unusedVariables false
set_option linter.unusedSimpArgs false
namespace Go.Proofs.Ytegpjjnedbbpjaa.Z
open Go Go.RowKit Go.Proofs.Sy Go.Proofs
set_option maxRecDepth 100000
theorem ixp {α : Type} (pre : List α) (k : α) (r : List α) : ix (pre ++ k :: r) (pre.length : Int) = some k := by
  unfold ix
  rw [if_pos (by omega)]
  simp
theorem wln {α : Type} (pre : List α) (k : α) (h : pre.length ≤ 1000000000000) : wr .i64 ((pre.length : Int) + 1) = ((pre ++ [k]).length : Int) := by
  rw [List.length_append]
  exact (w64 (by omega)).trans (by simp)
theorem mLetterS (n : Nat) (c : Int) : m_spec_l01Letter n c = some (isLetter c) := by
  unfold m_spec_l01Letter isLetter
  by_cases h1 : 97 ≤ c <;> by_cases h2 : c ≤ 122 <;> by_cases h3 : 65 ≤ c <;> simp [h1, h2, h3, GE.ge]
theorem mDigitS (n : Nat) (c : Int) : m_spec_l01Digit n c = some (isDigit c) := by
  unfold m_spec_l01Digit isDigit
  by_cases h1 : 48 ≤ c <;> simp [h1, GE.ge]
theorem mNameByte (n : Nat) (c : Int) : m_spec_l01NameByte n c = some (inName c) := by
  unfold m_spec_l01NameByte inName
  rw [mLetterS, mDigitS]
  cases isLetter c <;> cases isDigit c <;> simp
theorem mLetterI (n : Nat) (c : Int) : m_impl_isLetter n c = some (isLetter c) := by
  unfold m_impl_isLetter isLetter
  by_cases h1 : 97 ≤ c <;> by_cases h2 : c ≤ 122 <;> by_cases h3 : 65 ≤ c <;> simp [h1, h2, h3, GE.ge]
theorem mDigitI (n : Nat) (c : Int) : m_impl_isDigit n c = some (isDigit c) := by
  unfold m_impl_isDigit isDigit
  by_cases h1 : 48 ≤ c <;> simp [h1, GE.ge]
theorem mInNameI (n : Nat) (c : Int) : m_impl_inName n c = some (inName c) := by
  unfold m_impl_inName inName
  rw [mLetterI, mDigitI]
  cases isLetter c <;> cases isDigit c <;> simp
theorem nmLI (n : Nat) (s : ByteArray) (hs : s.size ≤ 1000000000000) : ∀ (k : Nat) (i : Int), 0 ≤ i → i ≤ s.size → s.size - i < k → m_impl_nameOK_l3 n s k i = some (allFrom inName s i)
  | 0, i, h0, h1, h2 => by omega
  | k + 1, i, h0, h1, h2 => by
    unfold m_impl_nameOK_l3
    by_cases c : i < (s.size : Int)
    · have w : wr .i64 (i + 1) = i + 1 := w64 (by omega)
      rw [decide_eq_true c, allFrom_step h0 c]
      simp only [cond_true, gp_pos (show 0 ≤ i ∧ i < (s.size : Int) from ⟨h0, c⟩), mInNameI, Option.bind_some, w]
      cases inName (bt s i) with
      | true => exact nmLI n s hs k (i + 1) (by omega) (by omega) (by omega)
      | false => rfl
    · rw [decide_eq_false c, allFrom_end (by omega)]; rfl
theorem nmLS (n : Nat) (s : ByteArray) (hs : s.size ≤ 1000000000000) : ∀ (k : Nat) (i : Int), 0 ≤ i → i ≤ s.size → s.size - i < k → m_spec_l01Name_l3 n s k i = some (allFrom inName s i)
  | 0, i, h0, h1, h2 => by omega
  | k + 1, i, h0, h1, h2 => by
    unfold m_spec_l01Name_l3
    by_cases c : i < (s.size : Int)
    · have w : wr .i64 (i + 1) = i + 1 := w64 (by omega)
      rw [decide_eq_true c, allFrom_step h0 c]
      simp only [cond_true, gp_pos (show 0 ≤ i ∧ i < (s.size : Int) from ⟨h0, c⟩), mNameByte, Option.bind_some, w]
      cases inName (bt s i) with
      | true => exact nmLS n s hs k (i + 1) (by omega) (by omega) (by omega)
      | false => rfl
    · rw [decide_eq_false c, allFrom_end (by omega)]; rfl
theorem mNameOK {n : Nat} {s : ByteArray} (hs : s.size ≤ 1000000000000) (hn : s.size + 1 ≤ n) : m_impl_nameOK n s = some (nameOK s) := by
  unfold m_impl_nameOK nameOK
  by_cases c1 : (s.size : Int) < 1
  · rw [decide_eq_true c1, decide_eq_false (show ¬ 1 ≤ s.size by omega)]; rfl
  rw [decide_eq_false c1, decide_eq_true (show 1 ≤ s.size by omega)]
  by_cases c2 : (s.size : Int) > 24
  · rw [decide_eq_true c2, decide_eq_false (show ¬ s.size ≤ 24 by omega)]; rfl
  rw [decide_eq_false c2, decide_eq_true (show s.size ≤ 24 by omega)]
  simp only [cond_false, gp_pos (show 0 ≤ (0 : Int) ∧ (0 : Int) < (s.size : Int) by omega), mLetterI, Option.bind_some, Bool.true_and]
  have h0 := allFrom_step (p := inName) (s := s) (i := 0) (by omega) (by omega)
  cases hl : isLetter (bt s 0) with
  | false => rfl
  | true =>
    have : inName (bt s 0) = true := by unfold inName; rw [hl]; rfl
    rw [this] at h0
    simp only [Bool.not_true, cond_false, nmLI n s hs n 0 (by omega) (by omega) (by omega), Bool.true_and] at h0 ⊢
    rw [h0]; rfl
theorem mNameS {n : Nat} {s : ByteArray} (hs : s.size ≤ 1000000000000) (hn : s.size + 1 ≤ n) : m_spec_l01Name n s = some (nameOK s) := by
  unfold m_spec_l01Name nameOK
  by_cases c1 : (s.size : Int) < 1
  · rw [decide_eq_true c1, decide_eq_false (show ¬ 1 ≤ s.size by omega)]; rfl
  rw [decide_eq_false c1, decide_eq_true (show 1 ≤ s.size by omega)]
  by_cases c2 : (s.size : Int) > 24
  · rw [decide_eq_true c2, decide_eq_false (show ¬ s.size ≤ 24 by omega)]; rfl
  rw [decide_eq_false c2, decide_eq_true (show s.size ≤ 24 by omega)]
  simp only [cond_false, gp_pos (show 0 ≤ (0 : Int) ∧ (0 : Int) < (s.size : Int) by omega), mLetterS, Option.bind_some, Bool.true_and]
  cases hl : isLetter (bt s 0) with
  | false => rfl
  | true =>
    simp only [Bool.not_true, cond_false, nmLS n s hs n 1 (by omega) (by omega) (by omega), Bool.true_and]

theorem nameI {n : Nat} (hn : 30 ≤ n) (s : ByteArray) : m_impl_nameOK n s = some (nameOK s) := by
  by_cases h : s.size ≤ 24
  · exact mNameOK (by omega) (by omega)
  · unfold m_impl_nameOK nameOK
    rw [decide_eq_false (show ¬ (s.size : Int) < 1 by omega), decide_eq_true (show (s.size : Int) > 24 by omega), decide_eq_false h]
    simp
theorem nameS {n : Nat} (hn : 30 ≤ n) (s : ByteArray) : m_spec_l01Name n s = some (nameOK s) := by
  by_cases h : s.size ≤ 24
  · exact mNameS (by omega) (by omega)
  · unfold m_spec_l01Name nameOK
    rw [decide_eq_false (show ¬ (s.size : Int) < 1 by omega), decide_eq_true (show (s.size : Int) > 24 by omega), decide_eq_false h]
    simp
def inR (sc i : Int) : Bool := decide (0 ≤ i) && decide (i < sc)
def spotOK (sc : Int) (s : gSpot) : Bool := inR sc s.scope_ && nameOK s.name_
def edgeOK (sc : Int) (e : gSEdge) : Bool := inR sc e.from_ && (inR sc e.to_ && (decide (1 ≤ e.kind_) && decide (e.kind_ ≤ 2)))
def okG (g : gSg) : Bool := decide (1 ≤ g.scopes_) && (decide (g.scopes_ ≤ 60) && (decide (g.edges_.length ≤ 120) && (decide (g.decls_.length ≤ 120) && (decide (g.refs_.length ≤ 120) && (g.edges_.all (edgeOK g.scopes_) && (g.decls_.all (spotOK g.scopes_) && g.refs_.all (spotOK g.scopes_)))))))
theorem btw (n : Nat) (a b c : Int) : m_spec_l01Between n a b c = some (decide (b ≤ a) && decide (a ≤ c)) := by
  unfold m_spec_l01Between
  by_cases h : b ≤ a
  · rw [decide_eq_true (show a ≥ b from h)]; rfl
  · rw [decide_eq_false (show ¬ a ≥ b from h)]; rfl
theorem btwR (n : Nat) {sc : Int} (h1 : 1 ≤ sc) (h2 : sc ≤ 60) (i : Int) : m_spec_l01Between n i 0 (wr .i64 (sc - 1)) = some (inR sc i) := by
  rw [btw, show wr .i64 (sc - 1) = sc - 1 from w64 (by omega)]
  unfold inR
  congr 2
  exact decide_eq_decide.mpr (by omega)
theorem spotsL (n : Nat) (hn : 30 ≤ n) (l : List gSpot) (hl : l.length ≤ 120) {sc : Int} (h1 : 1 ≤ sc) (h2 : sc ≤ 60) : ∀ (r pre : List gSpot) (k : Nat), l = pre ++ r → r.length < k → m_spec_l12Spots_l3 n l sc k (pre.length : Int) = some (r.all (spotOK sc))
  | [], pre, k, h, hk => by
    obtain ⟨k, rfl⟩ : ∃ m, k = m + 1 := ⟨k - 1, by simp at hk; omega⟩
    have hl : ¬ (pre.length : Int) < ((l.map gSpot.enc).length : Int) := by rw [List.length_map, h]; simp
    rw [m_spec_l12Spots_l3, decide_eq_false hl]; rfl
  | q :: r, pre, k, h, hk => by
    obtain ⟨k, rfl⟩ : ∃ m, k = m + 1 := ⟨k - 1, by simp at hk; omega⟩
    have h3 : l.length = pre.length + (r.length + 1) := by rw [h]; simp
    have p2 : (pre.length : Int) < ((l.map gSpot.enc).length : Int) := by rw [List.length_map]; omega
    have e : ix l (pre.length : Int) = some q := by rw [h, ixp]
    have ih := spotsL n hn l hl h1 h2 r (pre ++ [q]) k (by rw [h]; simp) (by simp at hk; omega)
    rw [m_spec_l12Spots_l3, decide_eq_true p2]
    simp only [e, cond_true, Option.bind_some, btwR n h1 h2, nameS hn, wln pre q (by omega), List.all_cons, spotOK, ih]
    cases inR sc q.scope_ <;> cases nameOK q.name_ <;> rfl
theorem spots {n : Nat} (hn : 200 ≤ n) (l : List gSpot) {sc : Int} (h1 : 1 ≤ sc) (h2 : sc ≤ 60) : m_spec_l12Spots n l sc = some (decide (l.length ≤ 120) && l.all (spotOK sc)) := by
  unfold m_spec_l12Spots
  by_cases h : l.length ≤ 120
  · rw [decide_eq_false (show ¬ ((l.map gSpot.enc).length : Int) > 120 by rw [List.length_map]; omega), decide_eq_true h]
    exact spotsL n (by omega) l h h1 h2 l [] n rfl (by omega)
  · rw [decide_eq_true (show ((l.map gSpot.enc).length : Int) > 120 by rw [List.length_map]; omega), decide_eq_false h]; rfl
theorem sgL (n : Nat) (g : gSg) (hl : g.edges_.length ≤ 120) (h1 : 1 ≤ g.scopes_) (h2 : g.scopes_ ≤ 60) : ∀ (r pre : List gSEdge) (k : Nat), g.edges_ = pre ++ r → r.length < k → m_spec_SgOK_l3 n g k (pre.length : Int) = some (r.all (edgeOK g.scopes_))
  | [], pre, k, h, hk => by
    obtain ⟨k, rfl⟩ : ∃ m, k = m + 1 := ⟨k - 1, by simp at hk; omega⟩
    have hl : ¬ (pre.length : Int) < ((g.edges_.map gSEdge.enc).length : Int) := by rw [List.length_map, h]; simp
    rw [m_spec_SgOK_l3, decide_eq_false hl]; rfl
  | q :: r, pre, k, h, hk => by
    obtain ⟨k, rfl⟩ : ∃ m, k = m + 1 := ⟨k - 1, by simp at hk; omega⟩
    have h3 : g.edges_.length = pre.length + (r.length + 1) := by rw [h]; simp
    have p2 : (pre.length : Int) < ((g.edges_.map gSEdge.enc).length : Int) := by rw [List.length_map]; omega
    have e : ix g.edges_ (pre.length : Int) = some q := by rw [h, ixp]
    have ih := sgL n g hl h1 h2 r (pre ++ [q]) k (by rw [h]; simp) (by simp at hk; omega)
    rw [m_spec_SgOK_l3, decide_eq_true p2]
    simp only [e, cond_true, Option.bind_some, btwR n h1 h2, btw, wln pre q (by omega), List.all_cons, edgeOK, ih]
    cases inR g.scopes_ q.from_ <;> cases inR g.scopes_ q.to_ <;> cases (decide (1 ≤ q.kind_) && decide (q.kind_ ≤ 2)) <;> rfl
theorem sgOK_s {n : Nat} (hn : 200 ≤ n) (g : gSg) : m_spec_SgOK n g = some (okG g) := by
  unfold m_spec_SgOK okG
  rw [btw]
  by_cases h1 : 1 ≤ g.scopes_
  · by_cases h2 : g.scopes_ ≤ 60
    · by_cases h3 : g.edges_.length ≤ 120
      · rw [decide_eq_true h1, decide_eq_true h2, decide_eq_true h3, decide_eq_false (show ¬ ((g.edges_.map gSEdge.enc).length : Int) > 120 by rw [List.length_map]; omega)]
        have ih := sgL n g h3 h1 h2 g.edges_ [] n rfl (by omega)
        have ih' : m_spec_SgOK_l3 n g n 0 = some (g.edges_.all (edgeOK g.scopes_)) := ih
        simp only [spots hn _ h1 h2, ih', Option.bind_some]
        cases decide (g.decls_.length ≤ 120) <;> cases decide (g.refs_.length ≤ 120) <;> cases g.edges_.all (edgeOK g.scopes_) <;> cases g.decls_.all (spotOK g.scopes_) <;> cases g.refs_.all (spotOK g.scopes_) <;> rfl
      · rw [decide_eq_true h1, decide_eq_true h2, decide_eq_false h3, decide_eq_true (show ((g.edges_.map gSEdge.enc).length : Int) > 120 by rw [List.length_map]; omega)]; rfl
    · rw [decide_eq_true h1, decide_eq_false h2]; rfl
  · rw [decide_eq_false h1]; rfl
theorem sg1 (n : Nat) (i : Int) (g : gSg) : m_impl_SgOK_1 n i g = some (inR g.scopes_ i, g) := by
  unfold m_impl_SgOK_1 inR
  by_cases h : 0 ≤ i
  · rw [decide_eq_true (show i ≥ 0 from h)]; rfl
  · rw [decide_eq_false (show ¬ i ≥ 0 from h)]; rfl
theorem sgI23 (n : Nat) (hn : 30 ≤ n) (g : gSg) (v : Int) (rec20 : Int → gSg → Option Bool) (l : List gSpot) (hl : l.length ≤ 120) (X : Bool) (hX : rec20 (wr .i64 (v + 1)) g = some X) : ∀ (r pre : List gSpot) (k : Nat), l = pre ++ r → r.length < k → m_impl_SgOK_l23 n v rec20 l k (pre.length : Int) g = some (r.all (spotOK g.scopes_) && X)
  | [], pre, k, h, hk => by
    obtain ⟨k, rfl⟩ : ∃ m, k = m + 1 := ⟨k - 1, by simp at hk; omega⟩
    have hl : ¬ (pre.length : Int) < ((l.map gSpot.enc).length : Int) := by rw [List.length_map, h]; simp
    rw [m_impl_SgOK_l23, decide_eq_false hl]
    simp only [cond_false, m_impl_SgOK_j22, hX, List.all_nil, Bool.true_and]
  | q :: r, pre, k, h, hk => by
    obtain ⟨k, rfl⟩ : ∃ m, k = m + 1 := ⟨k - 1, by simp at hk; omega⟩
    have h3 : l.length = pre.length + (r.length + 1) := by rw [h]; simp
    have p2 : (pre.length : Int) < ((l.map gSpot.enc).length : Int) := by rw [List.length_map]; omega
    have e : ix l (pre.length : Int) = some q := by rw [h, ixp]
    have ih := sgI23 n hn g v rec20 l hl X hX r (pre ++ [q]) k (by rw [h]; simp) (by simp at hk; omega)
    rw [m_impl_SgOK_l23, decide_eq_true p2]
    simp only [e, cond_true, Option.bind_some, sg1, nameI hn, wln pre q (by omega), List.all_cons, spotOK, ih]
    cases inR g.scopes_ q.scope_ <;> cases nameOK q.name_ <;> rfl
theorem sgI2 {n : Nat} (hn : 200 ≤ n) (g : gSg) (h4 : g.decls_.length ≤ 120) (h5 : g.refs_.length ≤ 120) : m_impl_SgOK_j2 n g = some (g.decls_.all (spotOK g.scopes_) && g.refs_.all (spotOK g.scopes_)) := by
  unfold m_impl_SgOK_j2
  obtain ⟨n', rfl⟩ : ∃ m, n = m + 3 := ⟨n - 3, by omega⟩
  have e3 : m_impl_SgOK_l20 (n' + 3) g (n' + 1) 2 g = some true := rfl
  have e2 : m_impl_SgOK_l20 (n' + 3) g (n' + 2) 1 g = some (g.refs_.all (spotOK g.scopes_) && true) := by
    have := sgI23 (n' + 3) (by omega) g 1 (m_impl_SgOK_l20 (n' + 3) g (n' + 1)) g.refs_ h5 true (by rw [show wr .i64 ((1 : Int) + 1) = 2 from w64 (by omega)]; exact e3) g.refs_ [] (n' + 3) rfl (by omega)
    exact this
  have := sgI23 (n' + 3) (by omega) g 0 (m_impl_SgOK_l20 (n' + 3) g (n' + 2)) g.decls_ h4 _ (by rw [show wr .i64 ((0 : Int) + 1) = 1 from w64 (by omega)]; exact e2) g.decls_ [] (n' + 3) rfl (by omega)
  rw [Bool.and_true] at this
  exact this
theorem sgI24 (n : Nat) (g : gSg) (hl : g.edges_.length ≤ 120) (X : Bool) (hX : m_impl_SgOK_j2 n g = some X) : ∀ (r pre : List gSEdge) (k : Nat), g.edges_ = pre ++ r → r.length < k → m_impl_SgOK_l24 n g k (pre.length : Int) g = some (r.all (edgeOK g.scopes_) && X)
  | [], pre, k, h, hk => by
    obtain ⟨k, rfl⟩ : ∃ m, k = m + 1 := ⟨k - 1, by simp at hk; omega⟩
    have hl : ¬ (pre.length : Int) < ((g.edges_.map gSEdge.enc).length : Int) := by rw [List.length_map, h]; simp
    rw [m_impl_SgOK_l24, decide_eq_false hl]
    simp only [cond_false, hX, List.all_nil, Bool.true_and]
  | q :: r, pre, k, h, hk => by
    obtain ⟨k, rfl⟩ : ∃ m, k = m + 1 := ⟨k - 1, by simp at hk; omega⟩
    have h3 : g.edges_.length = pre.length + (r.length + 1) := by rw [h]; simp
    have p2 : (pre.length : Int) < ((g.edges_.map gSEdge.enc).length : Int) := by rw [List.length_map]; omega
    have e : ix g.edges_ (pre.length : Int) = some q := by rw [h, ixp]
    have ih := sgI24 n g hl X hX r (pre ++ [q]) k (by rw [h]; simp) (by simp at hk; omega)
    rw [m_impl_SgOK_l24, decide_eq_true p2]
    simp only [e, cond_true, Option.bind_some, sg1, wln pre q (by omega), List.all_cons, edgeOK, ih]
    cases inR g.scopes_ q.from_ with
    | false => rfl
    | true =>
    cases inR g.scopes_ q.to_ with
    | false => rfl
    | true =>
      by_cases k1 : q.kind_ = 1
      · simp [k1]
      · by_cases k2 : q.kind_ = 2
        · simp [k2]
        · have e1 : (q.kind_ != 1) = true := by simpa using k1
          have e2 : (q.kind_ != 2) = true := by simpa using k2
          have e3 : (decide (1 ≤ q.kind_) && decide (q.kind_ ≤ 2)) = false := by simp; omega
          rw [e1, e2, e3]; rfl
theorem sgOK_i {n : Nat} (hn : 200 ≤ n) (g : gSg) : m_impl_SgOK n g = some (okG g) := by
  unfold m_impl_SgOK okG
  simp only [List.length_map]
  by_cases h1 : 1 ≤ g.scopes_
  · by_cases h2 : g.scopes_ ≤ 60
    · by_cases h3 : g.edges_.length ≤ 120
      · by_cases h4 : g.decls_.length ≤ 120
        · by_cases h5 : g.refs_.length ≤ 120
          · rw [decide_eq_true h1, decide_eq_true h2, decide_eq_true h3, decide_eq_true h4, decide_eq_true h5, decide_eq_false (show ¬ g.scopes_ < 1 by omega), decide_eq_false (show ¬ g.scopes_ > 60 by omega), decide_eq_false (show ¬ (g.edges_.length : Int) > 120 by omega), decide_eq_false (show ¬ (g.decls_.length : Int) > 120 by omega), decide_eq_false (show ¬ (g.refs_.length : Int) > 120 by omega)]
            exact sgI24 n g h3 _ (sgI2 hn g h4 h5) g.edges_ [] n rfl (by omega)
          · rw [decide_eq_true h1, decide_eq_true h2, decide_eq_true h3, decide_eq_true h4, decide_eq_false h5, decide_eq_false (show ¬ g.scopes_ < 1 by omega), decide_eq_false (show ¬ g.scopes_ > 60 by omega), decide_eq_false (show ¬ (g.edges_.length : Int) > 120 by omega), decide_eq_false (show ¬ (g.decls_.length : Int) > 120 by omega), decide_eq_true (show (g.refs_.length : Int) > 120 by omega)]; rfl
        · rw [decide_eq_true h1, decide_eq_true h2, decide_eq_true h3, decide_eq_false h4, decide_eq_false (show ¬ g.scopes_ < 1 by omega), decide_eq_false (show ¬ g.scopes_ > 60 by omega), decide_eq_false (show ¬ (g.edges_.length : Int) > 120 by omega), decide_eq_true (show (g.decls_.length : Int) > 120 by omega)]; rfl
      · rw [decide_eq_true h1, decide_eq_true h2, decide_eq_false h3, decide_eq_false (show ¬ g.scopes_ < 1 by omega), decide_eq_false (show ¬ g.scopes_ > 60 by omega), decide_eq_true (show (g.edges_.length : Int) > 120 by omega)]; rfl
    · rw [decide_eq_true h1, decide_eq_false h2, decide_eq_false (show ¬ g.scopes_ < 1 by omega), decide_eq_true (show g.scopes_ > 60 by omega)]; rfl
  · rw [decide_eq_false h1, decide_eq_true (show g.scopes_ < 1 by omega)]; rfl
end Go.Proofs.Ytegpjjnedbbpjaa.Z
