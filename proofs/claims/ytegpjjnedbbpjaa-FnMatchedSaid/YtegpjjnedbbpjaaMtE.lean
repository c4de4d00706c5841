/- Patterns: Match of both, Fill. -/
import Derived.Test.YtegpjjnedbbpjaaMtD
set_option linter.unusedVariables false
set_option linter.unusedSimpArgs false
namespace Go.Proofs.Ytegpjjnedbbpjaa.Z
open Go Go.RowKit Go.Proofs.Sy Go.Proofs
set_option maxRecDepth 100000
theorem rightL_mem {k : Tree} : ∀ {l : List Tree}, rightL l = true → k ∈ l → right k = true
  | [], _, h => by simp at h
  | p :: l, hr, h => by
    simp only [rightL, Bool.and_eq_true] at hr
    rcases List.mem_cons.mp h with rfl | h
    · exact hr.1
    · exact rightL_mem hr.2 h
theorem cnt_mem {k : Tree} : ∀ {l : List Tree}, k ∈ l → cnt k ≤ cntL l
  | [], h => by simp at h
  | p :: l, h => by
    have h1 := cnt_pos p
    have h2 := cntL_pos l
    simp only [cntL]
    rcases List.mem_cons.mp h with rfl | h
    · omega
    · have := cnt_mem h; omega
theorem hgt_mem {k : Tree} : ∀ {l : List Tree}, k ∈ l → hgt k ≤ hgtL l
  | [], h => by simp at h
  | p :: l, h => by
    simp only [hgtL]
    rcases List.mem_cons.mp h with rfl | h
    · omega
    · have := hgt_mem h; omega
theorem okT_kid {t k : Tree} (h : okT t = true) (hk : k ∈ t.ks) : okT k = true := by
  obtain ⟨h1, h2, h3⟩ := (okT_eq t).mp h
  have g2 := cnt_eq t
  have g3 := hgt_eq t
  have m2 := cnt_mem hk
  have m3 := hgt_mem hk
  refine (okT_eq k).mpr ⟨rightL_mem (l := t.ks) ?_ hk, by omega, by omega⟩
  rw [right_eq] at h1
  simp only [Bool.and_eq_true] at h1
  exact h1.2
mutual
theorem vs_ok : ∀ p : Tree, vok p = true → ∀ x ∈ vs p, nameOK x = true
  | ⟨n, x, f, ks⟩, h, y, hy => by
    simp only [vok, vs] at h hy
    by_cases c : (f && decide (n = ⟨#[86, 97, 114]⟩)) = true
    · rw [if_pos c] at h hy; rw [List.mem_singleton.mp hy]; exact h
    · rw [if_neg c] at h hy; exact vsL_ok ks h y hy
theorem vsL_ok : ∀ l : List Tree, vokL l = true → ∀ x ∈ vsL l, nameOK x = true
  | [], h, y, hy => by simp [vsL] at hy
  | k :: l, h, y, hy => by
    simp only [vokL, Bool.and_eq_true, vsL, List.mem_append] at h hy
    rcases hy with hy | hy
    · exact vs_ok k h.1 y hy
    · exact vsL_ok l h.2 y hy
end
def MR (p t : Tree) : List gBind × Bool × Int := if (pok p && okT t) = true then (if (mt p t []).2 = true then ((mt p t []).1, true, 0) else ([], false, 0)) else ([], false, 1)
theorem mt_Wb {p t : Tree} {W : Nat} (ht : wt t ≤ W) : Wb W (mt p t []).1 := Wb_mt (fun b hb => by simp at hb) ht
theorem mt_len (p t : Tree) : (mt p t []).1.length ≤ wt p := by
  obtain ⟨l2, h1, h2⟩ := mt_grow p t []
  rw [h1]; simpa using h2
theorem mCopL (n : Nat) (g : List gBind × Bool) (l : List gBind) (hg : g.1.length = l.length) (W : Nat) (hW : W ≤ 1000000000) (hl : Wb W l) (hn : W + 1 ≤ n) (hlen : l.length ≤ 10000000000) : ∀ (r pre : List gBind) (k : Nat), l = pre ++ r → r.length < k → m_impl_Match_l5 n g k (pre.length : Int) l = some (l, true, 0)
  | [], pre, k, h, hk => by
    obtain ⟨k, rfl⟩ : ∃ m, k = m + 1 := ⟨k - 1, by simp at hk; omega⟩
    have hl : ¬ (pre.length : Int) < ((g.1.length : Nat) : Int) := by rw [hg, h]; simp
    rw [m_impl_Match_l5, decide_eq_false hl]; rfl
  | q :: r, pre, k, h, hk => by
    obtain ⟨k, rfl⟩ : ∃ m, k = m + 1 := ⟨k - 1, by simp at hk; omega⟩
    have h2 : l.length = pre.length + (r.length + 1) := by rw [h]; simp
    have p2 : (pre.length : Int) < ((g.1.length : Nat) : Int) := by omega
    have hq := hl q (by rw [h]; simp)
    have hs : l.set (pre.length : Int).toNat q = l := by rw [Int.toNat_natCast, h]; simp
    rw [m_impl_Match_l5, decide_eq_true p2]
    rw [show ix l (pre.length : Int) = some q by rw [h, ixp]]
    simp only [cond_true, Option.bind_some, mCopyI n q.tree_ (by omega) (by omega), wln pre q (by omega)]
    rw [show (gBind.mk q.name_ q.tree_) = q from rfl, hs]
    exact mCopL n g l hg W hW hl hn hlen r (pre ++ [q]) k (by rw [h]; simp) (by simp at hk; omega)
theorem mMatch_i {n : Nat} {p t : Tree} (hn : wt p + wt t + 5 ≤ n) (hp : wt p ≤ 1000000000) (ht : wt t ≤ 1000000000) : m_impl_Match n p t = some (MR p t) := by
  unfold m_impl_Match MR
  simp only [mPatI (n := n) (t := p) (by omega) (by omega), Option.bind_some, m_impl_TreeOK, gp_pos (show wt t ≤ 1099511627776 by omega)]
  cases pok p with
  | false => rfl
  | true =>
  cases okT t with
  | false => rfl
  | true =>
    have hw := mt_Wb (p := p) (t := t) (Nat.le_refl _)
    have hl := mt_len p t
    have hpp := wt_pos p
    simp only [Bool.not_true, cond_false, Bool.and_self, if_true, m_impl_Match_j2, mMatchI (wt t) ht n p t [] (by simp; omega) (by simp; omega) (Nat.le_refl _) (fun b hb => by simp at hb), Option.bind_some]
    cases c : (mt p t []).2 with
    | false => rfl
    | true =>
      simp only [Bool.not_true, cond_false, if_true]
      exact mCopL n (mt p t []) (mt p t []).1 rfl (wt t) ht hw (by omega) (by omega) (mt p t []).1 [] n rfl (show (mt p t []).1.length < n by omega)
theorem mCopLS (n : Nat) (g : List gBind × Bool) (W : Nat) (hW : W ≤ 1000000000) (hl : Wb W g.1) (hn : W + 1 ≤ n) (hlen : g.1.length ≤ 10000000000) : ∀ (r pre : List gBind) (k : Nat), g.1 = pre ++ r → r.length < k → m_spec_Match_l5 n g k (pre.length : Int) pre = some (g.1, true, 0)
  | [], pre, k, h, hk => by
    obtain ⟨k, rfl⟩ : ∃ m, k = m + 1 := ⟨k - 1, by simp at hk; omega⟩
    have hl : ¬ (pre.length : Int) < ((g.1.map gBind.enc).length : Int) := by rw [List.length_map, h]; simp
    rw [m_spec_Match_l5, decide_eq_false hl, h, List.append_nil]; rfl
  | q :: r, pre, k, h, hk => by
    obtain ⟨k, rfl⟩ : ∃ m, k = m + 1 := ⟨k - 1, by simp at hk; omega⟩
    have h2 : g.1.length = pre.length + (r.length + 1) := by rw [h]; simp
    have p2 : (pre.length : Int) < ((g.1.map gBind.enc).length : Int) := by rw [List.length_map]; omega
    have hq := hl q (by rw [h]; simp)
    rw [m_spec_Match_l5, decide_eq_true p2]
    rw [show ix g.1 (pre.length : Int) = some q by rw [h, ixp]]
    simp only [cond_true, Option.bind_some, mCopyS n q.tree_ (by omega) (by omega), wln pre q (by omega)]
    rw [show (gBind.mk q.name_ q.tree_) = q from rfl, gp_pos (show pre.length + ([q] : List gBind).length ≤ 68719476736 by simp; omega)]
    exact mCopLS n g W hW hl hn hlen r (pre ++ [q]) k (by rw [h]; simp) (by simp at hk; omega)
theorem mMatch_s {n : Nat} {p t : Tree} (hn : wt p + wt t + 5 ≤ n) (hp : wt p ≤ 1000000000) (ht : wt t ≤ 1000000000) : m_spec_Match n p t = some (MR p t) := by
  unfold m_spec_Match MR
  simp only [mPatS (n := n) (t := p) (by omega) (by omega), Option.bind_some, m_spec_TreeOK, gp_pos (show wt t ≤ 1099511627776 by omega)]
  cases pok p with
  | false => rfl
  | true =>
  cases okT t with
  | false => rfl
  | true =>
    have hw := mt_Wb (p := p) (t := t) (Nat.le_refl _)
    have hl := mt_len p t
    have hpp := wt_pos p
    simp only [Bool.not_true, cond_false, Bool.and_self, if_true, m_spec_Match_j2, mMatchS (wt t) ht n p t [] (by simp; omega) (by simp; omega) (Nat.le_refl _) (fun b hb => by simp at hb), Option.bind_some]
    cases c : (mt p t []).2 with
    | false => rfl
    | true =>
      simp only [Bool.not_true, cond_false, if_true]
      exact mCopLS n (mt p t []) (wt t) ht hw (by omega) (by omega) (mt p t []).1 [] n rfl (show (mt p t []).1.length < n by omega)
theorem tget_ne {x y : ByteArray} (v : Int) (h : x ≠ y) : ∀ l : List (ByteArray × Int), tget (tput l x v) y = tget l y
  | [] => by simp [tput, tget, h]
  | (k, u) :: l => by
    by_cases c : k = x
    · have : ¬ k = y := fun e => h (c.symm.trans e)
      simp [tput, tget, c, h]
    · by_cases d : k = y
      · simp [tput, tget, c, d]
        split <;> simp_all [tget]
      · simp [tput, tget, c, d, tget_ne v h l]
theorem mFillLoop (n : Nat) (p t : Tree) (l : List gBind) (res : Option (Tree × Int)) (hj : m_impl_Fill_j8 n p l = res) (W : Nat) (hW : W ≤ 1000000000) (hl : ∀ b ∈ l, wt b.tree_ ≤ W ∧ okT b.tree_ = true ∧ nameOK b.name_ = true) (hlen : l.length ≤ 10000000000) (hn : 100 ≤ n) :
    ∀ (r pre : List gBind) (k : Nat) (m : List (ByteArray × Int)), l = pre ++ r → r.length < k → r.Pairwise (fun a b => a.name_ ≠ b.name_) → (∀ b ∈ r, tget m b.name_ = none) → m_impl_Fill_l13 n p l k (pre.length : Int) m = res
  | [], pre, k, m, h, hk, hd, hm => by
    obtain ⟨k, rfl⟩ : ∃ m, k = m + 1 := ⟨k - 1, by simp at hk; omega⟩
    have hl : ¬ (pre.length : Int) < ((l.map gBind.enc).length : Int) := by rw [List.length_map, h]; simp
    rw [m_impl_Fill_l13, decide_eq_false hl]; exact hj
  | q :: r, pre, k, m, h, hk, hd, hm => by
    obtain ⟨k, rfl⟩ : ∃ m, k = m + 1 := ⟨k - 1, by simp at hk; omega⟩
    have h2 : l.length = pre.length + (r.length + 1) := by rw [h]; simp
    have p2 : (pre.length : Int) < ((l.map gBind.enc).length : Int) := by rw [List.length_map]; omega
    obtain ⟨q1, q2, q3⟩ := hl q (by rw [h]; simp)
    have q4 : q.name_.size ≤ 24 := by
      simp only [nameOK, Bool.and_eq_true, decide_eq_true_eq] at q3
      omega
    obtain ⟨d1, d2⟩ := List.pairwise_cons.mp hd
    rw [m_impl_Fill_l13, decide_eq_true p2]
    rw [show ix l (pre.length : Int) = some q by rw [h, ixp]]
    simp only [cond_true, Option.bind_some, mNameOK (s := q.name_) (n := n) (by omega) (by omega), q3, Bool.not_true, cond_false, m_impl_TreeOK, gp_pos (show wt q.tree_ ≤ 1099511627776 by omega), q2, hm q (by simp), optc, m_impl_Fill_j15, wln pre q (by omega)]
    rw [show decide ((0 : Int) > 0) = false from rfl]
    exact mFillLoop n p t l res hj W hW hl hlen hn r (pre ++ [q]) k (tput m q.name_ 1) (by rw [h]; simp) (by simp at hk; omega) d2 (fun b hb => by
      rw [tget_ne 1 (d1 b hb)]
      exact hm b (by simp [hb]))
theorem mFill_i {n : Nat} {p t : Tree} (hn : wt p + wt p + wt t + 100 ≤ n) (hp : wt p ≤ 1000000000) (ht : wt t ≤ 1000000000) (c : (pok p && okT t) = true) (h : (mt p t []).2 = true) : m_impl_Fill n p (mt p t []).1 = some (t, 0) := by
  simp only [Bool.and_eq_true] at c
  obtain ⟨hbi, _⟩ := mt_inv (T := fun t => okT t = true) (N := fun x => nameOK x = true) (fun t h k hk => okT_kid h hk) p t [] ⟨fun b hb => by simp at hb, List.Pairwise.nil⟩ c.2 (by
    have := c.1
    simp only [pok, Bool.and_eq_true] at this
    exact vs_ok p this.2)
  obtain ⟨f1, f2⟩ := mt_fill p t [] [] h
  rw [List.append_nil] at f1 f2
  have hl := mt_len p t
  have hw := mt_Wb (p := p) (t := t) (Nat.le_refl _)
  unfold m_impl_Fill
  simp only [mPatI (n := n) (t := p) (by omega) (by omega), Option.bind_some, c.1, Bool.not_true, cond_false]
  refine mFillLoop n p t (mt p t []).1 _ ?_ (wt t) ht (fun b hb => ⟨hw b hb, hbi.1 b hb⟩) (by omega) (by omega) (mt p t []).1 [] n [] rfl (show (mt p t []).1.length < n by omega) hbi.2 (fun b hb => rfl)
  unfold m_impl_Fill_j8
  simp only [mFillI _ (by omega) n p (by omega) (by omega) f2, f1, Option.bind_some, Bool.not_true, cond_false, m_impl_TreeOK, gp_pos (show wt t ≤ 1099511627776 by omega), c.2, mCopyI n t (by omega) (by omega)]
end Go.Proofs.Ytegpjjnedbbpjaa.Z
