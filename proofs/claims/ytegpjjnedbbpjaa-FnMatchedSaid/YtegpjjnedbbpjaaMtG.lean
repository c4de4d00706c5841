/- FnMatched: the draws, and the law. -/
import Derived.Test.YtegpjjnedbbpjaaMtF
set_option linter.unusedVariables false
set_option linter.unusedSimpArgs false
namespace Go.Proofs.Ytegpjjnedbbpjaa.Z
open Go Go.RowKit Go.Proofs.Sy Go.Proofs
set_option maxRecDepth 100000
theorem ix3 {l : List ByteArray} {b : Nat} (hl : ∀ x ∈ l, x.size ≤ b) {i : Int} (h0 : 0 ≤ i) (h1 : i < (l.length : Int)) : ∃ x, ix l i = some x ∧ x.size ≤ b := by
  have hi : i.toNat < l.length := by omega
  exact ⟨l[i.toNat], by unfold ix; rw [if_pos h0, List.getElem?_eq_getElem hi], hl _ (List.getElem_mem hi)⟩
theorem pick_lt {k : Int} (hk : 1 ≤ k) (c : Cu) : 0 ≤ (pickM k c).1 ∧ (pickM k c).1 < k := by
  have := pickM_rng k c
  omega
theorem wt_leaf (a b : ByteArray) : wt (Tree.mk a b true []) = 1 + a.size + b.size := by rw [wt_eq]; simp [wtL]
theorem wt_nd (a : ByteArray) (l : List Tree) : wt (Tree.mk a ⟨#[]⟩ false l) = 1 + a.size + wtL l := by rw [wt_eq]; have : (⟨#[]⟩ : ByteArray).size = 0 := rfl; simp only []; omega
theorem s3 {P : ByteArray → Prop} {a b c : ByteArray} (ha : P a) (hb : P b) (hc : P c) : ∀ x ∈ [a, b, c], P x := by
  intro x hx; simp only [List.mem_cons, List.not_mem_nil, or_false] at hx; rcases hx with rfl | rfl | rfl <;> assumption
theorem s2 {P : ByteArray → Prop} {a b : ByteArray} (ha : P a) (hb : P b) : ∀ x ∈ [a, b], P x := by
  intro x hx; simp only [List.mem_cons, List.not_mem_nil, or_false] at hx; rcases hx with rfl | rfl <;> assumption
/-- a drawn number or name -/
theorem num_tot (n : Nat) (c : Cu) : ∃ r, ((m_spec_l01Cur_pick n c 2).bind fun r274 =>
        (ix ([⟨#[78, 117, 109]⟩, ⟨#[73, 100]⟩]) r274.1).bind fun x291 =>
        (m_spec_l01Cur_pick n r274.2 3).bind fun r275 =>
        (ix ([⟨#[48]⟩, ⟨#[49]⟩, ⟨#[97]⟩]) r275.1).bind fun x292 =>
        (m_spec_l01Leaf n x291 x292).bind fun r276 =>
        some (r276, r275.2)) = some r ∧ wt r.1 ≤ 10 := by
  have h2 := pick_lt (k := 2) (by omega) c
  obtain ⟨x, ex, hx⟩ := ix3 (l := [⟨#[78, 117, 109]⟩, ⟨#[73, 100]⟩]) (b := 3) (s2 (by decide) (by decide)) h2.1 h2.2
  have h3 := pick_lt (k := 3) (by omega) (pickM 2 c).2
  obtain ⟨y, ey, hy⟩ := ix3 (l := [⟨#[48]⟩, ⟨#[49]⟩, ⟨#[97]⟩]) (b := 3) (s3 (by decide) (by decide) (by decide)) h3.1 h3.2
  refine ⟨_, by simp only [m_spec_l01Cur_pick, Option.bind_some, ex, ey, m_spec_l01Leaf]; rfl, ?_⟩
  rw [wt_leaf]; omega
theorem patL (d B : Nat) (self : Cu → Int → Option (Tree × Cu)) (n : Nat) (a50 : Int) (hs : ∀ c, ∃ r, self c (wr .i64 (a50 - 1)) = some r ∧ wt r.1 ≤ B) :
    ∀ (k : Nat) (i : Int) (c : Cu) (o : List Tree) , 0 ≤ i → i < k → i ≤ 3 → o.length + i ≤ 10 → wtL o + i * B ≤ 3 * B → ∃ r, m_spec_l11DrawPattern_l3 self n a50 k i c o = some r ∧ wt r.1 ≤ 10 + 3 * B
  | 0, i, c, o, h0, hk, h3, hl, hw => by omega
  | k + 1, i, c, o, h0, hk, h3, hl, hw => by
    rw [m_spec_l11DrawPattern_l3]
    by_cases g : i > 0
    · rw [decide_eq_true g, cond_true]
      obtain ⟨r, e, hr⟩ := hs c
      have hw1 : wr .i64 (i - 1) = i - 1 := w64 (by omega)
      have hm : i * (B : Int) = (i - 1) * B + B := by rw [Int.sub_mul]; omega
      simp only [e, Option.bind_some, gp_pos (show o.length + ([r.1] : List Tree).length ≤ 68719476736 by simp; omega), hw1]
      refine patL d B self n a50 hs k (i - 1) r.2 (o ++ [r.1]) (by omega) (by omega) (by omega) (by simp; omega) ?_
      rw [wtL_app]
      simp only [wtL]
      generalize (i - 1) * (B : Int) = z at hm ⊢
      omega
    · rw [decide_eq_false g, cond_false]
      have h3 := pick_lt (k := 3) (by omega) c
      obtain ⟨y, ey, hy⟩ := ix3 (l := [⟨#[65, 100, 100]⟩, ⟨#[77, 117, 108]⟩, ⟨#[78, 101, 103]⟩]) (b := 3) (s3 (by decide) (by decide) (by decide)) h3.1 h3.2
      refine ⟨_, by simp only [m_spec_l11DrawPattern_j2, m_spec_l01Cur_pick, Option.bind_some, ey, m_spec_l01Node]; rfl, ?_⟩
      have : i = 0 := by omega
      subst this
      rw [wt_nd]; omega
theorem pat_tot : ∀ (d n : Nat) (c : Cu), d + 10 ≤ n → d ≤ 4 → ∃ r, m_spec_l11DrawPattern n c (d : Int) = some r ∧ wt r.1 ≤ 20 * 4 ^ d
  | d, 0, c, hn, hd => by omega
  | d, n + 1, c, hn, hd => by
    unfold m_spec_l11DrawPattern
    have hp : 0 < 4 ^ d := Nat.pos_of_ne_zero (by simp)
    simp only [m_spec_l01Cur_pick, Option.bind_some]
    by_cases g : ((pickM 3 c).1 == 0) = true
    · rw [g, cond_true]
      have h3 := pick_lt (k := 3) (by omega) (pickM 3 c).2
      obtain ⟨y, ey, hy⟩ := ix3 (l := [⟨#[120]⟩, ⟨#[121]⟩, ⟨#[122]⟩]) (b := 1) (s3 (by decide) (by decide) (by decide)) h3.1 h3.2
      refine ⟨_, by simp only [ey, Option.bind_some, m_spec_l01Leaf]; rfl, ?_⟩
      rw [wt_leaf]
      have : (⟨#[86, 97, 114]⟩ : ByteArray).size = 3 := rfl
      omega
    · rw [Bool.eq_false_iff.mpr g, cond_false]
      match d with
      | 0 =>
        rw [decide_eq_true (show ((0 : Nat) : Int) ≤ 0 by omega), cond_true]
        obtain ⟨r, e, hr⟩ := num_tot n (pickM 3 c).2
        exact ⟨r, e, by omega⟩
      | d + 1 =>
        rw [decide_eq_false (show ¬ ((d + 1 : Nat) : Int) ≤ 0 by omega), cond_false]
        have h3 := pick_lt (k := 3) (by omega) (pickM 3 c).2
        have hw1 : wr .i64 (((d + 1 : Nat) : Int) - 1) = (d : Int) := (w64 (by omega)).trans (by omega)
        obtain ⟨r, e, hr⟩ := patL d (20 * 4 ^ d) (m_spec_l11DrawPattern n) n ((d + 1 : Nat) : Int) (fun c => by rw [hw1]; exact pat_tot d n c (by omega) (by omega)) n (pickM 3 (pickM 3 c).2).1 (pickM 3 (pickM 3 c).2).2 [] h3.1 (by omega) (by omega) (by simp; omega) (by
          have : (pickM 3 (pickM 3 c).2).1 * ((20 * 4 ^ d : Nat) : Int) ≤ 3 * ((20 * 4 ^ d : Nat) : Int) := Int.mul_le_mul_of_nonneg_right (by omega) (by omega)
          simpa [wtL] using this)
        have hq : 0 < 4 ^ d := Nat.pos_of_ne_zero (by simp)
        exact ⟨r, e, by rw [Nat.pow_succ]; omega⟩
theorem term_j (d n : Nat) (self : Cu → Int → Option (Tree × Cu)) (a : Int) (B : Nat) (hs : 0 < a → ∀ c, ∃ r, self c (wr .i64 (a - 1)) = some r ∧ wt r.1 ≤ B) (v : Bool) (hv : v = false → 0 < a) (c : Cu) : ∃ r, m_spec_l11DrawTerm_j2 self n a v c = some r ∧ wt r.1 ≤ 10 + 2 * B := by
  unfold m_spec_l11DrawTerm_j2
  cases v with
  | true =>
    obtain ⟨r, e, hr⟩ := num_tot n c
    exact ⟨r, e, by omega⟩
  | false =>
    have hs := hs (hv rfl)
    have h3 := pick_lt (k := 3) (by omega) c
    simp only [cond_false, m_spec_l01Cur_pick, Option.bind_some]
    obtain ⟨r1, e1, b1⟩ := hs (pickM 3 c).2
    by_cases g : ((pickM 3 c).1 == 2) = true
    · rw [g, cond_true]
      refine ⟨_, by simp only [e1, Option.bind_some, m_spec_l01Node]; rfl, ?_⟩
      rw [wt_nd]
      have : (⟨#[78, 101, 103]⟩ : ByteArray).size = 3 := rfl
      simp only [wtL]
      omega
    · rw [Bool.eq_false_iff.mpr g, cond_false]
      have : (pickM 3 c).1 ≠ 2 := fun e => g (by rw [e]; rfl)
      obtain ⟨y, ey, hy⟩ := ix3 (l := [⟨#[65, 100, 100]⟩, ⟨#[77, 117, 108]⟩]) (b := 3) (s2 (by decide) (by decide)) h3.1 (by simp; omega)
      obtain ⟨r2, e2, b2⟩ := hs r1.2
      refine ⟨_, by simp only [ey, e1, e2, Option.bind_some, m_spec_l01Node]; rfl, ?_⟩
      rw [wt_nd]
      simp only [wtL]
      omega
theorem term_tot : ∀ (d n : Nat) (c : Cu), d + 10 ≤ n → d ≤ 4 → ∃ r, m_spec_l11DrawTerm n c (d : Int) = some r ∧ wt r.1 ≤ 20 * 3 ^ d
  | d, 0, c, hn, hd => by omega
  | 0, n + 1, c, hn, hd => by
    unfold m_spec_l11DrawTerm
    rw [decide_eq_true (show ((0 : Nat) : Int) ≤ 0 by omega), cond_true]
    obtain ⟨r, e, hr⟩ := num_tot n c
    exact ⟨r, e, by omega⟩
  | d + 1, n + 1, c, hn, hd => by
    unfold m_spec_l11DrawTerm
    have hw1 : wr .i64 (((d + 1 : Nat) : Int) - 1) = (d : Int) := (w64 (by omega)).trans (by omega)
    rw [decide_eq_false (show ¬ ((d + 1 : Nat) : Int) ≤ 0 by omega), cond_false]
    simp only [m_spec_l01Cur_pick, Option.bind_some]
    obtain ⟨r, e, hr⟩ := term_j d n (m_spec_l11DrawTerm n) ((d + 1 : Nat) : Int) (20 * 3 ^ d) (fun _ c => by rw [hw1]; exact term_tot d n c (by omega) (by omega)) ((pickM 4 c).1 == 0) (fun _ => by omega) (pickM 4 c).2
    have hq : 0 < 3 ^ d := Nat.pos_of_ne_zero (by simp)
    exact ⟨r, e, by rw [Nat.pow_succ]; omega⟩
theorem spoilt_tot {n : Nat} (hn : 20 ≤ n) (c : Cu) : ∃ r, m_spec_l11DrawSpoiltPattern n c = some r ∧ wt r.1 ≤ 1000000 := by
  obtain ⟨r, e, hr⟩ := pat_tot 2 n c (by omega) (by omega)
  unfold m_spec_l11DrawSpoiltPattern
  have e' : m_spec_l11DrawPattern n c 2 = some r := e
  simp only [e', Option.bind_some, m_spec_l01Cur_pick, m_spec_l01DrawAny]
  by_cases g : ((pickM 12 r.2).1 == 0) = true
  · rw [g, cond_true]
    exact ⟨_, rfl, any_big _⟩
  · rw [Bool.eq_false_iff.mpr g, cond_false]
    by_cases g : ((pickM 12 r.2).1 == 1) = true
    · rw [g, cond_true]
      refine ⟨_, by simp only [m_spec_l01Leaf, m_spec_l01Node, Option.bind_some]; rfl, ?_⟩
      rw [wt_nd]
      simp only [wtL]
      rw [wt_leaf]
      have h1 : (⟨#[86, 97, 114]⟩ : ByteArray).size = 3 := rfl
      have h2 : (⟨#[65, 100, 100]⟩ : ByteArray).size = 3 := rfl
      have h3 : (⟨#[49]⟩ : ByteArray).size = 1 := rfl
      omega
    · rw [Bool.eq_false_iff.mpr g, cond_false]
      exact ⟨_, rfl, by simp only []; omega⟩
/-! ### the reference's Fill is total -/
theorem wt_leaf0 : wt (Tree.mk ⟨#[]⟩ ⟨#[]⟩ false []) = 1 := by rw [wt_nd]; rfl
mutual
theorem fl_wt (W : Nat) (l : List gBind) (hl : ∀ b ∈ l, wt b.tree_ ≤ W) : ∀ p : Tree, wt (fl p l) ≤ wt p * (W + 1)
  | ⟨n, x, f, ks⟩ => by
    have hw := wt_eq ⟨n, x, f, ks⟩
    simp only [] at hw
    have hp : 1 * (W + 1) ≤ wt ⟨n, x, f, ks⟩ * (W + 1) := Nat.mul_le_mul_right _ (by omega)
    simp only [fl]
    split
    · cases e : fd l x with
      | none => simp only [Option.getD_none, E0]; rw [wt_leaf0]; omega
      | some b =>
        obtain ⟨q, q1, q2, q3⟩ := fd_mem e
        have := hl q q1
        rw [q3] at this
        simp only [Option.getD_some]; omega
    · have := flL_wt W l hl ks
      rw [wt_eq, hw, Nat.add_mul]
      have h1 : (1 + n.size + x.size) * 1 ≤ (1 + n.size + x.size) * (W + 1) := Nat.mul_le_mul_left _ (by omega)
      simp only []
      omega
theorem flL_wt (W : Nat) (l : List gBind) (hl : ∀ b ∈ l, wt b.tree_ ≤ W) : ∀ p : List Tree, wtL (flL p l) ≤ wtL p * (W + 1)
  | [] => by simp [flL, wtL]
  | k :: ks => by
    have h1 := fl_wt W l hl k
    have h2 := flL_wt W l hl ks
    simp only [flL, wtL, Nat.add_mul]
    omega
end
theorem fill_j10 {n : Nat} {p : Tree} {l : List gBind} {W : Nat} (hW : W ≤ 60) (hp : wt p ≤ 1000000) (hl : ∀ b ∈ l, wt b.tree_ ≤ W) (hlen : l.length ≤ 10) (hn : 100000000 ≤ n) (hv : ∀ x ∈ vs p, fd l x ≠ none) : ∃ r, m_spec_Fill_j10 n p l = some r ∧ wt r.1 ≤ 100000000 := by
  have h1 := fl_wt W l hl p
  have h2 : wt p * (W + 1) ≤ 1000000 * 61 := Nat.mul_le_mul hp (by omega)
  unfold m_spec_Fill_j10
  simp only [mFillS l (by omega) n p (by omega) (by omega) hv, Option.bind_some, m_spec_TreeOK, gp_pos (show wt (fl p l) ≤ 1099511627776 by omega)]
  cases okT (fl p l) with
  | false => exact ⟨_, rfl, by simp only []; rw [wt_leaf0]; omega⟩
  | true =>
    simp only [Bool.not_true, cond_false, mCopyS n (fl p l) (by omega) (by omega), Option.bind_some]
    exact ⟨_, rfl, by simp only []; omega⟩
theorem fill_l11 {n : Nat} {p : Tree} {l : List gBind} {W : Nat} (hW : W ≤ 60) (hp : wt p ≤ 1000000) (hl : ∀ b ∈ l, wt b.tree_ ≤ W) (hlen : l.length ≤ 10) (hn : 100000000 ≤ n) (g : List ByteArray × Bool) (hg : g.1.length ≤ 10000000000) (hv : ∀ x ∈ vs p, x ∈ g.1) :
    ∀ (r pre : List ByteArray) (k : Nat), g.1 = pre ++ r → r.length < k → (∀ x ∈ pre, fd l x ≠ none) → ∃ r, m_spec_Fill_l11 n p l g k (pre.length : Int) = some r ∧ wt r.1 ≤ 100000000
  | [], pre, k, h, hk, hf => by
    obtain ⟨k, rfl⟩ : ∃ m, k = m + 1 := ⟨k - 1, by simp at hk; omega⟩
    have hl' : ¬ (pre.length : Int) < ((g.1.length : Nat) : Int) := by rw [h]; simp
    rw [m_spec_Fill_l11, decide_eq_false hl']
    exact fill_j10 hW hp hl hlen hn (fun x hx => hf x (by have := hv x hx; rw [h] at this; simpa using this))
  | q :: r, pre, k, h, hk, hf => by
    obtain ⟨k, rfl⟩ : ∃ m, k = m + 1 := ⟨k - 1, by simp at hk; omega⟩
    have h2 : g.1.length = pre.length + (r.length + 1) := by rw [h]; simp
    have p2 : (pre.length : Int) < ((g.1.length : Nat) : Int) := by omega
    obtain ⟨i, ei, hi⟩ := mFind (l := l) (x := q) (n := n) (by omega) (by omega)
    rw [m_spec_Fill_l11, decide_eq_true p2]
    rw [show ix g.1 (pre.length : Int) = some q by rw [h, ixp]]
    simp only [cond_true, Option.bind_some, ei, wln pre q (by omega)]
    by_cases c : i < 0
    · rw [decide_eq_true c]
      exact ⟨_, rfl, by simp only []; rw [wt_leaf0]; omega⟩
    · rw [decide_eq_false c, cond_false]
      refine fill_l11 hW hp hl hlen hn g hg hv r (pre ++ [q]) k (by rw [h]; simp) (by simp at hk; omega) fun x hx => ?_
      rcases List.mem_append.mp hx with hx | hx
      · exact hf x hx
      · rw [List.mem_singleton.mp hx]
        rcases hi with ⟨_, e⟩ | ⟨_, q', _, e⟩
        · omega
        · rw [e]; simp
theorem fill_l16 {n : Nat} {p : Tree} {l : List gBind} {W : Nat} (hW : W ≤ 60) (hp : wt p ≤ 1000000) (hpok : vok p = true) (hl : ∀ b ∈ l, wt b.tree_ ≤ W ∧ b.name_.size ≤ 100) (hlen : l.length ≤ 10) (hn : 100000000 ≤ n) :
    ∀ (r pre : List gBind) (k : Nat), l = pre ++ r → r.length < k → ∃ r, m_spec_Fill_l16 n p l k (pre.length : Int) = some r ∧ wt r.1 ≤ 100000000
  | [], pre, k, h, hk => by
    obtain ⟨k, rfl⟩ : ∃ m, k = m + 1 := ⟨k - 1, by simp at hk; omega⟩
    have hl' : ¬ (pre.length : Int) < ((l.map gBind.enc).length : Int) := by rw [List.length_map, h]; simp
    rw [m_spec_Fill_l16, decide_eq_false hl', cond_false, m_spec_Fill_j8]
    obtain ⟨l', e, x1, x2, x3⟩ := mVarsS n p [] (by simp; omega) (by simp; omega)
    simp only [e, Option.bind_some]
    have x1' : l'.length ≤ 1000000 := by simp at x1; omega
    exact fill_l11 hW hp (fun b hb => (hl b hb).1) hlen hn (l', vok p) (show l'.length ≤ _ by omega) (x3 hpok) l' [] n rfl (by omega) (fun x hx => by simp at hx)
  | q :: r, pre, k, h, hk => by
    obtain ⟨k, rfl⟩ : ∃ m, k = m + 1 := ⟨k - 1, by simp at hk; omega⟩
    have h2 : l.length = pre.length + (r.length + 1) := by rw [h]; simp
    have p2 : (pre.length : Int) < ((l.map gBind.enc).length : Int) := by rw [List.length_map]; omega
    have ei : ix l (pre.length : Int) = some q := by rw [h, ixp]
    obtain ⟨q1, q2⟩ := hl q (by rw [h]; simp)
    have go : ∀ v, ∃ r, m_spec_Fill_j18 (pre.length : Int) (m_spec_Fill_l16 n p l k) v = some r ∧ wt r.1 ≤ 100000000 := fun v => by
      unfold m_spec_Fill_j18
      cases v with
      | true => exact ⟨_, rfl, by simp only []; rw [wt_leaf0]; omega⟩
      | false =>
        rw [wln pre q (by omega)]
        exact fill_l16 hW hp hpok hl hlen hn r (pre ++ [q]) k (by rw [h]; simp) (by simp at hk; omega)
    obtain ⟨i, ej, _⟩ := mFind (l := l) (x := q.name_) (n := n) (by omega) (by omega)
    rw [m_spec_Fill_l16, decide_eq_true p2]
    simp only [ei, cond_true, Option.bind_some, mNameS (s := q.name_) (n := n) (by omega) (by omega), m_spec_TreeOK, gp_pos (show wt q.tree_ ≤ 1099511627776 by omega), ej]
    cases nameOK q.name_ with
    | false => exact go true
    | true =>
      cases okT q.tree_ with
      | false => exact go true
      | true => exact go _
theorem fill_tot {n : Nat} {p : Tree} {l : List gBind} {W : Nat} (hW : W ≤ 60) (hp : wt p ≤ 1000000) (hl : ∀ b ∈ l, wt b.tree_ ≤ W ∧ b.name_.size ≤ 100) (hlen : l.length ≤ 10) (hn : 100000000 ≤ n) : ∃ r, m_spec_Fill n p l = some r ∧ wt r.1 ≤ 100000000 := by
  unfold m_spec_Fill
  simp only [mPatS (n := n) (t := p) (by omega) (by omega), Option.bind_some]
  cases c : pok p with
  | false => exact ⟨_, rfl, by simp only []; rw [wt_leaf0]; omega⟩
  | true =>
    simp only [pok, Bool.and_eq_true] at c
    exact fill_l16 hW hp c.2 hl hlen hn l [] n rfl (by omega)
theorem draw_tot {n : Nat} (hn : 100000000 ≤ n) (code : List UInt8) (hc : code.length ≤ 1048576) : ∃ p t, m_spec_DrawMatch n code = some (p, t) ∧ wt p ≤ 1000000 ∧ wt t ≤ 100000000 := by
  unfold m_spec_DrawMatch
  have hc' : code.length ≤ 2147483648 := by omega
  simp only [m_spec_l01DrawCur, dif_pos hc', Option.bind_some]
  obtain ⟨r1, e1, b1⟩ := spoilt_tot (n := n) (by omega) (cu0 code hc')
  obtain ⟨r2, e2, b2⟩ := term_tot 3 n r1.2 (by omega) (by omega)
  have e2' : m_spec_l11DrawTerm n r1.2 3 = some r2 := e2
  have b2' : wt r2.1 ≤ 540 := b2
  have j1 : ∀ (c : Cu) (t : Tree), wt t ≤ 100000000 → ∃ p t', m_spec_DrawMatch_j1 n r1 c t = some (p, t') ∧ wt p ≤ 1000000 ∧ wt t' ≤ 100000000 := fun c t ht => by
    unfold m_spec_DrawMatch_j1
    simp only [m_spec_l01Cur_pick, Option.bind_some, m_spec_l01DrawAny, m_spec_DrawMatch_j2]
    have ha := any_big (pickM 16 c).2
    by_cases g : ((pickM 16 c).1 == 0) = true
    · rw [g]; exact ⟨_, _, rfl, b1, by omega⟩
    · rw [Bool.eq_false_iff.mpr g]; exact ⟨_, _, rfl, b1, ht⟩
  simp only [e1, e2', Option.bind_some, m_spec_l01Cur_pick]
  by_cases g : ((pickM 2 r2.2).1 == 0) = true
  · rw [g, cond_true]
    obtain ⟨x, ex, bx⟩ := term_tot 1 n (pickM 2 r2.2).2 (by omega) (by omega)
    obtain ⟨y, ey, by'⟩ := term_tot 1 n x.2 (by omega) (by omega)
    obtain ⟨z, ez, bz⟩ := term_tot 1 n y.2 (by omega) (by omega)
    have ex' : m_spec_l11DrawTerm n (pickM 2 r2.2).2 1 = some x := ex
    have ey' : m_spec_l11DrawTerm n x.2 1 = some y := ey
    have ez' : m_spec_l11DrawTerm n y.2 1 = some z := ez
    obtain ⟨w, ew, bw⟩ := fill_tot (n := n) (p := r1.1) (l := [(gBind.mk ⟨#[120]⟩ x.1), (gBind.mk ⟨#[121]⟩ y.1), (gBind.mk ⟨#[122]⟩ z.1)]) (W := 60) (by omega) b1 (fun b hb => by
      simp only [List.mem_cons, List.not_mem_nil, or_false] at hb
      rcases hb with rfl | rfl | rfl
      · exact ⟨bx, show (1 : Nat) ≤ 100 by decide⟩
      · exact ⟨by', show (1 : Nat) ≤ 100 by decide⟩
      · exact ⟨bz, show (1 : Nat) ≤ 100 by decide⟩) (by simp) hn
    simp only [ex', ey', ez', ew, Option.bind_some]
    cases (w.2 == 0) with
    | true => exact j1 _ _ bw
    | false => exact j1 _ _ (by omega)
  · rw [Bool.eq_false_iff.mpr g, cond_false]
    exact j1 _ _ (by omega)
/-! ### the law -/
theorem law_j1 {n : Nat} {p t : Tree} (hn : 500000000 ≤ n) (hp : wt p ≤ 1000000) (ht : wt t ≤ 100000000) (c : (pok p && okT t) = true) (mr : List gBind × Bool × Int) (hm : mr.2.1 = (mt p t []).2) : m_laws_FnMatched_j1 n (p, t) mr = some true := by
  unfold m_laws_FnMatched_j1
  simp only [mPl_s (n := n) (p := p) (t := t) (by omega) (by omega) (by omega) c, mPl_i (n := n) (p := p) (t := t) (by omega) (by omega) (by omega) c, Option.bind_some, bne_self_eq_false, cond_false]
  have hl := pl_len p t []
  have c' := c
  simp only [Bool.and_eq_true] at c'
  rw [mSameRows (by omega) (by omega) (fun q hq => by
    obtain ⟨r, s, e, h1, h2, h3, h4, h5⟩ := pl_at p t [] q hq
    rw [e]; simp only [List.nil_append]; omega)]
  simp only [Option.bind_some, Bool.not_true, cond_false]
  have := mLoop n (p, t) mr (pl p t [], 0) (show (pl p t []).length ≤ _ by omega) (fun q hq => by
    obtain ⟨r, s, e, h1, h2, h3, h4, h5⟩ := pl_at p t [] q hq
    rw [List.nil_append] at e
    subst e
    refine ⟨s, (mt p s []).1, mTreeAt (t := t) (by omega) (by omega) (by omega) (by omega) c'.2 h1, ?_⟩
    show m_impl_Match n p s = _
    rw [mMatch_i (n := n) (p := p) (t := s) (by omega) (by omega) (by omega)]
    simp only [MR, c'.1, h4 c'.2, Bool.and_self, if_true, h2]) (pl p t []) [] n 0 rfl (by omega) (by simp)
  refine Eq.trans this ?_
  rw [hm, Nat.zero_add, emp_pl]
  cases (mt p t []).2 <;> rfl
theorem matchedM {n : Nat} (hn : 500000000 ≤ n) (code : List UInt8) : m_laws_FnMatched n code = some true := by
  unfold m_laws_FnMatched m_laws_big
  simp only [Option.bind_some]
  by_cases g : ((bl code).length : Int) > 1048576
  · rw [decide_eq_true g]; rfl
  rw [decide_eq_false g, cond_false]
  have hc : code.length ≤ 1048576 := by simp at g; omega
  obtain ⟨p, t, e, hp, ht⟩ := draw_tot (n := n) (by omega) code hc
  simp only [e, Option.bind_some, mMatch_s (n := n) (p := p) (t := t) (by omega) (by omega) (by omega), mMatch_i (n := n) (p := p) (t := t) (by omega) (by omega) (by omega)]
  cases c : (pok p && okT t) with
  | false => simp [MR, c]
  | true =>
    cases d : (mt p t []).2 with
    | false =>
      have hm : MR p t = ([], false, 0) := by simp [MR, c, d]
      rw [hm]
      simp only [beq_self_eq_true, Bool.xor_true, Bool.not_true, cond_false, bne_self_eq_false]
      exact law_j1 hn hp ht c _ d.symm
    | true =>
      have hm : MR p t = ((mt p t []).1, true, 0) := by simp [MR, c, d]
      have c' := c
      simp only [Bool.and_eq_true] at c'
      rw [hm]
      simp only [beq_self_eq_true, Bool.xor_true, Bool.not_true, cond_false, bne_self_eq_false, cond_true, mFill_i (n := n) (p := p) (t := t) (by omega) (by omega) (by omega) c d, Option.bind_some, m_laws_sameTree, gp_pos (show wt t ≤ 1099511627776 by omega), (same_iff t t).mpr rfl]
      exact law_j1 hn hp ht c _ d.symm
theorem cMatchedLaw (code : List UInt8) : FnP Try.prog 4 [.lst (bl code)] [B true] := c_laws_FnMatched 500000000 code true (matchedM (Nat.le_refl _) code)
end Go.Proofs.Ytegpjjnedbbpjaa.Z
