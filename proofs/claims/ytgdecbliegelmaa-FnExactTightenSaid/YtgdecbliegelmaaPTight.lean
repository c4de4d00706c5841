/- Tightened programs, plainly: what may be come to, what is left out, and where the places go. -/
import Derived.Test.YtgdecbliegelmaaQ0
import Derived.Test.YtgdecbliegelmaaQimplTighten
import Derived.Test.YtgdecbliegelmaaQspecl17Tight
import Derived.Test.YtgdecbliegelmaaQspecl17Without
namespace Go.Proofs.Ytgdecbliegelmaa.Q
open Go.RowKit Go.Proofs.YtgdecbliegelmaaW.PrintWords
set_option linter.unusedVariables false
theorem tg_wrap {x : Int} (h0 : -9223372036854775808 ≤ x) (h1 : x ≤ 9223372036854775807) : wrap64 x = x := by
  unfold wrap64
  omega
theorem Ev.pos {α : Type} {c : Prop} [Decidable c] {f g : Nat → Option α} {r : α} (hc : c) (h : Ev f r) : Ev (fun n => if c then f n else g n) r := by
  simpa only [if_pos hc] using h
theorem Ev.neg {α : Type} {c : Prop} [Decidable c] {f g : Nat → Option α} {r : α} (hc : ¬ c) (h : Ev g r) : Ev (fun n => if c then f n else g n) r := by
  simpa only [if_neg hc] using h
/-- It has a place to go to. -/
def jmp (x : S88) : Bool := decide (5 ≤ x.f0 ∧ x.f0 ≤ 8)
/-- The one behind it may come. -/
def gs (x : S88) : Bool := decide (x.f0 ≠ 5 ∧ x.f0 ≠ 9 ∧ x.f0 ≠ 10)
theorem rd88 (l : List S88) (i : Nat) (h : i < l.length) : rd_T88 l (i : Int) = l[i] := by
  simp [rd_T88, List.getD_eq_getElem?_getD, List.getElem?_eq_getElem h]
/-! What is kept -/
def cmp {α : Type} : List Bool → List α → List α
  | b :: s, a :: l => if b = true then a :: cmp s l else cmp s l
  | _, _ => []
def cnt (K : List Bool) (t : Nat) : Nat := (K.take t).count true
theorem cmp_map {α β : Type} (f : α → β) : ∀ (K : List Bool) (l : List α), cmp K (l.map f) = (cmp K l).map f
  | [], _ => by simp [cmp]
  | _ :: _, [] => by simp [cmp]
  | b :: K, a :: l => by
    simp only [List.map_cons, cmp]
    split
    · rw [List.map_cons, cmp_map f K l]
    · exact cmp_map f K l
/-- Nothing is in F that is not in S. -/
def leB : List Bool → List Bool → Prop
  | a :: F, b :: S => (a = true → b = true) ∧ leB F S
  | [], [] => True
  | _, _ => False
theorem cmp_cmp {α : Type} : ∀ (F S : List Bool) (l : List α), leB F S → cmp (cmp S F) (cmp S l) = cmp F l
  | [], [], l, _ => by simp [cmp]
  | a :: F, b :: S, [], h => by
    have e : ∀ K : List Bool, cmp K ([] : List α) = [] := fun K => by cases K <;> rfl
    rw [e, e, e]
  | a :: F, b :: S, x :: l, h => by
    obtain ⟨h1, h2⟩ := h
    have ih := cmp_cmp F S l h2
    cases b with
    | false =>
      have ha : a = false := by cases a <;> simp_all
      subst ha
      simp only [cmp, Bool.false_eq_true, if_false]
      exact ih
    | true =>
      simp only [cmp, if_true]
      split
      · rw [ih]
      · exact ih
theorem cnt_zero (K : List Bool) : cnt K 0 = 0 := rfl
theorem cnt_succ (K : List Bool) (t : Nat) (h : t < K.length) : cnt K (t + 1) = cnt K t + (if K[t] = true then 1 else 0) := by
  unfold cnt
  rw [List.take_add_one, List.getElem?_eq_getElem h, List.count_append]
  cases K[t] <;> simp
theorem cnt_le (K : List Bool) (s t : Nat) (h : s ≤ t) : cnt K s ≤ cnt K t := by
  unfold cnt
  have : K.take s = (K.take t).take s := by rw [List.take_take, Nat.min_eq_left h]
  rw [this]
  exact List.Sublist.count_le _ (List.take_sublist _ _)
theorem cnt_lt (K : List Bool) (s t : Nat) (h : s < t) (hs : s < K.length) (hk : K[s] = true) : cnt K s < cnt K t := by
  have h1 := cnt_succ K s hs
  rw [hk] at h1
  have h2 := cnt_le K (s + 1) t h
  simp at h1
  omega
theorem cnt_bound (K : List Bool) (t : Nat) : cnt K t ≤ K.length := by
  unfold cnt
  have h1 := List.count_le_length (a := true) (l := K.take t)
  have h2 := List.length_take (l := K) (i := t)
  omega
theorem cmp_length {α : Type} : ∀ (K : List Bool) (l : List α), K.length = l.length → (cmp K l).length = cnt K K.length
  | [], [], _ => rfl
  | b :: K, a :: l, h => by
    have ih := cmp_length K l (by simpa using h)
    unfold cnt at ih ⊢
    rw [List.take_length] at ih ⊢
    cases b <;> simp [cmp, ih]
theorem cnt_cmp : ∀ (F S : List Bool) (t : Nat), leB F S → cnt (cmp S F) (cnt S t) = cnt F t
  | [], [], t, _ => by simp [cnt, cmp]
  | a :: F, b :: S, 0, h => by simp [cnt]
  | a :: F, b :: S, t + 1, h => by
    obtain ⟨h1, h2⟩ := h
    have ih := cnt_cmp F S t h2
    unfold cnt at ih ⊢
    cases b with
    | false =>
      have ha : a = false := by cases a <;> simp_all
      subst ha
      simpa [cmp] using ih
    | true =>
      cases a <;> simpa [cmp] using ih
/-- With places moved to what is kept. -/
def rn (K : List Bool) (x : S88) : S88 := if jmp x = true then ⟨x.f0, x.f1, (cnt K x.f2.toNat : Int)⟩ else x
theorem rn_f0 (K : List Bool) (x : S88) : (rn K x).f0 = x.f0 := by unfold rn; split <;> rfl
theorem rn_jmp (K : List Bool) (x : S88) : jmp (rn K x) = jmp x := by unfold jmp; rw [rn_f0]
theorem rn_rn (F S : List Bool) (h : leB F S) (x : S88) : rn (cmp S F) (rn S x) = rn F x := by
  cases hj : jmp x with
  | false =>
    have h1 : rn S x = x := by unfold rn; rw [hj]; rfl
    have h2 : rn F x = x := by unfold rn; rw [hj]; rfl
    rw [h1, h2]; unfold rn; rw [hj]; rfl
  | true =>
    have h1 : rn S x = ⟨x.f0, x.f1, (cnt S x.f2.toNat : Int)⟩ := by unfold rn; rw [hj]; rfl
    have h2 : rn F x = ⟨x.f0, x.f1, (cnt F x.f2.toNat : Int)⟩ := by unfold rn; rw [hj]; rfl
    have h3 := rn_jmp S x
    rw [h1] at h3 ⊢
    rw [h2]
    unfold rn
    rw [h3, hj]
    simp only [if_true, Int.toNat_natCast]
    rw [cnt_cmp F S _ h]
/-- Kept twice is kept once. -/
theorem keep_keep (F S : List Bool) (h : leB F S) (q : List S88) : cmp (cmp S F) ((cmp S (q.map (rn S))).map (rn (cmp S F))) = cmp F (q.map (rn F)) := by
  rw [← cmp_map, List.map_map, cmp_cmp F S _ h]
  congr 1
  apply List.map_congr_left
  intro x hx
  exact rn_rn F S h x
theorem cmp_get (S : List Bool) : ∀ (l : List S88) (i : Nat), S.length = l.length → (hi : i < S.length) → S[i] = true → (cmp S l)[cnt S i]? = l[i]? := by
  induction S with
  | nil => intro l i h hi; simp at hi
  | cons b S ih =>
    intro l i h hi hk
    cases l with
    | nil => simp at h
    | cons x l =>
      cases i with
      | zero =>
        simp only [List.getElem_cons_zero] at hk
        subst hk
        simp [cmp, cnt]
      | succ i =>
        have := ih l i (by simpa using h) (by simpa using hi) (by simpa using hk)
        unfold cnt at this ⊢
        cases b <;> simpa [cmp] using this
/-! What is left out in the end, from behind -/
def fin : Nat → List S88 → List Bool → List Bool × Nat
  | i, x :: l, b :: s =>
    let r := fin (i + 1) l s
    let c := b && !(jmp x && decide (x.f2 > (i : Int)) && decide (x.f2 ≤ (r.2 : Int)))
    (c :: r.1, if c = true then i else r.2)
  | i, _, _ => ([], i)
theorem fin_le : ∀ (l : List S88) (s : List Bool) (i : Nat), l.length = s.length → leB (fin i l s).1 s
  | [], [], i, _ => by simp [fin, leB]
  | x :: l, b :: s, i, h => by
    have ih := fin_le l s (i + 1) (by simpa using h)
    simp only [fin, leB]
    refine ⟨fun hc => ?_, ih⟩
    rw [Bool.and_eq_true] at hc
    exact hc.1
theorem fin_len : ∀ (l : List S88) (s : List Bool) (i : Nat), l.length = s.length → (fin i l s).1.length = s.length
  | [], [], i, _ => by simp [fin]
  | x :: l, b :: s, i, h => by
    have ih := fin_len l s (i + 1) (by simpa using h)
    simp only [fin, List.length_cons, ih]
theorem fin_next : ∀ (l : List S88) (s : List Bool) (i : Nat), l.length = s.length → i ≤ (fin i l s).2 ∧ (fin i l s).2 ≤ i + s.length ∧ ((fin i l s).2 < i + s.length → ∃ h : (fin i l s).2 - i < s.length, s[(fin i l s).2 - i] = true)
  | [], [], i, _ => by simp [fin]
  | x :: l, b :: s, i, h => by
    obtain ⟨h1, h2, h3⟩ := fin_next l s (i + 1) (by simpa using h)
    have hc := (fin_le (x :: l) (b :: s) i h)
    simp only [fin, leB] at hc ⊢
    split
    · rename_i hk
      have := hc.1 hk
      subst this
      refine ⟨by omega, by simp, fun _ => ⟨by simp, by simp⟩⟩
    · refine ⟨by omega, by simp only [List.length_cons]; omega, fun hlt => ?_⟩
      simp only [List.length_cons] at hlt
      obtain ⟨h4, h5⟩ := h3 (by omega)
      refine ⟨by simp only [List.length_cons]; omega, ?_⟩
      have e : (fin (i + 1) l s).2 - i = ((fin (i + 1) l s).2 - (i + 1)) + 1 := by omega
      simp only [e, List.getElem_cons_succ]
      exact h5
theorem fin_at (q : List S88) (S : List Bool) (i : Nat) (hq : i < q.length) (hS : i < S.length) :
    fin i (q.drop i) (S.drop i) = ((S[i] && !(jmp q[i] && decide (q[i].f2 > (i : Int)) && decide (q[i].f2 ≤ ((fin (i + 1) (q.drop (i + 1)) (S.drop (i + 1))).2 : Int)))) :: (fin (i + 1) (q.drop (i + 1)) (S.drop (i + 1))).1,
      if (S[i] && !(jmp q[i] && decide (q[i].f2 > (i : Int)) && decide (q[i].f2 ≤ ((fin (i + 1) (q.drop (i + 1)) (S.drop (i + 1))).2 : Int)))) = true then i else (fin (i + 1) (q.drop (i + 1)) (S.drop (i + 1))).2) := by
  rw [List.drop_eq_getElem_cons hq, List.drop_eq_getElem_cons hS]
  rfl
def ld (p : List S88) (z : Int) : Nat → Int → Int
  | 0, _ => z
  | m + 1, a => if (rd_T88 p a).f0 = 5 then ld p z m (rd_T88 p a).f2 else a
def orb (p : List S88) : Nat → Int → Int
  | 0, a => a
  | m + 1, a => orb p m (rd_T88 p a).f2
def Inp (p : List S88) (a : Int) : Prop := 0 ≤ a ∧ a < p.length
def OkL (p : List S88) : Prop := ∀ x ∈ p, jmp x = true → 0 ≤ x.f2 ∧ x.f2 < p.length
theorem rd_mem (p : List S88) (a : Int) (h : Inp p a) : rd_T88 p a ∈ p := by
  obtain ⟨h0, h1⟩ := h
  obtain ⟨n, rfl⟩ := Int.eq_ofNat_of_zero_le h0
  rw [rd88 p n (by omega)]
  exact List.getElem_mem _
theorem jmp5 (x : S88) (h : x.f0 = 5) : jmp x = true := by simp [jmp, h]
theorem ok_in (p : List S88) (hp : OkL p) (a : Int) (h : Inp p a) (h5 : (rd_T88 p a).f0 = 5) : Inp p (rd_T88 p a).f2 := hp _ (rd_mem p a h) (jmp5 _ h5)
theorem ld_all (p : List S88) (z : Int) : ∀ m a, (∀ j, j < m → (rd_T88 p (orb p j a)).f0 = 5) → ld p z m a = z
  | 0, _, _ => rfl
  | m + 1, a, h => by
    have h0 : (rd_T88 p a).f0 = 5 := h 0 (by omega)
    rw [ld, if_pos h0]
    exact ld_all p z m _ (fun j hj => h (j + 1) (by omega))
theorem ld_some (p : List S88) (z : Int) : ∀ m a, (∃ j, j < m ∧ ¬ (rd_T88 p (orb p j a)).f0 = 5) → ld p z m a = ld p z (m + 1) a
  | 0, _, h => by obtain ⟨j, hj, _⟩ := h; omega
  | m + 1, a, h => by
    obtain ⟨j, hj, h⟩ := h
    rw [ld, ld.eq_def p z (m + 1 + 1)]
    simp only
    by_cases h0 : (rd_T88 p a).f0 = 5
    · rw [if_pos h0, if_pos h0]
      cases j with
      | zero => exact absurd h0 h
      | succ j => exact ld_some p z m _ ⟨j, by omega, h⟩
    · rw [if_neg h0, if_neg h0]
theorem orb_add (p : List S88) : ∀ m n a, orb p (m + n) a = orb p n (orb p m a)
  | 0, n, a => by rw [Nat.zero_add]; rfl
  | m + 1, n, a => by
    rw [show m + 1 + n = (m + n) + 1 by omega]
    exact orb_add p m n _
theorem orb_in (p : List S88) (hp : OkL p) : ∀ m a, Inp p a → (∀ j, j < m → (rd_T88 p (orb p j a)).f0 = 5) → Inp p (orb p m a)
  | 0, a, h, _ => h
  | m + 1, a, h, hj => orb_in p hp m _ (ok_in p hp a h (hj 0 (by omega))) (fun j h' => hj (j + 1) (by omega))
theorem ld_eq (p : List S88) (hp : OkL p) (z a : Int) (ha : Inp p a) : ld p z (p.length + 1) a = ld p z (p.length + 2) a := by
  by_cases h : ∃ j, j < p.length + 1 ∧ ¬ (rd_T88 p (orb p j a)).f0 = 5
  · exact ld_some p z _ a h
  have all : ∀ j, j < p.length + 1 → (rd_T88 p (orb p j a)).f0 = 5 := fun j hj => Classical.byContradiction fun hc => h ⟨j, hj, hc⟩
  have hin : ∀ j, j ≤ p.length → Inp p (orb p j a) := fun j hj => orb_in p hp j a ha (fun i hi => all i (by omega))
  have pig : ∃ i j, i < j ∧ j ≤ p.length ∧ orb p i a = orb p j a := by
    apply Classical.byContradiction
    intro hc
    have hnd : ((List.range (p.length + 1)).map fun j => (orb p j a).toNat).Nodup := by
      unfold List.Nodup
      rw [List.pairwise_map]
      refine List.Pairwise.imp_of_mem ?_ List.pairwise_lt_range
      intro i j hi hj hij he
      rw [List.mem_range] at hi hj
      obtain ⟨i0, i1⟩ := hin i (by omega)
      obtain ⟨j0, j1⟩ := hin j (by omega)
      exact hc ⟨i, j, hij, by omega, by omega⟩
    have hsub : ((List.range (p.length + 1)).map fun j => (orb p j a).toNat) ⊆ List.range p.length := by
      intro x hx
      obtain ⟨j, hj, rfl⟩ := List.mem_map.1 hx
      rw [List.mem_range] at hj ⊢
      obtain ⟨j0, j1⟩ := hin j (by omega)
      omega
    have := List.Nodup.length_le_of_subset hnd hsub
    simp at this
    omega
  obtain ⟨i, j, hij, hj, he⟩ := pig
  have hlast : (rd_T88 p (orb p (p.length + 1) a)).f0 = 5 := by
    have e1 : orb p (p.length + 1) a = orb p (p.length + 1 - j) (orb p j a) := by
      rw [← orb_add, show j + (p.length + 1 - j) = p.length + 1 by omega]
    rw [e1, ← he, ← orb_add]
    exact all _ (by omega)
  rw [ld_all p z _ a all, ld_all p z (p.length + 2) a]
  intro j hj
  by_cases h' : j < p.length + 1
  · exact all j h'
  · rw [show j = p.length + 1 by omega]
    exact hlast
theorem ld_in (p : List S88) (hp : OkL p) (z : Int) (hz : Inp p z) : ∀ m a, Inp p a → Inp p (ld p z m a)
  | 0, a, _ => hz
  | m + 1, a, h => by
    rw [ld]
    split
    · rename_i h5
      exact ld_in p hp z hz m _ (ok_in p hp a h h5)
    · exact h
theorem leads_s (p : List S88) (hp : OkL p) (hn : p.length ≤ 50000) (z : Int) : ∀ (d : Nat) (x a : Int), x + d = (p.length : Int) + 1 → 0 ≤ x → Inp p a → Ev (fun k => spec_l17Leads.l0 k p z a x) (ld p z d a) := by
  intro d
  induction d with
  | zero =>
    intro x a hx h0 ha
    refine Ev.step (fun k => by rw [spec_l17Leads.l0]) ?_
    refine Ev.neg (by omega) ?_
    exact Ev.now _
  | succ d ih =>
    intro x a hx h0 ha
    refine Ev.step (fun k => by rw [spec_l17Leads.l0]) ?_
    refine Ev.pos (by omega) ?_
    refine Ev.pos ha.1 ?_
    refine Ev.pos ha.2 ?_
    rw [ld]
    by_cases h5 : (rd_T88 p a).f0 = 5
    · rw [if_pos h5]
      refine Ev.pos h5 ?_
      rw [tg_wrap (x := x + 1) (by omega) (by omega)]
      exact ih (x + 1) _ (by omega) (by omega) (ok_in p hp a ha h5)
    · rw [if_neg h5]
      exact Ev.neg h5 (Ev.now _)
theorem land_i (p : List S88) (hp : OkL p) (hn : p.length ≤ 50000) (z : Int) : ∀ (d : Nat) (x a : Int), x + d + 1 = (p.length : Int) + 2 → 0 ≤ x → Inp p a → Ev (fun k => impl_landing.l0 k p z a x) (ld p z (d + 1) a) := by
  intro d
  induction d with
  | zero =>
    intro x a hx h0 ha
    refine Ev.step (fun k => by rw [impl_landing.l0]) ?_
    refine Ev.pos ha.1 ?_
    refine Ev.pos ha.2 ?_
    rw [ld]
    by_cases h5 : (rd_T88 p a).f0 = 5
    · rw [if_pos h5]
      refine Ev.pos h5 ?_
      refine Ev.pos (by omega) ?_
      exact Ev.now _
    · rw [if_neg h5]
      exact Ev.neg h5 (Ev.now _)
  | succ d ih =>
    intro x a hx h0 ha
    refine Ev.step (fun k => by rw [impl_landing.l0]) ?_
    refine Ev.pos ha.1 ?_
    refine Ev.pos ha.2 ?_
    rw [ld]
    by_cases h5 : (rd_T88 p a).f0 = 5
    · rw [if_pos h5]
      refine Ev.pos h5 ?_
      refine Ev.neg (by omega) ?_
      rw [tg_wrap (x := x + 1) (by omega) (by omega)]
      exact ih (x + 1) _ (by omega) (by omega) (ok_in p hp a ha h5)
    · rw [if_neg h5]
      exact Ev.neg h5 (Ev.now _)
def Lp (p : List S88) (z : Int) : Int := ld p z (p.length + 1) z
theorem leads_f (p : List S88) (hp : OkL p) (hn : p.length ≤ 50000) (z : Int) (hz : Inp p z) : Ev (fun k => spec_l17Leads.f k p z) (Lp p z) := by
  unfold spec_l17Leads.f
  exact leads_s p hp hn z (p.length + 1) 0 z (by omega) (by omega) hz
theorem land_f (p : List S88) (hp : OkL p) (hn : p.length ≤ 50000) (z : Int) (hz : Inp p z) : Ev (fun k => impl_landing.f k p z) (Lp p z) := by
  unfold impl_landing.f Lp
  rw [ld_eq p hp z z hz]
  exact land_i p hp hn z (p.length + 1) 0 z (by omega) (by omega) hz
def upd (p : List S88) (x : S88) : S88 := if jmp x = true then ⟨x.f0, x.f1, Lp p x.f2⟩ else x
theorem upd_f0 (p : List S88) (x : S88) : (upd p x).f0 = x.f0 := by unfold upd; split <;> rfl
theorem upd_ok (p : List S88) (hp : OkL p) : OkL (p.map (upd p)) := by
  intro x hx hj
  obtain ⟨y, hy, rfl⟩ := List.mem_map.1 hx
  rw [List.length_map]
  have hj' : jmp y = true := by unfold jmp at hj ⊢; rwa [upd_f0] at hj
  have := ld_in p hp y.f2 (hp y hy hj') (p.length + 1) y.f2 (hp y hy hj')
  unfold upd
  rw [if_pos hj']
  exact this
theorem jumps_i (x : S88) : impl_jumps.f x.f0 = some (jmp x) := by
  unfold impl_jumps.f impl_ifs.f jmp
  by_cases h5 : x.f0 = 5
  · simp [h5]
  by_cases h6 : x.f0 = 6
  · simp [h6]
  by_cases h7 : x.f0 = 7
  · simp [h7]
  by_cases h8 : x.f0 = 8
  · simp [h8]
  · rw [if_neg h5, if_neg h6, if_neg h7, show (x.f0 == 8) = false by simpa using h8, decide_eq_false (by omega)]
    rfl
theorem hasto_s (x : S88) : spec_l17HasTo.f x.f0 = some (jmp x) := by
  unfold spec_l17HasTo.f spec_l01Between.f jmp
  by_cases h5 : x.f0 ≥ 5
  · simp [h5]
  · simp [h5]
theorem goes_s (x : S88) : spec_l17Goes.f x.f0 = some (gs x) := by
  unfold spec_l17Goes.f gs
  by_cases h5 : x.f0 = 5
  · simp [h5]
  by_cases h9 : x.f0 = 9
  · simp [h9]
  by_cases h10 : x.f0 = 10
  · simp [h10]
  · simp [h5, h9, h10]
theorem tk_set {α : Type} (A B : List α) (i : Nat) (hA : i < A.length) (hB : i < B.length) : (A.take i ++ B.drop i).set i A[i] = A.take (i + 1) ++ B.drop (i + 1) := by
  rw [List.drop_eq_getElem_cons hB, List.set_append_right _ _ (by rw [List.length_take]; omega), List.length_take, Nat.min_eq_left (by omega), Nat.sub_self, List.set_cons_zero]
  rw [List.take_add_one (l := A), List.getElem?_eq_getElem hA, List.append_assoc]
  rfl
theorem tk_same {α : Type} (A B : List α) (i : Nat) (hA : i < A.length) (hB : i < B.length) (h : A[i] = B[i]) : A.take i ++ B.drop i = A.take (i + 1) ++ B.drop (i + 1) := by
  rw [List.drop_eq_getElem_cons hB, List.take_add_one, List.getElem?_eq_getElem hA, h]
  simp
theorem tk_len {α : Type} (A B : List α) (i : Nat) (hA : i ≤ A.length) (h : A.length = B.length) : (A.take i ++ B.drop i).length = A.length := by
  rw [List.length_append, List.length_take, List.length_drop]
  omega
theorem tk_rd (A B : List S88) (i : Nat) (hA : i < A.length) (h : A.length = B.length) : rd_T88 (A.take i ++ B.drop i) (i : Int) = B[i] := by
  rw [rd88 _ i (by rw [tk_len A B i (by omega) h]; exact hA), List.getElem_append_right (by rw [List.length_take]; omega)]
  simp only [List.length_take, List.getElem_drop]
  congr 1
  omega
theorem upd_i (p : List S88) (hp : OkL p) (hn : p.length ≤ 50000) (r : (List S88) × Int) (h : Ev (fun k => impl_Tighten.l1 k (p.map (upd p)) (List.replicate p.length false) [0]) r) :
    ∀ d i : Nat, i + d = p.length → Ev (fun k => impl_Tighten.l0 k p ((p.map (upd p)).take i ++ p.drop i) (p.length : Int) (i : Int)) r := by
  intro d
  induction d with
  | zero =>
    intro i hi
    have e : (p.map (upd p)).take i ++ p.drop i = p.map (upd p) := by
      rw [List.take_of_length_le (by simp; omega), List.drop_eq_nil_of_le (by omega), List.append_nil]
    rw [e]
    refine Ev.step (fun k => by rw [impl_Tighten.l0]) ?_
    refine Ev.neg (by omega) ?_
    simp only [List.length_map]
    refine Ev.pos (by omega) ?_
    refine Ev.pos (by omega) ?_
    rw [show ((p.length : Int)).toNat = p.length by omega]
    exact h
  | succ d ih =>
    intro i hi
    have hlt : i < p.length := by omega
    have hlm : i < (p.map (upd p)).length := by simpa using hlt
    have hl := tk_len (p.map (upd p)) p i (by omega) (by simp)
    have hr := tk_rd (p.map (upd p)) p i hlm (by simp)
    rw [List.length_map] at hl
    refine Ev.step (fun k => by rw [impl_Tighten.l0]) ?_
    refine Ev.pos (by omega) ?_
    refine Ev.pos (by omega) ?_
    refine Ev.pos (by rw [hl]; omega) ?_
    rw [hr, jumps_i]
    simp only [Option.bind_some]
    rw [tg_wrap (x := (i : Int) + 1) (by omega) (by omega)]
    have hg : (p.map (upd p))[i] = upd p p[i] := List.getElem_map _
    cases hj : jmp p[i] with
    | true =>
      refine Ev.pos rfl ?_
      refine Ev.bind (land_f p hp hn p[i].f2 (hp _ (List.getElem_mem hlt) hj)) ?_
      have e := tk_set (p.map (upd p)) p i hlm hlt
      rw [hg, upd, if_pos hj] at e
      rw [show ((i : Int)).toNat = i by omega, e]
      exact ih (i + 1) (by omega)
    | false =>
      refine Ev.neg (by simp) ?_
      have e := tk_same (p.map (upd p)) p i hlm hlt (by rw [hg, upd, hj]; rfl)
      rw [e]
      exact ih (i + 1) (by omega)
theorem one_s (q : List S88) (hn : q.length ≤ 50000) (r : List S88) (h : Ev (fun k => spec_l17Tight.l2 k q (List.replicate q.length true) [0]) r) :
    ∀ d i : Nat, i + d = q.length → Ev (fun k => spec_l17Tight.l1 k q (List.replicate i true) (i : Int)) r := by
  intro d
  induction d with
  | zero =>
    intro i hi
    refine Ev.step (fun k => by rw [spec_l17Tight.l1]) ?_
    refine Ev.neg (by omega) ?_
    rw [show i = q.length by omega]
    exact h
  | succ d ih =>
    intro i hi
    refine Ev.step (fun k => by rw [spec_l17Tight.l1]) ?_
    refine Ev.pos (by omega) ?_
    refine Ev.pos (by rw [List.length_replicate]; omega) ?_
    rw [tg_wrap (x := (i : Int) + 1) (by omega) (by omega)]
    have e : List.replicate i true ++ [true] = List.replicate (i + 1) true := by rw [List.replicate_succ']
    rw [e]
    exact ih (i + 1) (by omega)
theorem upd_s (p : List S88) (hp : OkL p) (hn : p.length ≤ 50000) (r : List S88) (h : Ev (fun k => spec_l17Tight.l2 k (p.map (upd p)) (List.replicate p.length true) [0]) r) :
    ∀ d i : Nat, i + d = p.length → Ev (fun k => spec_l17Tight.l0 k p ((p.map (upd p)).take i) (i : Int)) r := by
  intro d
  induction d with
  | zero =>
    intro i hi
    rw [List.take_of_length_le (by simp; omega)]
    refine Ev.step (fun k => by rw [spec_l17Tight.l0]) ?_
    refine Ev.neg (by omega) ?_
    exact one_s (p.map (upd p)) (by simpa using hn) r (by simpa using h) (p.map (upd p)).length 0 (by omega)
  | succ d ih =>
    intro i hi
    have hlt : i < p.length := by omega
    have hlm : i < (p.map (upd p)).length := by simpa using hlt
    have hg : (p.map (upd p))[i] = upd p p[i] := List.getElem_map _
    have ht : (p.map (upd p)).take (i + 1) = (p.map (upd p)).take i ++ [upd p p[i]] := by
      rw [List.take_add_one, List.getElem?_eq_getElem hlm, hg]
      rfl
    have hlen : ((p.map (upd p)).take i).length = i := by rw [List.length_take]; omega
    have hn' := ih (i + 1) (by omega)
    rw [ht] at hn'
    refine Ev.step (fun k => by rw [spec_l17Tight.l0]) ?_
    refine Ev.pos (by omega) ?_
    refine Ev.pos (by omega) ?_
    rw [rd88 p i hlt, hasto_s]
    simp only [Option.bind_some]
    rw [tg_wrap (x := (i : Int) + 1) (by omega) (by omega)]
    cases hj : jmp p[i] with
    | true =>
      refine Ev.pos rfl ?_
      refine Ev.bind (leads_f p hp hn p[i].f2 (hp _ (List.getElem_mem hlt) hj)) ?_
      refine Ev.pos (by omega) ?_
      rw [upd, if_pos hj] at hn'
      exact hn'
    | false =>
      refine Ev.neg (by simp) ?_
      refine Ev.pos (by omega) ?_
      rw [upd, hj] at hn'
      have e : (⟨p[i].f0, p[i].f1, p[i].f2⟩ : S88) = p[i] := rfl
      rw [e]
      exact hn'
inductive Rch (q : List S88) : Nat → Prop
  | z : Rch q 0
  | j (i : Nat) (h : i < q.length) : Rch q i → jmp q[i] = true → Rch q q[i].f2.toNat
  | g (i : Nat) (h : i < q.length) : Rch q i → gs q[i] = true → Rch q (i + 1)
/-- Right instructions: places are places, and from the last one nothing goes on. -/
structure Pg (q : List S88) : Prop where
  ok : OkL q
  pos : 1 ≤ q.length
  len : q.length ≤ 50000
  last : ∀ i (h : i < q.length), i + 1 = q.length → gs q[i] = false
theorem rch_lt {q : List S88} (hq : Pg q) {i : Nat} (h : Rch q i) : i < q.length := by
  induction h with
  | z => have := hq.pos; omega
  | j i h hr hj ih =>
    have := hq.ok _ (List.getElem_mem h) hj
    omega
  | g i h hr hg ih =>
    apply Classical.byContradiction
    intro hc
    have := hq.last i h (by omega)
    rw [hg] at this
    cases this
structure Inv (q : List S88) (s : List Bool) (todo : List Int) : Prop where
  len : s.length = q.length
  sound : ∀ i, s.getD i false = true → Rch q i
  todoS : ∀ t ∈ todo, ∃ i : Nat, t = (i : Int) ∧ Rch q i
  zero : s.getD 0 false = true ∨ (0 : Int) ∈ todo
  jmpC : ∀ i (h : i < q.length), s.getD i false = true → jmp q[i] = true → s.getD q[i].f2.toNat false = true ∨ q[i].f2 ∈ todo
  goC : ∀ i (h : i < q.length), s.getD i false = true → gs q[i] = true → s.getD (i + 1) false = true ∨ ((i + 1 : Nat) : Int) ∈ todo
theorem getD_at (s : List Bool) (i : Nat) (h : i < s.length) : s.getD i false = s[i] := by
  simp [List.getD_eq_getElem?_getD, List.getElem?_eq_getElem h]
theorem inv_done {q : List S88} {s S : List Bool} (hS : S.length = q.length) (hS2 : ∀ i (h : i < S.length), S[i] = true ↔ Rch q i) (h : Inv q s []) : s = S := by
  apply List.ext_getElem (by rw [h.len, hS])
  intro i h1 h2
  rw [Bool.eq_iff_iff, hS2 i h2, ← getD_at s i h1]
  refine ⟨h.sound i, fun hr => ?_⟩
  clear h1 h2
  induction hr with
  | z => simpa using h.zero
  | j i hi hr hj ih => simpa using h.jmpC i hi ih hj
  | g i hi hr hg ih => simpa using h.goC i hi ih hg
theorem inv_skip {q : List S88} {s : List Bool} {td : List Int} {i : Nat} (h : Inv q s (td ++ [(i : Int)])) (hs : s.getD i false = true) : Inv q s td := by
  refine ⟨h.len, h.sound, fun t ht => h.todoS t (by simp [ht]), ?_, fun x hx h1 h2 => ?_, fun x hx h1 h2 => ?_⟩
  · rcases h.zero with h0 | h0
    · exact .inl h0
    · rcases List.mem_append.1 h0 with h0 | h0
      · exact .inr h0
      · rw [List.mem_singleton] at h0
        have : i = 0 := by omega
        subst this
        exact .inl hs
  · rcases h.jmpC x hx h1 h2 with h0 | h0
    · exact .inl h0
    · rcases List.mem_append.1 h0 with h0 | h0
      · exact .inr h0
      · rw [List.mem_singleton] at h0
        rw [h0]
        exact .inl (by simpa using hs)
  · rcases h.goC x hx h1 h2 with h0 | h0
    · exact .inl h0
    · rcases List.mem_append.1 h0 with h0 | h0
      · exact .inr h0
      · rw [List.mem_singleton] at h0
        have : x + 1 = i := by omega
        rw [this]
        exact .inl hs
theorem gd_set (s : List Bool) (i x : Nat) (h : i < s.length) : (s.set i true).getD x false = if x = i then true else s.getD x false := by
  simp only [List.getD_eq_getElem?_getD, List.getElem?_set]
  by_cases e : x = i
  · subst e
    simp [h]
  · rw [if_neg (fun h => e h.symm), if_neg e]
theorem inv_go {q : List S88} {s : List Bool} {td td' : List Int} {i : Nat} (hq : Pg q) (h : Inv q s (td ++ [(i : Int)])) (hi : i < q.length)
    (hsub : ∀ t ∈ td', t ∈ td ∨ (jmp q[i] = true ∧ t = q[i].f2) ∨ (gs q[i] = true ∧ t = ((i + 1 : Nat) : Int))) (h1 : ∀ t ∈ td, t ∈ td') (h2 : jmp q[i] = true → q[i].f2 ∈ td') (h3 : gs q[i] = true → ((i + 1 : Nat) : Int) ∈ td') :
    Inv q (s.set i true) td' := by
  have hl := h.len
  have hr : Rch q i := by
    obtain ⟨x, hx, hr⟩ := h.todoS (i : Int) (by simp)
    have : x = i := by omega
    rwa [this] at hr
  have gd := fun x => gd_set s i x (by omega)
  have more : ∀ t : Int, ∀ x : Nat, (x : Int) = t → s.getD x false = true ∨ t ∈ td ++ [(i : Int)] → (s.set i true).getD x false = true ∨ t ∈ td' := by
    intro t x hx hh
    rw [gd]
    by_cases e : x = i
    · rw [if_pos e]; exact .inl rfl
    · rw [if_neg e]
      rcases hh with hh | hh
      · exact .inl hh
      · rcases List.mem_append.1 hh with hh | hh
        · exact .inr (h1 t hh)
        · rw [List.mem_singleton] at hh
          omega
  refine ⟨by rw [List.length_set]; exact hl, ?_, ?_, ?_, ?_, ?_⟩
  · intro x hx
    rw [gd] at hx
    by_cases e : x = i
    · rw [e]; exact hr
    · rw [if_neg e] at hx; exact h.sound x hx
  · intro t ht
    rcases hsub t ht with h' | ⟨hj, rfl⟩ | ⟨hg, rfl⟩
    · exact h.todoS t (by simp [h'])
    · have := hq.ok _ (List.getElem_mem hi) hj
      exact ⟨q[i].f2.toNat, by omega, Rch.j i hi hr hj⟩
    · exact ⟨i + 1, rfl, Rch.g i hi hr hg⟩
  · exact more 0 0 rfl h.zero
  · intro x hx hs hj
    have hr2 := hq.ok _ (List.getElem_mem hx) hj
    rw [gd] at hs
    by_cases e : x = i
    · subst e
      exact .inr (h2 hj)
    · rw [if_neg e] at hs
      exact more _ _ (by omega) (h.jmpC x hx hs hj)
  · intro x hx hs hg
    rw [gd] at hs
    by_cases e : x = i
    · subst e
      exact .inr (h3 hg)
    · rw [if_neg e] at hs
      exact more _ _ rfl (h.goC x hx hs hg)
theorem cnt_false_set (s : List Bool) (i : Nat) (h : i < s.length) (hs : s.getD i false = false) : (s.set i true).count false + 1 = s.count false := by
  rw [getD_at s i h] at hs
  have h1 : 0 < s.count false := List.count_pos_iff.2 (hs ▸ List.getElem_mem h)
  rw [List.count_set h, hs]
  simp
  omega
theorem inv_start (q : List S88) (hq : Pg q) : Inv q (List.replicate q.length false) [0] := by
  have e : ∀ i, (List.replicate q.length false).getD i false = false := by
    intro i
    simp only [List.getD_eq_getElem?_getD, List.getElem?_replicate]
    split <;> rfl
  refine ⟨by simp, fun i hi => ?_, fun t ht => ⟨0, by simpa using ht, Rch.z⟩, .inr (by simp), fun i h hs _ => ?_, fun i h hs _ => ?_⟩
  · rw [e] at hi; cases hi
  · rw [e] at hs; cases hs
  · rw [e] at hs; cases hs
theorem rdOf_at (s : List Bool) (i : Nat) : rdOf false s (i : Int) = s.getD i false := by simp [rdOf]
theorem last_facts (td : List Int) (i : Nat) (h : td.length ≤ 300000) : wrap64 (((td.length + 1 : Nat) : Int) - 1) = (td.length : Int) ∧ rd (td ++ [(i : Int)]) (td.length : Int) = (i : Int) ∧ (td ++ [(i : Int)]).take ((td.length : Int)).toNat = td := by
  refine ⟨?_, ?_, ?_⟩
  · rw [tg_wrap (by omega) (by omega)]
    omega
  · simp [rd]
  · rw [show ((td.length : Int)).toNat = td.length by omega, List.take_left]
theorem dfs_i (q : List S88) (hq : Pg q) (S : List Bool) (hS : S.length = q.length) (hS2 : ∀ i (h : i < S.length), S[i] = true ↔ Rch q i) (r : (List S88) × Int)
    (hr : Ev (fun k => impl_Tighten.l2 k q S (q.length : Int) ((q.length : Int) - 1)) r) :
    ∀ (m : Nat) (s : List Bool) (todo : List Int), m ≤ 200000 → 2 * s.count false + todo.length ≤ m → Inv q s todo → Ev (fun k => impl_Tighten.l1 k q s todo) r := by
  have hn := hq.len
  have hp := hq.pos
  intro m
  induction m with
  | zero =>
    intro s todo hm hc h
    have : todo = [] := List.eq_nil_of_length_eq_zero (by omega)
    subst this
    have := inv_done hS hS2 h
    subst this
    refine Ev.step (fun k => by rw [impl_Tighten.l1]) ?_
    refine Ev.neg (by simp) ?_
    rw [tg_wrap (by omega) (by omega)]
    exact hr
  | succ m ih =>
    intro s todo hm hc h
    rcases List.eq_nil_or_concat todo with rfl | ⟨td, t, rfl⟩
    · have := inv_done hS hS2 h
      subst this
      refine Ev.step (fun k => by rw [impl_Tighten.l1]) ?_
      refine Ev.neg (by simp) ?_
      rw [tg_wrap (by omega) (by omega)]
      exact hr
    rw [List.concat_eq_append] at hc h ⊢
    obtain ⟨i, rfl, hR⟩ := h.todoS t (by simp)
    have hi := rch_lt hq hR
    have hl := h.len
    rw [List.length_append, List.length_singleton] at hc
    obtain ⟨f1, f2, f3⟩ := last_facts td i (by omega)
    refine Ev.step (fun k => by rw [impl_Tighten.l1]) ?_
    simp only [f1, f2, f3, Option.bind_some, rd88 q i hi, jumps_i, rdOf_at, List.length_append, List.length_singleton]
    refine Ev.pos (by omega) ?_
    refine Ev.pos (by omega) ?_
    refine Ev.pos (by omega) ?_
    refine Ev.pos (by omega) ?_
    refine Ev.pos (by omega) ?_
    refine Ev.pos (by omega) ?_
    cases hs : s.getD i false with
    | true =>
      refine Ev.pos rfl ?_
      exact ih s td (by omega) (by omega) (inv_skip h hs)
    | false =>
      refine Ev.neg (by simp) ?_
      have hcs := cnt_false_set s i (by omega) hs
      refine Ev.pos (by omega) ?_
      rw [show ((i : Int)).toNat = i by omega, tg_wrap (x := (i : Int) + 1) (by omega) (by omega)]
      have gsd : gs q[i] = decide (q[i].f0 ≠ 5 ∧ q[i].f0 ≠ 9 ∧ q[i].f0 ≠ 10) := rfl
      have tail : ∀ t2 : List Int, t2.length ≤ td.length + 1 → (∀ t ∈ t2, t ∈ td ∨ (jmp q[i] = true ∧ t = q[i].f2)) → (∀ t ∈ td, t ∈ t2) → (jmp q[i] = true → q[i].f2 ∈ t2) →
          Ev (fun k => if q[i].f0 = 5 then impl_Tighten.l1 k q (s.set i true) t2 else if q[i].f0 = 9 then impl_Tighten.l1 k q (s.set i true) t2 else if q[i].f0 = 10 then impl_Tighten.l1 k q (s.set i true) t2 else if t2.length < 17592186044416 then impl_Tighten.l1 k q (s.set i true) (t2 ++ [(i : Int) + 1]) else none) r := by
        intro t2 h2l h2a h2b h2c
        by_cases hg : gs q[i] = true
        · rw [gsd, decide_eq_true_eq] at hg
          obtain ⟨g5, g9, g10⟩ := hg
          refine Ev.neg g5 ?_
          refine Ev.neg g9 ?_
          refine Ev.neg g10 ?_
          refine Ev.pos (by omega) ?_
          have hg' : gs q[i] = true := by rw [gsd]; exact decide_eq_true ⟨g5, g9, g10⟩
          refine ih (s.set i true) (t2 ++ [(i : Int) + 1]) (by omega) (by rw [List.length_append, List.length_singleton]; omega) ?_
          refine inv_go hq h hi ?_ (fun t ht => by simp [h2b t ht]) (fun hj => by simp [h2c hj]) (fun _ => by simp)
          intro t ht
          rcases List.mem_append.1 ht with ht | ht
          · rcases h2a t ht with h' | h'
            · exact .inl h'
            · exact .inr (.inl h')
          · rw [List.mem_singleton] at ht
            exact .inr (.inr ⟨hg', by rw [ht]; rfl⟩)
        · have go : Ev (fun k => impl_Tighten.l1 k q (s.set i true) t2) r := by
            refine ih (s.set i true) t2 (by omega) (by omega) ?_
            refine inv_go hq h hi ?_ h2b h2c (fun h' => absurd h' hg)
            intro t ht
            rcases h2a t ht with h' | h'
            · exact .inl h'
            · exact .inr (.inl h')
          rw [gsd, decide_eq_true_eq] at hg
          by_cases g5 : q[i].f0 = 5
          · exact Ev.pos g5 go
          refine Ev.neg g5 ?_
          by_cases g9 : q[i].f0 = 9
          · exact Ev.pos g9 go
          refine Ev.neg g9 ?_
          by_cases g10 : q[i].f0 = 10
          · exact Ev.pos g10 go
          exact absurd ⟨g5, g9, g10⟩ hg
      cases hj : jmp q[i] with
      | true =>
        refine Ev.pos rfl ?_
        refine Ev.pos (by omega) ?_
        have tl := tail (td ++ [q[i].f2]) (by simp) (fun t ht => by
          rcases List.mem_append.1 ht with h' | h'
          · exact .inl h'
          · rw [List.mem_singleton] at h'
            exact .inr ⟨hj, h'⟩) (fun t ht => by simp [ht]) (fun _ => by simp)
        simp only [List.length_append, List.length_singleton] at tl
        exact tl
      | false =>
        refine Ev.neg (by simp) ?_
        exact tail td (by omega) (fun t ht => .inl ht) (fun t ht => ht) (fun h' => by rw [hj] at h'; cases h')
theorem not_at (s : List Bool) (i : Nat) (h : i < s.length) : (s.map not).getD i false = !(s.getD i false) := by
  simp [List.getD_eq_getElem?_getD, List.getElem?_eq_getElem h]
theorem dfs_s (q : List S88) (hq : Pg q) (S : List Bool) (hS : S.length = q.length) (hS2 : ∀ i (h : i < S.length), S[i] = true ↔ Rch q i) (r : List S88)
    (hr : Ev (fun k => (spec_l17Without.f k q (S.map not)).bind fun t146 => (if 0 ≤ (t146.length : Int) then (if ((t146.length : Int) : Int).toNat ≤ 281474976710656 then (spec_l17Tight.l3 k t146 (List.replicate ((t146.length : Int) : Int).toNat false) (t146.length : Int) (wrap64 ((t146.length : Int) - 1))) else (none)) else (none))) r) :
    ∀ (m : Nat) (s : List Bool) (todo : List Int), m ≤ 200000 → 2 * s.count false + todo.length ≤ m → Inv q s todo → Ev (fun k => spec_l17Tight.l2 k q (s.map not) todo) r := by
  have hn := hq.len
  have hp := hq.pos
  intro m
  induction m with
  | zero =>
    intro s todo hm hc h
    have : todo = [] := List.eq_nil_of_length_eq_zero (by omega)
    subst this
    have := inv_done hS hS2 h
    subst this
    refine Ev.step (fun k => by rw [spec_l17Tight.l2]) ?_
    refine Ev.neg (by simp) ?_
    exact hr
  | succ m ih =>
    intro s todo hm hc h
    rcases List.eq_nil_or_concat todo with rfl | ⟨td, t, rfl⟩
    · have := inv_done hS hS2 h
      subst this
      refine Ev.step (fun k => by rw [spec_l17Tight.l2]) ?_
      refine Ev.neg (by simp) ?_
      exact hr
    rw [List.concat_eq_append] at hc h ⊢
    obtain ⟨i, rfl, hR⟩ := h.todoS t (by simp)
    have hi := rch_lt hq hR
    have hl := h.len
    rw [List.length_append, List.length_singleton] at hc
    obtain ⟨f1, f2, f3⟩ := last_facts td i (by omega)
    refine Ev.step (fun k => by rw [spec_l17Tight.l2]) ?_
    simp only [f1, f2, f3, Option.bind_some, rd88 q i hi, hasto_s, goes_s, rdOf_at, List.length_append, List.length_singleton, List.length_map]
    refine Ev.pos (by omega) ?_
    refine Ev.pos (by omega) ?_
    refine Ev.pos (by omega) ?_
    refine Ev.pos (by omega) ?_
    refine Ev.pos (by omega) ?_
    refine Ev.pos (by omega) ?_
    rw [not_at s i (by omega)]
    cases hs : s.getD i false with
    | true =>
      refine Ev.neg (by simp) ?_
      exact ih s td (by omega) (by omega) (inv_skip h hs)
    | false =>
      refine Ev.pos rfl ?_
      have hcs := cnt_false_set s i (by omega) hs
      refine Ev.pos (by omega) ?_
      rw [show ((i : Int)).toNat = i by omega, tg_wrap (x := (i : Int) + 1) (by omega) (by omega)]
      have em : (s.map not).set i false = (s.set i true).map not := by rw [List.map_set]; rfl
      rw [em]
      cases hg : gs q[i] with
      | true =>
        refine Ev.pos rfl ?_
        refine Ev.pos (by omega) ?_
        cases hj : jmp q[i] with
        | true =>
          refine Ev.pos rfl ?_
          refine Ev.pos (by omega) ?_
          refine ih (s.set i true) _ (by omega) (by simp only [List.length_append, List.length_singleton]; omega) ?_
          refine inv_go hq h hi ?_ (fun t ht => by simp [ht]) (fun _ => by simp) (fun _ => by simp)
          intro t ht
          simp only [List.mem_append, List.mem_singleton] at ht
          rcases ht with (h' | h') | h'
          · exact .inl h'
          · exact .inr (.inr ⟨hg, by rw [h']; rfl⟩)
          · exact .inr (.inl ⟨hj, h'⟩)
        | false =>
          refine Ev.neg (by simp) ?_
          refine ih (s.set i true) _ (by omega) (by simp only [List.length_append, List.length_singleton]; omega) ?_
          refine inv_go hq h hi ?_ (fun t ht => by simp [ht]) (fun h' => by rw [hj] at h'; cases h') (fun _ => by simp)
          intro t ht
          simp only [List.mem_append, List.mem_singleton] at ht
          rcases ht with h' | h'
          · exact .inl h'
          · exact .inr (.inr ⟨hg, by rw [h']; rfl⟩)
      | false =>
        refine Ev.neg (by simp) ?_
        cases hj : jmp q[i] with
        | true =>
          refine Ev.pos rfl ?_
          refine Ev.pos (by omega) ?_
          refine ih (s.set i true) _ (by omega) (by simp only [List.length_append, List.length_singleton]; omega) ?_
          refine inv_go hq h hi ?_ (fun t ht => by simp [ht]) (fun _ => by simp) (fun h' => by rw [hg] at h'; cases h')
          intro t ht
          simp only [List.mem_append, List.mem_singleton] at ht
          rcases ht with h' | h'
          · exact .inl h'
          · exact .inr (.inl ⟨hj, h'⟩)
        | false =>
          refine Ev.neg (by simp) ?_
          refine ih (s.set i true) _ (by omega) (by omega) ?_
          exact inv_go hq h hi (fun t ht => .inl ht) (fun t ht => ht) (fun h' => by rw [hj] at h'; cases h') (fun h' => by rw [hg] at h'; cases h')
theorem have_S (q : List S88) : ∃ S : List Bool, S.length = q.length ∧ ∀ i (h : i < S.length), S[i] = true ↔ Rch q i := by
  refine ⟨(List.range q.length).map fun i => @decide (Rch q i) (Classical.propDecidable _), by simp, fun i h => ?_⟩
  simp
theorem back_i (q : List S88) (S : List Bool) (hS : S.length = q.length) (hn : q.length ≤ 50000) (r : (List S88) × Int)
    (hr : Ev (fun k => impl_Tighten.l2 k q (fin 0 q S).1 ((fin 0 q S).2 : Int) (-1)) r) :
    ∀ i, i ≤ q.length → Ev (fun k => impl_Tighten.l2 k q (S.take i ++ (fin i (q.drop i) (S.drop i)).1) ((fin i (q.drop i) (S.drop i)).2 : Int) ((i : Int) - 1)) r := by
  intro i
  induction i with
  | zero =>
    intro _
    simpa using hr
  | succ i ih =>
    intro hi
    have hlt : i < q.length := by omega
    have hls : i < S.length := by omega
    have ih := ih (by omega)
    have hfa := fin_at q S i hlt hls
    have hfl := fin_len (q.drop (i + 1)) (S.drop (i + 1)) (i + 1) (by simp only [List.length_drop]; omega)
    rw [hfa] at ih
    generalize fin (i + 1) (q.drop (i + 1)) (S.drop (i + 1)) = R at hfl ih ⊢
    have hts : S.take (i + 1) = S.take i ++ [S[i]] := by
      rw [List.take_add_one, List.getElem?_eq_getElem hls]
      rfl
    have htl : (S.take i).length = i := by rw [List.length_take]; omega
    have hAl : (S.take (i + 1) ++ R.1).length = q.length := by
      rw [List.length_append, List.length_take, hfl, List.length_drop]
      omega
    have hA : (S.take (i + 1) ++ R.1).getD i false = S[i] := by
      rw [hts, List.append_assoc]
      simp only [List.getD_eq_getElem?_getD, List.getElem?_append_right (show (S.take i).length ≤ i by omega), htl, Nat.sub_self]
      rfl
    have hset : (S.take (i + 1) ++ R.1).set i false = S.take i ++ (false :: R.1) := by
      rw [hts, List.append_assoc, List.set_append_right _ _ (by omega), htl, Nat.sub_self]
      rfl
    have hA2 : (S.take i ++ (false :: R.1)).getD i false = false := by
      simp only [List.getD_eq_getElem?_getD, List.getElem?_append_right (show (S.take i).length ≤ i by omega), htl, Nat.sub_self]
      rfl
    have hsame : S.take (i + 1) ++ R.1 = S.take i ++ (S[i] :: R.1) := by rw [hts, List.append_assoc]; rfl
    rw [show ((i + 1 : Nat) : Int) - 1 = (i : Int) by omega]
    have w1 : wrap64 ((i : Int) - 1) = (i : Int) - 1 := tg_wrap (by omega) (by omega)
    have key : ∀ c : Bool, c = (jmp q[i] && decide (q[i].f2 > (i : Int)) && decide (q[i].f2 ≤ (R.2 : Int))) → S[i] = true → Ev (fun k => impl_Tighten.j3 k q (S.take (i + 1) ++ R.1) (R.2 : Int) (i : Int) c) r := by
      intro c hc hsi
      rw [hsi, ← hc] at ih
      cases c with
      | true =>
        refine Ev.step (fun k => by rw [impl_Tighten.j3]) ?_
        simp only [show ((i : Int)).toNat = i by omega, hset, Option.bind_some, rdOf_at, hA2, w1]
        refine Ev.pos trivial ?_
        refine Ev.pos (by omega) ?_
        refine Ev.pos (by rw [hAl]; omega) ?_
        refine Ev.neg (by simp) ?_
        simpa using ih
      | false =>
        refine Ev.step (fun k => by rw [impl_Tighten.j3]) ?_
        simp only [rdOf_at, hA, hsi, w1]
        refine Ev.neg (by simp) ?_
        refine Ev.pos (by omega) ?_
        refine Ev.pos (by rw [hAl]; omega) ?_
        refine Ev.pos trivial ?_
        rw [hsame, hsi]
        simpa using ih
    refine Ev.step (fun k => by rw [impl_Tighten.l2]) ?_
    simp only [rdOf_at, hA, rd88 q i hlt, jumps_i, Option.bind_some]
    refine Ev.pos (by omega) ?_
    refine Ev.pos (by omega) ?_
    refine Ev.pos (by rw [hAl]; omega) ?_
    by_cases hsi : S[i] = true
    · refine Ev.pos hsi ?_
      refine Ev.pos (by omega) ?_
      by_cases hj : jmp q[i] = true
      · refine Ev.pos hj ?_
        by_cases h2 : q[i].f2 > (i : Int)
        · refine Ev.pos h2 ?_
          exact key _ (by rw [hj, decide_eq_true h2]; rfl) hsi
        · refine Ev.neg h2 ?_
          exact key _ (by rw [hj, decide_eq_false h2]; rfl) hsi
      · refine Ev.neg hj ?_
        exact key _ (by rw [Bool.eq_false_iff.2 hj]; rfl) hsi
    · refine Ev.neg hsi ?_
      have hsf : S[i] = false := Bool.eq_false_iff.2 hsi
      rw [hsf] at ih
      refine Ev.step (fun k => by rw [impl_Tighten.j3]) ?_
      simp only [rdOf_at, hA, hsf, w1]
      refine Ev.neg (by simp) ?_
      refine Ev.pos (by omega) ?_
      refine Ev.pos (by rw [hAl]; omega) ?_
      refine Ev.neg (by simp) ?_
      rw [hsame, hsf]
      simpa using ih
def cl (F : List Bool) : List Int := (List.range F.length).map fun t => (cnt F t : Int)
theorem cl_len (F : List Bool) : (cl F).length = F.length := by simp [cl]
theorem cl_rd (F : List Bool) (a : Int) (h0 : 0 ≤ a) (h1 : a < F.length) : rd (cl F) a = (cnt F a.toNat : Int) := by
  obtain ⟨n, rfl⟩ := Int.eq_ofNat_of_zero_le h0
  have hn : n < F.length := by omega
  simp [rd, cl, List.getD_eq_getElem?_getD, hn]
theorem out_i (q : List S88) (hq : OkL q) (hn : q.length ≤ 50000) (F : List Bool) (hF : F.length = q.length) : ∀ (d i : Nat) (x : List S88), i + d = q.length → x.length ≤ i →
    Ev (fun k => impl_Tighten.l4 k F (cl F) x q (q.length : Int) (i : Int)) (x ++ cmp (F.drop i) ((q.drop i).map (rn F)), 0) := by
  intro d
  induction d with
  | zero =>
    intro i x hi hx
    refine Ev.step (fun k => by rw [impl_Tighten.l4]) ?_
    refine Ev.neg (by omega) ?_
    rw [List.drop_eq_nil_of_le (show F.length ≤ i by omega)]
    simpa [cmp] using Ev.now (x, (0 : Int))
  | succ d ih =>
    intro i x hi hx
    have hlt : i < q.length := by omega
    have hlf : i < F.length := by omega
    rw [List.drop_eq_getElem_cons hlt, List.drop_eq_getElem_cons hlf, List.map_cons, cmp]
    refine Ev.step (fun k => by rw [impl_Tighten.l4]) ?_
    simp only [rdOf_at, getD_at F i hlf, rd88 q i hlt, jumps_i, Option.bind_some, tg_wrap (x := (i : Int) + 1) (by omega) (by omega), cl_len]
    refine Ev.pos (by omega) ?_
    refine Ev.pos (by omega) ?_
    refine Ev.pos (by omega) ?_
    refine Ev.pos (by omega) ?_
    by_cases hk : F[i] = true
    · refine Ev.pos hk ?_
      rw [if_pos hk]
      by_cases hj : jmp q[i] = true
      · obtain ⟨j0, j1⟩ := hq _ (List.getElem_mem hlt) hj
        refine Ev.pos hj ?_
        refine Ev.pos j0 ?_
        refine Ev.pos (by omega) ?_
        refine Ev.pos (by omega) ?_
        have h := ih (i + 1) (x ++ [rn F q[i]]) (by omega) (by rw [List.length_append, List.length_singleton]; omega)
        rw [List.append_assoc] at h
        rw [cl_rd F _ j0 (by omega)]
        rw [rn, if_pos hj] at h ⊢
        exact h
      · refine Ev.neg hj ?_
        refine Ev.pos (by omega) ?_
        have h := ih (i + 1) (x ++ [rn F q[i]]) (by omega) (by rw [List.length_append, List.length_singleton]; omega)
        rw [List.append_assoc] at h
        rw [rn, if_neg hj] at h ⊢
        exact h
    · refine Ev.neg hk ?_
      rw [if_neg hk]
      exact ih (i + 1) x (by omega) (by omega)
theorem place_i (q : List S88) (hn : q.length ≤ 50000) (F : List Bool) (hF : F.length = q.length) (r : (List S88) × Int) (hr : Ev (fun k => impl_Tighten.l4 k F (cl F) [] q (q.length : Int) 0) r) :
    ∀ d i : Nat, i + d = q.length → Ev (fun k => impl_Tighten.l3 k q F ((cl F).take i ++ (List.replicate q.length (0 : Int)).drop i) (cnt F i : Int) (q.length : Int) (i : Int)) r := by
  intro d
  have hcl := cl_len F
  induction d with
  | zero =>
    intro i hi
    rw [List.take_of_length_le (by omega), List.drop_eq_nil_of_le (by simp; omega), List.append_nil]
    refine Ev.step (fun k => by rw [impl_Tighten.l3]) ?_
    refine Ev.neg (by omega) ?_
    exact hr
  | succ d ih =>
    intro i hi
    have hlt : i < q.length := by omega
    have hlf : i < F.length := by omega
    have hlc : i < (cl F).length := by omega
    have hlr : i < (List.replicate q.length (0 : Int)).length := by simpa using hlt
    have hlen := tk_len (cl F) (List.replicate q.length (0 : Int)) i (by omega) (by simp; omega)
    have e := tk_set (cl F) (List.replicate q.length (0 : Int)) i hlc hlr
    rw [show (cl F)[i] = (cnt F i : Int) by simp [cl]] at e
    have hb := cnt_bound F i
    have hs := cnt_succ F i hlf
    refine Ev.step (fun k => by rw [impl_Tighten.l3]) ?_
    simp only [rdOf_at, getD_at F i hlf, Option.bind_some, show ((i : Int)).toNat = i by omega, e, tg_wrap (x := (i : Int) + 1) (by omega) (by omega), tg_wrap (x := (cnt F i : Int) + 1) (by omega) (by omega)]
    refine Ev.pos (by omega) ?_
    refine Ev.pos (by omega) ?_
    refine Ev.pos (by omega) ?_
    refine Ev.pos (by omega) ?_
    have h := ih (i + 1) (by omega)
    rw [hs] at h
    by_cases hk : F[i] = true
    · refine Ev.pos hk ?_
      rw [if_pos hk] at h
      exact h
    · refine Ev.neg hk ?_
      rw [if_neg hk] at h
      exact h
theorem wo1_s (q : List S88) (hq : OkL q) (hn : q.length ≤ 50000) (K : List Bool) (hK : K.length = q.length) : ∀ (d i : Nat) (x : List S88), i + d = q.length → x.length ≤ i →
    Ev (fun k => spec_l17Without.l1 k q (K.map not) (cl K) x (i : Int)) (x ++ cmp (K.drop i) ((q.drop i).map (rn K))) := by
  intro d
  induction d with
  | zero =>
    intro i x hi hx
    refine Ev.step (fun k => by rw [spec_l17Without.l1]) ?_
    refine Ev.neg (by omega) ?_
    rw [List.drop_eq_nil_of_le (show K.length ≤ i by omega)]
    simpa [cmp] using Ev.now x
  | succ d ih =>
    intro i x hi hx
    have hlt : i < q.length := by omega
    have hlf : i < K.length := by omega
    rw [List.drop_eq_getElem_cons hlt, List.drop_eq_getElem_cons hlf, List.map_cons, cmp]
    refine Ev.step (fun k => by rw [spec_l17Without.l1]) ?_
    simp only [rdOf_at, not_at K i hlf, getD_at K i hlf, rd88 q i hlt, hasto_s, Option.bind_some, tg_wrap (x := (i : Int) + 1) (by omega) (by omega), cl_len, List.length_map]
    refine Ev.pos (by omega) ?_
    refine Ev.pos (by omega) ?_
    refine Ev.pos (by omega) ?_
    by_cases hk : K[i] = true
    · refine Ev.neg (by rw [hk]; simp) ?_
      rw [if_pos hk]
      by_cases hj : jmp q[i] = true
      · obtain ⟨j0, j1⟩ := hq _ (List.getElem_mem hlt) hj
        refine Ev.pos hj ?_
        refine Ev.pos j0 ?_
        refine Ev.pos (by omega) ?_
        refine Ev.pos (by omega) ?_
        have h := ih (i + 1) (x ++ [rn K q[i]]) (by omega) (by rw [List.length_append, List.length_singleton]; omega)
        rw [List.append_assoc] at h
        rw [cl_rd K _ j0 (by omega)]
        rw [rn, if_pos hj] at h ⊢
        exact h
      · refine Ev.neg hj ?_
        refine Ev.pos (by omega) ?_
        have h := ih (i + 1) (x ++ [rn K q[i]]) (by omega) (by rw [List.length_append, List.length_singleton]; omega)
        rw [List.append_assoc] at h
        rw [rn, if_neg hj] at h ⊢
        exact h
    · refine Ev.pos (by rw [Bool.eq_false_iff.2 hk]; rfl) ?_
      rw [if_neg hk]
      exact ih (i + 1) x (by omega) (by omega)
theorem wo_s (q : List S88) (hq : OkL q) (hn : q.length ≤ 50000) (K : List Bool) (hK : K.length = q.length) : Ev (fun k => spec_l17Without.f k q (K.map not)) (cmp K (q.map (rn K))) := by
  have hcl := cl_len K
  have loop : ∀ d i : Nat, i + d = q.length → Ev (fun k => spec_l17Without.l0 k q (K.map not) ((cl K).take i) (cnt K i : Int) (i : Int)) (cmp K (q.map (rn K))) := by
    intro d
    induction d with
    | zero =>
      intro i hi
      rw [List.take_of_length_le (by omega)]
      refine Ev.step (fun k => by rw [spec_l17Without.l0]) ?_
      refine Ev.neg (by omega) ?_
      have h := wo1_s q hq hn K hK q.length 0 [] (by omega) (by simp)
      simpa using h
    | succ d ih =>
      intro i hi
      have hlt : i < q.length := by omega
      have hlf : i < K.length := by omega
      have hlc : i < (cl K).length := by omega
      have hb := cnt_bound K i
      have hs := cnt_succ K i hlf
      have h := ih (i + 1) (by omega)
      have ht : (cl K).take (i + 1) = (cl K).take i ++ [(cnt K i : Int)] := by
        rw [List.take_add_one, List.getElem?_eq_getElem hlc, show (cl K)[i] = (cnt K i : Int) by simp [cl]]
        rfl
      rw [hs, ht] at h
      refine Ev.step (fun k => by rw [spec_l17Without.l0]) ?_
      simp only [rdOf_at, not_at K i hlf, getD_at K i hlf, Option.bind_some, tg_wrap (x := (i : Int) + 1) (by omega) (by omega), tg_wrap (x := (cnt K i : Int) + 1) (by omega) (by omega), List.length_map, List.length_take]
      refine Ev.pos (by omega) ?_
      refine Ev.pos (by omega) ?_
      refine Ev.pos (by omega) ?_
      refine Ev.pos (by omega) ?_
      by_cases hk : K[i] = true
      · refine Ev.neg (by rw [hk]; simp) ?_
        rw [if_pos hk] at h
        exact h
      · refine Ev.pos (by rw [Bool.eq_false_iff.2 hk]; rfl) ?_
        rw [if_neg hk] at h
        exact h
  unfold spec_l17Without.f
  have h := loop q.length 0 (by omega)
  simpa [cnt] using h
/-- What closes: each place of what is kept is kept. -/
def Cls (q : List S88) (S : List Bool) : Prop := ∀ i (h : i < q.length), S.getD i false = true → jmp q[i] = true → S.getD q[i].f2.toNat false = true
theorem cmp_mem {α : Type} : ∀ (S : List Bool) (l : List α) (x : α), x ∈ cmp S l → ∃ i, ∃ h : i < l.length, S.getD i false = true ∧ l[i] = x
  | [], _, _, h => by simp [cmp] at h
  | _ :: _, [], _, h => by simp [cmp] at h
  | b :: S, a :: l, x, h => by
    cases b with
    | false =>
      simp only [cmp, Bool.false_eq_true, if_false] at h
      obtain ⟨i, hi, h1, h2⟩ := cmp_mem S l x h
      exact ⟨i + 1, by simp; omega, by simpa using h1, by simpa using h2⟩
    | true =>
      simp only [cmp, if_true, List.mem_cons] at h
      rcases h with rfl | h
      · exact ⟨0, by simp, by simp, by simp⟩
      · obtain ⟨i, hi, h1, h2⟩ := cmp_mem S l x h
        exact ⟨i + 1, by simp; omega, by simpa using h1, by simpa using h2⟩
theorem red_ok (q : List S88) (hq : OkL q) (S : List Bool) (hS : S.length = q.length) (hc : Cls q S) : OkL (cmp S (q.map (rn S))) := by
  intro x hx hj
  rw [cmp_length S _ (by simpa using hS)]
  obtain ⟨i, hi, h1, rfl⟩ := cmp_mem S _ x hx
  rw [List.getElem_map] at hj ⊢
  rw [List.length_map] at hi
  rw [rn_jmp] at hj
  have h2 := hc i hi h1 hj
  obtain ⟨j0, j1⟩ := hq _ (List.getElem_mem hi) hj
  rw [rn, if_pos hj]
  simp only
  have h3 : q[i].f2.toNat < S.length := by omega
  rw [getD_at S _ h3] at h2
  have := cnt_lt S q[i].f2.toNat S.length h3 h3 h2
  omega
theorem back_s (q : List S88) (hq : OkL q) (hn : q.length ≤ 50000) (S : List Bool) (hS : S.length = q.length) (hc : Cls q S) (r : List S88)
    (hr : Ev (fun k => spec_l17Tight.l3 k (cmp S (q.map (rn S))) ((cmp S (fin 0 q S).1).map not) (cnt S (fin 0 q S).2 : Int) (-1)) r) :
    ∀ i, i ≤ q.length → Ev (fun k => spec_l17Tight.l3 k (cmp S (q.map (rn S))) (List.replicate (cnt S i) false ++ (cmp (S.drop i) (fin i (q.drop i) (S.drop i)).1).map not) (cnt S (fin i (q.drop i) (S.drop i)).2 : Int) ((cnt S i : Int) - 1)) r := by
  have hq'l := cmp_length S (q.map (rn S)) (by simpa using hS)
  intro i
  induction i with
  | zero =>
    intro _
    simpa [cnt] using hr
  | succ i ih =>
    intro hi
    have hlt : i < q.length := by omega
    have hls : i < S.length := by omega
    have ih := ih (by omega)
    have hfa := fin_at q S i hlt hls
    have hfn := fin_next (q.drop (i + 1)) (S.drop (i + 1)) (i + 1) (by simp only [List.length_drop]; omega)
    have hfl := fin_len (q.drop (i + 1)) (S.drop (i + 1)) (i + 1) (by simp only [List.length_drop]; omega)
    have hcs := cnt_succ S i hls
    rw [hfa, List.drop_eq_getElem_cons hls] at ih
    generalize fin (i + 1) (q.drop (i + 1)) (S.drop (i + 1)) = R at hfn hfl ih ⊢
    rw [cmp] at ih
    by_cases hsi : S[i] = true
    · rw [if_pos hsi, hsi] at ih
      rw [hsi] at hcs
      simp only [if_true] at hcs
      rw [hcs]
      have hb := cnt_bound S i
      have hget := cmp_get S (q.map (rn S)) i (by simpa using hS) hls hsi
      rw [List.getElem?_eq_getElem (show i < (q.map (rn S)).length by simpa using hlt), List.getElem_map] at hget
      obtain ⟨hjl, hjv⟩ := List.getElem?_eq_some_iff.1 hget
      rw [show ((cnt S i + 1 : Nat) : Int) - 1 = (cnt S i : Int) by omega]
      have hxl : (List.replicate (cnt S i + 1) false ++ (cmp (S.drop (i + 1)) R.1).map not).length = (cnt S i + 1) + (cmp (S.drop (i + 1)) R.1).length := by simp
      have hrep : List.replicate (cnt S i + 1) false ++ (cmp (S.drop (i + 1)) R.1).map not = List.replicate (cnt S i) false ++ (false :: (cmp (S.drop (i + 1)) R.1).map not) := by
        rw [List.replicate_succ', List.append_assoc]
        rfl
      have hset : (List.replicate (cnt S i + 1) false ++ (cmp (S.drop (i + 1)) R.1).map not).set (cnt S i) true = List.replicate (cnt S i) false ++ (true :: (cmp (S.drop (i + 1)) R.1).map not) := by
        rw [hrep, List.set_append_right _ _ (by simp), List.length_replicate, Nat.sub_self]
        rfl
      have w1 : wrap64 ((cnt S i : Int) - 1) = (cnt S i : Int) - 1 := tg_wrap (by omega) (by omega)
      refine Ev.step (fun k => by rw [spec_l17Tight.l3]) ?_
      simp only [rd88 _ _ hjl, hjv, hasto_s, rn_jmp, Option.bind_some, show ((cnt S i : Int)).toNat = cnt S i by omega, hset, w1]
      refine Ev.pos (by omega) ?_
      refine Ev.pos (by omega) ?_
      refine Ev.pos (by omega) ?_
      have keep : (jmp q[i] && decide (q[i].f2 > (i : Int)) && decide (q[i].f2 ≤ (R.2 : Int))) = false → Ev (fun k => spec_l17Tight.l3 k (cmp S (q.map (rn S))) (List.replicate (cnt S i + 1) false ++ (cmp (S.drop (i + 1)) R.1).map not) (cnt S i : Int) ((cnt S i : Int) - 1)) r := by
        intro hk
        rw [hk] at ih
        rw [hrep]
        simpa using ih
      by_cases hj : jmp q[i] = true
      · refine Ev.pos hj ?_
        obtain ⟨j0, j1⟩ := hq _ (List.getElem_mem hlt) hj
        have hto := hc i hlt (by rw [getD_at S i hls]; exact hsi) hj
        have h3 : q[i].f2.toNat < S.length := by omega
        rw [getD_at S _ h3] at hto
        have hf2 : (rn S q[i]).f2 = (cnt S q[i].f2.toNat : Int) := by rw [rn, if_pos hj]
        rw [hf2]
        have c1 : (cnt S q[i].f2.toNat : Int) > (cnt S i : Int) ↔ q[i].f2 > (i : Int) := by
          constructor
          · intro h
            apply Classical.byContradiction
            intro hcn
            have := cnt_le S q[i].f2.toNat i (by omega)
            omega
          · intro h
            have := cnt_lt S i q[i].f2.toNat (by omega) hls hsi
            omega
        have c2 : (cnt S q[i].f2.toNat : Int) ≤ (cnt S R.2 : Int) ↔ q[i].f2 ≤ (R.2 : Int) := by
          constructor
          · intro h
            apply Classical.byContradiction
            intro hcn
            obtain ⟨n1, n2, n3⟩ := hfn
            have hdl : (S.drop (i + 1)).length = S.length - (i + 1) := List.length_drop
            obtain ⟨n4, n5⟩ := n3 (by omega)
            rw [List.getElem_drop] at n5
            have e : i + 1 + (R.2 - (i + 1)) = R.2 := by omega
            simp only [e] at n5
            have := cnt_lt S R.2 q[i].f2.toNat (by omega) (by omega) n5
            omega
          · intro h
            have := cnt_le S q[i].f2.toNat R.2 (by omega)
            omega
        by_cases h1 : q[i].f2 > (i : Int)
        · refine Ev.pos (c1.2 h1) ?_
          by_cases h2 : q[i].f2 ≤ (R.2 : Int)
          · refine Ev.pos (c2.2 h2) ?_
            refine Ev.pos (by rw [hxl]; omega) ?_
            rw [hj, decide_eq_true h1, decide_eq_true h2] at ih
            simpa using ih
          · refine Ev.neg (fun h => h2 (c2.1 h)) ?_
            exact keep (by rw [decide_eq_false h2, Bool.and_false])
        · refine Ev.neg (fun h => h1 (c1.1 h)) ?_
          exact keep (by rw [decide_eq_false h1, Bool.and_false, Bool.false_and])
      · refine Ev.neg hj ?_
        exact keep (by rw [Bool.eq_false_iff.2 hj, Bool.false_and, Bool.false_and])
    · rw [if_neg hsi, Bool.eq_false_iff.2 hsi] at ih
      rw [if_neg hsi] at hcs
      rw [hcs]
      simpa using ih
end Go.Proofs.Ytgdecbliegelmaa.Q
