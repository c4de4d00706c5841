/- Derivations: what both readers read, plain. -/
import Derived.Test.YtnnalcglfgapbaaGdB
set_option linter.unusedVariables false
set_option linter.unusedSectionVars false
set_option linter.unusedSimpArgs false
namespace Go.Proofs.Ytnnalcglfgapbaa.Z
open Go Go.RowKit Go.Proofs.Sy Go.Proofs
set_option maxRecDepth 100000
structure Bk_ (b : gBnf) : Prop where
  t : b.terms_.length ≤ 60
  s : b.nons_.length ≤ 100
  p : b.prods_.length ≤ 120
  l : ∀ p ∈ b.prods_, (b.terms_.length : Int) ≤ p.left_ ∧ p.left_ < (b.terms_.length : Int) + (b.nons_.length : Int)
  r : ∀ p ∈ b.prods_, p.right_.length ≤ 12
  y : ∀ p ∈ b.prods_, ∀ x ∈ p.right_, 0 ≤ x ∧ x < (b.terms_.length : Int) + (b.nons_.length : Int)
theorem Bk_.of {b : gBnf} (h : okB b = true) : Bk_ b := by
  simp only [okB, Bool.and_eq_true, decide_eq_true_eq, List.all_eq_true] at h
  obtain ⟨h1, h2, h3, h4, h5, h6, h7, h8, h9⟩ := h
  refine ⟨h1, h3, h6, fun p hp => ?_, fun p hp => ?_, fun p hp x hx => ?_⟩
  all_goals
    have := h9 p hp
    simp only [prodOK, Bool.and_eq_true, decide_eq_true_eq, List.all_eq_true, symOK] at this
  · exact this.1
  · exact this.2.1
  · exact this.2.2.2.2 x hx
def rdL (sp : Int → Int → Option (gpnode × Int)) (T : Int) : List Int → Int → Option (List (Option gpnode) × Int)
  | [], a => some ([], a)
  | x :: r, a => bif decide (x ≥ T) then (sp a x).bind fun k => (rdL sp T r k.2).bind fun ks => some (some k.1 :: ks.1, ks.2)
    else (rdL sp T r a).bind fun ks => some (none :: ks.1, ks.2)
def rd (b : gBnf) (d : List Int) : Nat → Int → Int → Option (gpnode × Int)
  | 0, _, _ => none
  | f + 1, a, s => (ix d a).bind fun x => (ix b.prods_ x).bind fun p => bif p.left_ == s then (rdL (rd b d f) b.terms_.length p.right_ (a + 1)).bind fun ks => some (⟨x, ks.1⟩, ks.2) else none
/-- What the program's reader gives. -/
def AnsI (b : gBnf) (d : List Int) (a : Int) (m : Option (Ou (Option gpnode × gdread))) : Option (gpnode × Int) → Prop
  | some k => m = some (.ok (some k.1, gdread.mk b d k.2)) ∧ a < k.2 ∧ k.2 ≤ (d.length : Int)
  | none => ∃ e, m = some (.pan e)
theorem nonIL {b : gBnf} {d : List Int} (hd : d.length ≤ 1048576) (self : gdread → Int → Option (Ou (Option gpnode × gdread))) (sp : Int → Int → Option (gpnode × Int)) (lo : Int) (hlo : 0 ≤ lo)
    (hself : ∀ a s, lo ≤ a → a ≤ (d.length : Int) → AnsI b d a (self (gdread.mk b d a) s) (sp a s)) (x0 : Int) (p : gProd) (hp : p.right_.length ≤ 12) :
    ∀ (r pre : List Int) (k : Nat) (a : Int) (acc : List (Option gpnode)), p.right_ = pre ++ r → r.length < k → lo ≤ a → a ≤ (d.length : Int) → acc.length = pre.length →
      match rdL sp b.terms_.length r a with
      | some ks => m_impl_dread_non_l10 self x0 p k (pre.length : Int) (gdread.mk b d a) acc = some (.ok (some (gpnode.mk x0 (acc ++ ks.1)), gdread.mk b d ks.2)) ∧ a ≤ ks.2 ∧ ks.2 ≤ (d.length : Int)
      | none => ∃ e, m_impl_dread_non_l10 self x0 p k (pre.length : Int) (gdread.mk b d a) acc = some (.pan e)
  | [], pre, k, a, acc, h, hk, h1, h2, h3 => by
    obtain ⟨k, rfl⟩ : ∃ m, k = m + 1 := ⟨k - 1, by simp at hk; omega⟩
    have e : p.right_.length = pre.length := by rw [h]; simp
    rw [m_impl_dread_non_l10, List.length_map, decide_eq_false (by omega)]
    simp only [rdL, List.append_nil]
    exact ⟨rfl, by omega, h2⟩
  | x :: r, pre, k, a, acc, h, hk, h1, h2, h3 => by
    obtain ⟨k, rfl⟩ : ∃ m, k = m + 1 := ⟨k - 1, by simp at hk; omega⟩
    have e : p.right_.length = pre.length + (r.length + 1) := by rw [h]; simp
    have ei : ix p.right_ (pre.length : Int) = some x := by rw [h, ixp]
    rw [m_impl_dread_non_l10, List.length_map, decide_eq_true (by omega)]
    simp only [cond_true, ei, Option.bind_some, List.length_map, rdL]
    have hg : ∀ (o : Option gpnode), acc.length + ([o] : List (Option gpnode)).length ≤ 68719476736 := fun o => by simp; omega
    cases hx : decide (x ≥ (b.terms_.length : Int)) with
    | false =>
      simp only [cond_false, m_impl_dread_non_j11, gp_pos (hg none), wln pre x (by omega)]
      have := nonIL hd self sp lo hlo hself x0 p hp r (pre ++ [x]) k a (acc ++ [none]) (by rw [h]; simp) (by simp at hk; omega) h1 h2 (by simp [h3])
      cases hr : rdL sp b.terms_.length r a with
      | none => rw [hr] at this; exact this
      | some ks => rw [hr] at this; simpa using this
    | true =>
      simp only [cond_true]
      have hs := hself a x h1 h2
      cases hq : sp a x with
      | none =>
        rw [hq] at hs
        obtain ⟨er, he⟩ := hs
        rw [he]
        exact ⟨er, rfl⟩
      | some q =>
        rw [hq] at hs
        obtain ⟨he, ha1, ha2⟩ := hs
        rw [he]
        simp only [Option.bind_some, Ou.el, m_impl_dread_non_j11, gp_pos (hg _), wln pre x (by omega)]
        have := nonIL hd self sp lo hlo hself x0 p hp r (pre ++ [x]) k q.2 (acc ++ [some q.1]) (by rw [h]; simp) (by simp at hk; omega) (by omega) ha2 (by simp [h3])
        cases hr : rdL sp b.terms_.length r q.2 with
        | none => rw [hr] at this; exact this
        | some ks =>
          rw [hr] at this
          simp only [List.append_assoc, List.singleton_append] at this
          exact ⟨this.1, by omega, this.2.2⟩
theorem nonI {b : gBnf} (hb : Bk_ b) {d : List Int} (hd : d.length ≤ 1048576) : ∀ (f n : Nat) (a s : Int), f + 20 ≤ n → 0 ≤ a → a ≤ (d.length : Int) → (d.length : Int) - a < f → AnsI b d a (m_impl_dread_non n (gdread.mk b d a) s) (rd b d f a s)
  | 0, n, a, s, hn, h0, h1, h2 => by omega
  | f + 1, n, a, s, hn, h0, h1, h2 => by
    obtain ⟨n, rfl⟩ : ∃ m, n = m + 1 := ⟨n - 1, by omega⟩
    have pan : ∀ e, m_impl_dread_non_j2 (m_impl_dread_non n) n (gdread.mk b d a) true = some (.pan e) ∨ True := fun _ => .inr trivial
    rw [m_impl_dread_non, rd, List.length_map]
    by_cases g : a ≥ (d.length : Int)
    · rw [decide_eq_true g]
      have : ix d a = none := by
        cases h : ix d a with
        | none => rfl
        | some y => have := ixr h; omega
      rw [this]
      exact ⟨_, rfl⟩
    · rw [decide_eq_false g]
      obtain ⟨x, ex, _⟩ := ix_lt (l := d) h0 (by omega)
      simp only [cond_false, ex, Option.bind_some, List.length_map]
      by_cases g1 : x < 0
      · rw [decide_eq_true g1]
        have : ix b.prods_ x = none := by
          cases h : ix b.prods_ x with
          | none => rfl
          | some y => have := ixr h; omega
        rw [this]
        exact ⟨_, rfl⟩
      · rw [decide_eq_false g1]
        by_cases g2 : x ≥ (b.prods_.length : Int)
        · simp only [cond_false]
          rw [decide_eq_true g2]
          have : ix b.prods_ x = none := by
            cases h : ix b.prods_ x with
            | none => rfl
            | some y => have := ixr h; omega
          rw [this]
          exact ⟨_, rfl⟩
        · obtain ⟨p, ep, hp⟩ := ix_lt (l := b.prods_) (i := x) (by omega) (by omega)
          simp only [cond_false]
          rw [decide_eq_false g2]
          simp only [cond_false, ep, Option.bind_some]
          by_cases g3 : p.left_ = s
          · have e1 : (p.left_ != s) = false := by simp [g3]
            have e2 : (p.left_ == s) = true := by simp [g3]
            have w : wr .i64 (a + 1) = a + 1 := wid (by omega)
            rw [e1, e2, m_impl_dread_non_j2]
            simp only [cond_false, cond_true, ex, ep, Option.bind_some, w]
            have := nonIL hd (m_impl_dread_non n) (rd b d f) (a + 1) (by omega) (fun a' s' h1' h2' => nonI hb hd f n a' s' (by omega) (by omega) h2' (by omega)) x p (hb.r p hp) p.right_ [] n (a + 1) [] rfl (by have := hb.r p hp; omega) (by omega) (by omega) rfl
            cases hr : rdL (rd b d f) b.terms_.length p.right_ (a + 1) with
            | none => rw [hr] at this; exact this
            | some ks =>
              rw [hr] at this
              exact ⟨by simpa using this.1, by show a < ks.2; omega, this.2.2⟩
          · have e1 : (p.left_ != s) = true := by simp [g3]
            have e2 : (p.left_ == s) = false := by simp [g3]
            rw [e1, e2]
            exact ⟨_, rfl⟩
mutual
def conv : gpnode → gl06Deriv
  | ⟨x, ks⟩ => ⟨x, convL ks⟩
def convO : Option gpnode → List gl06Deriv
  | none => []
  | some k => [conv k]
def convL : List (Option gpnode) → List gl06Deriv
  | [] => []
  | o :: r => convO o ++ convL r
end
theorem convL_app : ∀ l r : List (Option gpnode), convL (l ++ r) = convL l ++ convL r
  | [], r => rfl
  | o :: l, r => by simp only [List.cons_append, convL, convL_app l r, List.append_assoc]
theorem convL_len : ∀ l : List (Option gpnode), (convL l).length ≤ l.length
  | [] => by simp [convL]
  | o :: l => by
    have := convL_len l
    cases o <;> simp [convL, convO] <;> omega
/-- What the reference's reader gives. -/
def AnsS (b : gBnf) (d : List Int) (a : Int) (m : Option (gl06Deriv × gl06Reader)) : Option (gpnode × Int) → Prop
  | some k => m = some (conv k.1, gl06Reader.mk b d k.2 false) ∧ a < k.2 ∧ k.2 ≤ (d.length : Int)
  | none => ∃ t q, m = some (t, q) ∧ q.bad_ = true
theorem nonSL {b : gBnf} (hb : Bk_ b) {d : List Int} (hd : d.length ≤ 1048576) (self : gl06Reader → Int → Option (gl06Deriv × gl06Reader)) (n : Nat) (sp : Int → Int → Option (gpnode × Int)) (lo : Int) (hlo : 0 ≤ lo)
    (hself : ∀ a s, lo ≤ a → a ≤ (d.length : Int) → AnsS b d a (self (gl06Reader.mk b d a false) (s - b.terms_.length)) (sp a s)) (x0 : Int) (p : gProd) (hp : p ∈ b.prods_) :
    ∀ (r pre : List Int) (k : Nat) (a : Int) (acc : List gl06Deriv), p.right_ = pre ++ r → r.length + 1 < k → lo ≤ a → a ≤ (d.length : Int) → acc.length ≤ pre.length →
      match rdL sp b.terms_.length r a with
      | some ks => m_spec_l06Reader_non_l10 self n x0 p k (pre.length : Int) (gl06Reader.mk b d a false) acc = some (gl06Deriv.mk x0 (acc ++ convL ks.1), gl06Reader.mk b d ks.2 false) ∧ a ≤ ks.2 ∧ ks.2 ≤ (d.length : Int)
      | none => ∃ t q, m_spec_l06Reader_non_l10 self n x0 p k (pre.length : Int) (gl06Reader.mk b d a false) acc = some (t, q) ∧ q.bad_ = true
  | [], pre, k, a, acc, h, hk, h1, h2, h3 => by
    obtain ⟨k, rfl⟩ : ∃ m, k = m + 1 := ⟨k - 1, by simp at hk; omega⟩
    have e : p.right_.length = pre.length := by rw [h]; simp
    rw [m_spec_l06Reader_non_l10, List.length_map, decide_eq_false (by omega)]
    simp only [rdL, convL, List.append_nil]
    exact ⟨rfl, by omega, h2⟩
  | x :: r, pre, k, a, acc, h, hk, h1, h2, h3 => by
    obtain ⟨k, rfl⟩ : ∃ m, k = m + 1 := ⟨k - 1, by simp at hk; omega⟩
    have e : p.right_.length = pre.length + (r.length + 1) := by rw [h]; simp
    have e12 := hb.r p hp
    have ei : ix p.right_ (pre.length : Int) = some x := by rw [h, ixp]
    have hxr := hb.y p hp x (by rw [h]; simp)
    have hT := hb.t
    have hN := hb.s
    rw [m_spec_l06Reader_non_l10, List.length_map, decide_eq_true (by omega)]
    simp only [cond_true, Bool.not_false, ei, Option.bind_some, m_spec_l04Non, List.length_map, rdL]
    rw [wid (n := x - (b.terms_.length : Int)) (by omega)]
    have hg : ∀ (o : gl06Deriv), acc.length + ([o] : List gl06Deriv).length ≤ 68719476736 := fun o => by simp; omega
    rw [show decide (x - (b.terms_.length : Int) ≥ 0) = decide (x ≥ (b.terms_.length : Int)) from decide_eq_decide.mpr (by omega)]
    cases hx : decide (x ≥ (b.terms_.length : Int)) with
    | false =>
      simp only [cond_false, m_spec_l06Reader_non_j11, wln pre x (by omega)]
      have := nonSL hb hd self n sp lo hlo hself x0 p hp r (pre ++ [x]) k a acc (by rw [h]; simp) (by simp at hk; omega) h1 h2 (by simp; omega)
      cases hr : rdL sp b.terms_.length r a with
      | none => rw [hr] at this; exact this
      | some ks => rw [hr] at this; simpa [convL, convO] using this
    | true =>
      simp only [cond_true]
      have hs := hself a x h1 h2
      cases hq : sp a x with
      | none =>
        rw [hq] at hs
        obtain ⟨t, q, he, hbad⟩ := hs
        rw [he]
        simp only [Option.bind_some, gp_pos (hg t), m_spec_l06Reader_non_j11, wln pre x (by omega)]
        obtain ⟨k, rfl⟩ : ∃ m, k = m + 1 := ⟨k - 1, by simp at hk; omega⟩
        rw [m_spec_l06Reader_non_l10, hbad]
        cases decide (((pre ++ [x]).length : Int) < ((p.right_.map I).length : Int)) <;> exact ⟨_, _, rfl, hbad⟩
      | some q =>
        rw [hq] at hs
        obtain ⟨he, ha1, ha2⟩ := hs
        rw [he]
        simp only [Option.bind_some, gp_pos (hg _), m_spec_l06Reader_non_j11, wln pre x (by omega)]
        have := nonSL hb hd self n sp lo hlo hself x0 p hp r (pre ++ [x]) k q.2 (acc ++ [conv q.1]) (by rw [h]; simp) (by simp at hk; omega) (by omega) ha2 (by simp; omega)
        cases hr : rdL sp b.terms_.length r q.2 with
        | none => rw [hr] at this; exact this
        | some ks =>
          rw [hr] at this
          simp only [List.append_assoc, List.singleton_append] at this
          exact ⟨this.1, by omega, this.2.2⟩
theorem nonS {b : gBnf} (hb : Bk_ b) {d : List Int} (hd : d.length ≤ 1048576) : ∀ (f n : Nat) (a s : Int), f + 20 ≤ n → 0 ≤ a → a ≤ (d.length : Int) → (d.length : Int) - a < f → AnsS b d a (m_spec_l06Reader_non n (gl06Reader.mk b d a false) (s - b.terms_.length)) (rd b d f a s)
  | 0, n, a, s, hn, h0, h1, h2 => by omega
  | f + 1, n, a, s, hn, h0, h1, h2 => by
    obtain ⟨n, rfl⟩ : ∃ m, n = m + 1 := ⟨n - 1, by omega⟩
    have hP := hb.p
    have hT := hb.t
    have hN := hb.s
    rw [m_spec_l06Reader_non, rd, List.length_map]
    simp only [cond_false]
    by_cases g : a ≥ (d.length : Int)
    · rw [decide_eq_true g]
      have : ix d a = none := by
        cases h : ix d a with
        | none => rfl
        | some y => have := ixr h; omega
      rw [this]
      exact ⟨_, _, rfl, rfl⟩
    · rw [decide_eq_false g]
      obtain ⟨x, ex, _⟩ := ix_lt (l := d) h0 (by omega)
      simp only [cond_false, ex, Option.bind_some, List.length_map, btw]
      rw [wid (n := (b.prods_.length : Int) - 1) (by omega)]
      by_cases g2 : 0 ≤ x ∧ x ≤ (b.prods_.length : Int) - 1
      · obtain ⟨p, ep, hp⟩ := ix_lt (l := b.prods_) (i := x) (by omega) (by omega)
        have hl := hb.l p hp
        rw [decide_eq_true g2.1, decide_eq_true g2.2]
        simp only [Bool.and_self, Bool.not_true, cond_false, ep, Option.bind_some, m_spec_l04Non, List.length_map]
        rw [wid (n := p.left_ - (b.terms_.length : Int)) (by omega)]
        by_cases g3 : p.left_ = s
        · have e1 : (p.left_ - (b.terms_.length : Int) != s - (b.terms_.length : Int)) = false := by simp [g3]
          have e2 : (p.left_ == s) = true := by simp [g3]
          have w : wr .i64 (a + 1) = a + 1 := wid (by omega)
          rw [e1, e2, m_spec_l06Reader_non_j2]
          simp only [cond_false, cond_true, ex, ep, Option.bind_some, w]
          have := nonSL hb hd (m_spec_l06Reader_non n) n (rd b d f) (a + 1) (by omega) (fun a' s' h1' h2' => nonS hb hd f n a' s' (by omega) (by omega) h2' (by omega)) x p hp p.right_ [] n (a + 1) [] rfl (by have := hb.r p hp; omega) (by omega) (by omega) (by simp)
          cases hr : rdL (rd b d f) b.terms_.length p.right_ (a + 1) with
          | none => rw [hr] at this; exact this
          | some ks =>
            rw [hr] at this
            exact ⟨by simpa [conv] using this.1, by show a < ks.2; omega, this.2.2⟩
        · have e1 : (p.left_ - (b.terms_.length : Int) != s - (b.terms_.length : Int)) = true := by simp; omega
          have e2 : (p.left_ == s) = false := by simp [g3]
          rw [e1, e2]
          exact ⟨_, _, rfl, rfl⟩
      · have e : (!(decide (0 ≤ x) && decide (x ≤ (b.prods_.length : Int) - 1))) = true := by simp; omega
        have : ix b.prods_ x = none := by
          cases h : ix b.prods_ x with
          | none => rfl
          | some y => have := ixr h; omega
        rw [e, this]
        exact ⟨_, _, rfl, rfl⟩
end Go.Proofs.Ytnnalcglfgapbaa.Z
