/- ProgramShow: both sides give the same; the law. -/
import Derived.Test.YtnnalcglfgapbaaDoorPsD
set_option linter.unusedVariables false
set_option linter.unusedSectionVars false
set_option linter.unusedSimpArgs false
namespace Go.Proofs.YtnnalcglfgapbaaDoor.Z
open Go Go.RowKit Go.Proofs.Sy Go.Proofs
set_option maxRecDepth 100000
def txt (p : List gIns) : List UInt8 := p.flatMap fun x => line x ++ [10]
theorem txt_snoc (p : List gIns) (x : gIns) : txt (p ++ [x]) = (txt p ++ line x) ++ [10] := by simp [txt]
theorem txt_len : ∀ (p : List gIns), (∀ x ∈ p, Lo x) → (txt p).length ≤ 19 * p.length
  | [], _ => by simp [txt]
  | x :: p, h => by
    have h1 := txt_len p (fun y hy => h y (by simp [hy]))
    have h2 := line_len (h x (by simp))
    have e : txt (x :: p) = (line x ++ [10]) ++ txt p := by simp [txt]
    rw [e, List.length_append, List.length_append, List.length_singleton, List.length_cons]
    omega
theorem loop_st {α σ R : Type} (L : List α) (st : List α → σ) (lp : Nat → Int → σ → Option R) (fin : Option R)
    (hs : ∀ k pre x r, L = pre ++ x :: r → lp (k + 1) (pre.length : Int) (st pre) = lp k ((pre ++ [x]).length : Int) (st (pre ++ [x])))
    (he : ∀ k, lp (k + 1) (L.length : Int) (st L) = fin) : ∀ (r pre : List α) (k : Nat), L = pre ++ r → r.length < k → lp k (pre.length : Int) (st pre) = fin
  | [], pre, k, h, hk => by
    obtain ⟨k, rfl⟩ : ∃ m, k = m + 1 := ⟨k - 1, by simp at hk; omega⟩
    have : pre = L := by simpa using h.symm
    subst this
    exact he k
  | x :: r, pre, k, h, hk => by
    obtain ⟨k, rfl⟩ : ∃ m, k = m + 1 := ⟨k - 1, by simp at hk; omega⟩
    rw [hs k pre x r h]
    exact loop_st L st lp fin hs he r (pre ++ [x]) k (by rw [h]; simp) (by simp at hk; omega)
theorem preLo {p pre r : List gIns} {x : gIns} (hp : ∀ x ∈ p, Lo x) (h : p = pre ++ x :: r) : Lo x ∧ (∀ y ∈ pre, Lo y) ∧ p.length = pre.length + (r.length + 1) :=
  ⟨hp x (by rw [h]; simp), fun y hy => hp y (by rw [h]; simp [hy]), by rw [h]; simp⟩
theorem showLS {n : Nat} (hn : 100000 ≤ n) {p : List gIns} (hp : ∀ x ∈ p, Lo x) (hl : p.length ≤ 50000) : m_spec_ProgramShow_l3 n p n 0 [] = m_spec_ProgramShow_j2 (txt p) := by
  refine loop_st p txt (m_spec_ProgramShow_l3 n p) _ (fun k pre x r h => ?_) (fun k => ?_) p [] n rfl (by omega)
  · obtain ⟨hx, hpre, hl2⟩ := preLo hp h
    have h1 := txt_len pre hpre
    have h2 := line_len hx
    have ei : ix p (pre.length : Int) = some x := by rw [h, ixp]
    rw [m_spec_ProgramShow_l3, List.length_map, decide_eq_true (by omega), cond_true, ei, Option.bind_some, lineS hn hx, Option.bind_some, ofL_data, gp_pos (by omega), gp_pos (by rw [List.length_append, List.length_singleton]; omega), wln pre x (by omega), txt_snoc]
  · rw [m_spec_ProgramShow_l3, List.length_map, decide_eq_false (by omega), cond_false]
theorem hasN_I (n : Nat) (a : Int) : m_impl_hasN n a = some (hN a) := by
  unfold m_impl_hasN hN
  simp only [cE, cD]
  grind
theorem jumps_I (n : Nat) (a : Int) : m_impl_jumps n a = some (hT a) := by
  unfold m_impl_jumps m_impl_ifs hT
  simp only [cE, cD]
  by_cases h5 : a = 5
  · subst h5; rfl
  by_cases h6 : a = 6
  · subst h6; rfl
  by_cases h7 : a = 7
  · subst h7; rfl
  by_cases h8 : a = 8
  · subst h8; rfl
  rw [if_neg h5, if_neg h6, if_neg h7, Option.bind_some, beq_eq_false_iff_ne.mpr h8, decide_eq_false (by omega)]
theorem itoa_I (n : Nat) {z : Int} (h : 0 ≤ z ∧ z ≤ 50000) : m_impl_itoa n z = some (ofL (Lib.decDigits z.toNat)) := by
  unfold m_impl_itoa m_strconv_Itoa
  rw [gp_pos (by omega), Option.bind_some]
  unfold itoaB Lib.itoa
  rw [if_neg (by omega)]; rfl
theorem g3 {l ds : List UInt8} (hl : l.length ≤ 1000000000) (hd : ds.length ≤ 100) : ((1 + (ofL ds).size : Nat) : Int) ≤ 9223372036854775807 ∧ l.length + ((⟨#[32]⟩ : ByteArray) ++ ofL ds).size ≤ 10000000000000 := by
  rw [ByteArray.size_append, ofL_size, s32]; omega
theorem ap3 (l ds : List UInt8) : l ++ ((⟨#[32]⟩ : ByteArray) ++ ofL ds).data.toList = l ++ 32 :: ds := by
  rw [sp32, ofL_app, ofL_data]; rfl
theorem psN_ok (n : Nat) {x : gIns} (h : Lo x) {l : List UInt8} (hl : l.length ≤ 1000000000) : psN n x l = some (l ++ nT x) := by
  have hd := dec_len 3 x.n_.toNat (by have := h.n; omega)
  unfold psN nT
  rw [hasN_I, Option.bind_some]
  cases hN x.op_ with
  | false => rw [cond_false, cond_false, List.append_nil]
  | true => rw [cond_true, cond_true, itoa_I n (by have := h.n; omega), Option.bind_some, gp_pos (g3 hl (by omega)), ap3]
theorem psT_ok (n : Nat) {x : gIns} (h : Lo x) {l : List UInt8} (hl : l.length ≤ 1000000000) : psT n x l = some (l ++ tT x) := by
  have hd := dec_len 4 x.to_.toNat (by have := h.t; omega)
  unfold psT tT
  rw [jumps_I, Option.bind_some]
  cases hT x.op_ with
  | false => rw [cond_false, cond_false, List.append_nil]
  | true => rw [cond_true, cond_true, itoa_I n h.t, Option.bind_some, gp_pos (g3 hl (by omega)), ap3]
theorem showLI {n : Nat} (hn : 100000 ≤ n) {p : List gIns} (hp : ∀ x ∈ p, Lo x) (hl : p.length ≤ 50000) : psLoop n p n 0 [] = some (txt p) := by
  refine loop_st p txt (psLoop n p) _ (fun k pre x r h => ?_) (fun k => ?_) p [] n rfl (by omega)
  · obtain ⟨hx, hpre, hl2⟩ := preLo hp h
    have h1 := txt_len pre hpre
    have h2 := line_len hx
    have h3 := (wd_ok hx.op).2
    have h4 := nT_len hx
    have h5 := tT_len hx
    have ei : ix p (pre.length : Int) = some x := by rw [h, ixp]
    rw [psLoop, List.length_map, decide_eq_true (by omega), cond_true, ei, Option.bind_some, words_I, Option.bind_some, (wd_ok hx.op).1, Option.bind_some, ofL_data, ofL_size, gp_pos (by omega),
      psN_ok n hx (by rw [List.length_append]; omega), Option.bind_some, psT_ok n hx (by rw [List.length_append, List.length_append]; omega), Option.bind_some, gp_pos (by simp only [List.length_append]; omega), wln pre x (by omega), txt_snoc]
    unfold line
    simp only [List.append_assoc]
  · rw [psLoop, List.length_map, decide_eq_false (by omega), cond_false]
theorem show_both {n : Nat} (hn : 100000 ≤ n) (p : List gIns) : ∃ r, m_spec_ProgramShow n p = some r ∧ m_impl_ProgramShow n p = some r := by
  unfold m_spec_ProgramShow m_impl_ProgramShow
  rw [okp_S hn, okp_I hn, Option.bind_some, Option.bind_some]
  cases hok : okP p with
  | false => exact ⟨_, rfl, rfl⟩
  | true =>
    unfold okP at hok
    simp only [Bool.and_eq_true, decide_eq_true_eq] at hok
    obtain ⟨⟨h1, h2⟩, h3, _⟩ := hok
    have hp : ∀ x ∈ p, Lo x := fun x hx => Lo.of (List.all_eq_true.mp h3 x hx) (by omega)
    have hlen := txt_len p hp
    have hne : txt p ≠ [] := by
      cases p with
      | nil => simp at h1
      | cons x p => simp [txt]
    rw [Bool.not_true, cond_false, cond_false, showLS hn hp h2, showLI hn hp h2, Option.bind_some, gp_pos ⟨hne, by omega⟩]
    unfold m_spec_ProgramShow_j2
    cases decide (((txt p).length : Int) > 400000) with
    | true => exact ⟨_, rfl, rfl⟩
    | false => exact ⟨_, rfl, rfl⟩
end Go.Proofs.YtnnalcglfgapbaaDoor.Z
