/- ProgramShow of both sides, plain. -/
import Derived.Test.YtnnalcglfgapbaaDoorQsC
set_option linter.unusedVariables false
set_option linter.unusedSectionVars false
set_option linter.unusedSimpArgs false
namespace Go.Proofs.YtnnalcglfgapbaaDoor.Z
open Go Go.RowKit Go.Proofs.Sy Go.Proofs
set_option maxRecDepth 100000
theorem ofL_app (a b : List UInt8) : ofL a ++ ofL b = ofL (a ++ b) := by
  apply ByteArray.ext
  simp [ofL]
theorem ofL_size (a : List UInt8) : (ofL a).size = a.length := by show a.toArray.size = _; simp
theorem ofL_data (a : List UInt8) : (ofL a).data.toList = a := rfl
theorem ofL_of (s : ByteArray) : ofL s.data.toList = s := rfl
theorem sp32 : (⟨#[32]⟩ : ByteArray) = ofL [32] := rfl
def WL : List ByteArray := [⟨#[]⟩, ⟨#[112, 117, 115, 104]⟩, ⟨#[100, 114, 111, 112]⟩, ⟨#[116, 101, 108, 108]⟩, ⟨#[112, 97, 115, 115]⟩, ⟨#[106, 117, 109, 112]⟩, ⟨#[105, 102, 110, 101, 120, 116]⟩, ⟨#[105, 102, 101, 110, 100]⟩, ⟨#[105, 102, 116, 111, 112]⟩, ⟨#[100, 111, 110, 101]⟩, ⟨#[102, 97, 105, 108]⟩]
theorem words_I (n : Nat) : m_impl_insWords n = some WL := rfl
def wdL (a : Int) : List UInt8 := match ix WL a with
  | some s => s.data.toList
  | none => []
theorem wd_ok {a : Int} (h : 1 ≤ a ∧ a ≤ 10) : ix WL a = some (ofL (wdL a)) ∧ (wdL a).length ≤ 6 := by
  rcases ten h with rfl | rfl | rfl | rfl | rfl | rfl | rfl | rfl | rfl | rfl <;> exact ⟨rfl, by decide⟩
theorem wordS (n : Nat) {a : Int} (h : 1 ≤ a ∧ a ≤ 10) : m_spec_l17Word n a = some (ofL (wdL a)) := by
  unfold m_spec_l17Word
  show (ix WL a).bind _ = _
  rw [(wd_ok h).1]; rfl
def hN (a : Int) : Bool := decide (a ≤ 3 ∨ a = 6 ∨ a = 8 ∨ a = 10)
def hT (a : Int) : Bool := decide (5 ≤ a ∧ a ≤ 8)
def nT (x : gIns) : List UInt8 := bif hN x.op_ then 32 :: Lib.decDigits x.n_.toNat else []
def tT (x : gIns) : List UInt8 := bif hT x.op_ then 32 :: Lib.decDigits x.to_.toNat else []
def line (x : gIns) : List UInt8 := (wdL x.op_ ++ nT x) ++ tT x
structure Lo (x : gIns) : Prop where
  op : 1 ≤ x.op_ ∧ x.op_ ≤ 10
  n : 0 ≤ x.n_ ∧ x.n_ ≤ 999999
  t : 0 ≤ x.to_ ∧ x.to_ ≤ 999999
theorem Lo.of {x : gIns} {len : Int} (h : okI len x = true) (hl : len ≤ 50000) : Lo x := by
  unfold okI at h
  simp only [Bool.and_eq_true, decide_eq_true_eq] at h
  obtain ⟨h1, h2, h3⟩ := h
  refine ⟨h1, ?_, ?_⟩
  · split at h3
    · omega
    · split at h3 <;> omega
  · split at h2 <;> omega
theorem nT_len {x : gIns} (h : Lo x) : (nT x).length ≤ 7 := by
  unfold nT
  cases hN x.op_
  · simp
  · have := dec_len 5 x.n_.toNat (by have := h.n; omega)
    simp only [cond_true, List.length_cons]; omega
theorem tT_len {x : gIns} (h : Lo x) : (tT x).length ≤ 7 := by
  unfold tT
  cases hT x.op_
  · simp
  · have := dec_len 5 x.to_.toNat (by have := h.t; omega)
    simp only [cond_true, List.length_cons]; omega
theorem line_len {x : gIns} (h : Lo x) : (line x).length ≤ 20 := by
  have h1 := nT_len h
  have h2 := tT_len h
  have h3 := (wd_ok h.op).2
  unfold line
  simp only [List.length_append]; omega
theorem digS' {n : Nat} (hn : 100000 ≤ n) {z : Int} (h : 0 ≤ z ∧ z ≤ 999999) : m_spec_l01Digits n z = some (ofL (Lib.decDigits z.toNat)) := by
  have := digS 5 z.toNat n (by omega) (by omega) (by omega)
  rwa [show ((z.toNat : Nat) : Int) = z by omega] at this
theorem s32 : (⟨#[32]⟩ : ByteArray).size = 1 := rfl
theorem app32 (l ds : List UInt8) : (ofL l ++ (⟨#[32]⟩ : ByteArray)) ++ ofL ds = ofL (l ++ 32 :: ds) := by
  rw [sp32, ofL_app, ofL_app, List.append_assoc]; rfl
theorem g1 {l : List UInt8} (hl : l.length ≤ 100) : (((ofL l).size + (⟨#[32]⟩ : ByteArray).size : Nat) : Int) ≤ 9223372036854775807 := by rw [ofL_size, s32]; omega
theorem g2 {l ds : List UInt8} (hl : l.length ≤ 100) (hd : ds.length ≤ 100) : (((ofL l ++ (⟨#[32]⟩ : ByteArray)).size + (ofL ds).size : Nat) : Int) ≤ 9223372036854775807 := by rw [ByteArray.size_append, ofL_size, ofL_size, s32]; omega
theorem line2S {n : Nat} (hn : 100000 ≤ n) {x : gIns} (h : Lo x) (l : List UInt8) (hl : l.length ≤ 100) : m_spec_l17Line_j2 n x (ofL l) = some (ofL (l ++ tT x)) := by
  have hd := dec_len 5 x.to_.toNat (by have := h.t; omega)
  unfold m_spec_l17Line_j2 tT hT
  rw [hasToS, Option.bind_some]
  cases decide (5 ≤ x.op_ ∧ x.op_ ≤ 8) with
  | false => rw [cond_false, cond_false, List.append_nil]
  | true =>
    rw [cond_true, cond_true, gp_pos (g1 hl), digS' hn h.t, Option.bind_some, gp_pos (g2 hl (by omega)), app32]
theorem line3S {n : Nat} (hn : 100000 ≤ n) {x : gIns} (h : Lo x) : m_spec_l17Line_j3 n x (ofL (wdL x.op_)) (hN x.op_) = some (ofL (line x)) := by
  have hd := dec_len 5 x.n_.toNat (by have := h.n; omega)
  have hw := (wd_ok h.op).2
  unfold m_spec_l17Line_j3 line nT
  cases hN x.op_ with
  | false =>
    rw [cond_false, cond_false, List.append_nil]
    exact line2S hn h _ (by omega)
  | true =>
    rw [cond_true, cond_true, gp_pos (g1 (by omega)), digS' hn (by have := h.n; omega), Option.bind_some, gp_pos (g2 (by omega) (by omega)), app32]
    exact line2S hn h _ (by rw [List.length_append, List.length_cons]; omega)
theorem lineS {n : Nat} (hn : 100000 ≤ n) {x : gIns} (h : Lo x) : m_spec_l17Line n x = some (ofL (line x)) := by
  have e := line3S hn h
  have ho := h.op
  unfold m_spec_l17Line
  rw [wordS n h.op, Option.bind_some, hasNS, Option.bind_some]
  by_cases c : (1 ≤ x.op_ ∧ x.op_ ≤ 3) ∨ x.op_ = 6 ∨ x.op_ = 8
  · have : hN x.op_ = true := by unfold hN; exact decide_eq_true (by omega)
    rw [decide_eq_true c, cond_true, ← this, e]
  · have : hN x.op_ = (x.op_ == 10) := by
      unfold hN
      by_cases k : x.op_ = 10
      · rw [k]; rfl
      · rw [beq_eq_false_iff_ne.mpr k, decide_eq_false (by omega)]
    rw [decide_eq_false c, cond_false, ← this, e]
end Go.Proofs.YtnnalcglfgapbaaDoor.Z
