/- Trees: names and characters. -/
import Derived.Test.YtnnalcglfgapbaaSyL
import Derived.Test.YtnnalcglfgapbaaProg
set_option linter.unusedVariables false
set_option linter.unusedSimpArgs false
namespace Go.Proofs.Ytnnalcglfgapbaa.Z
open Go Go.RowKit Go.Proofs.Sy Go.Proofs

def isLetter (b : Int) : Bool := (decide (97 ≤ b) && decide (b ≤ 122)) || (decide (65 ≤ b) && decide (b ≤ 90))
def isDigit (b : Int) : Bool := decide (48 ≤ b) && decide (b ≤ 57)
abbrev U8 (b : Int) : PV := .raw (.int .u8 b)
set_option maxRecDepth 100000
theorem sLetter (b : Int) : FnP Try.prog 98 [U8 b] [B (isLetter b)] := by
  refine fn_intro Try.func98 rfl rfl rfl ?_
  repeat' (refine And.intro (fun c => ?_) (fun c => ?_) <;> first | exact absurd c (by decide) | skip)
  all_goals refine ⟨[], ⟨trivial, rfl⟩, congrArg (fun x => [AV.p (B x)]) ?_, rfl⟩
  all_goals simp_all [isLetter] <;> omega
theorem w64 {n : Int} (h : -9223372036854775808 ≤ n ∧ n ≤ 9223372036854775807) : wrap64 n = n := by unfold wrap64; omega
def inName (b : Int) : Bool := isLetter b || isDigit b || (b == 95)
theorem sDigit (b : Int) : FnP Try.prog 123 [U8 b] [B (isDigit b)] := by
  refine fn_intro Try.func123 rfl rfl rfl ?_
  repeat' (refine And.intro (fun c => ?_) (fun c => ?_) <;> first | exact absurd c (by decide) | skip)
  all_goals refine ⟨[], ⟨trivial, rfl⟩, congrArg (fun x => [AV.p (B x)]) ?_, rfl⟩
  all_goals simp_all [isDigit] <;> omega
theorem sNameByte (b : Int) : FnP Try.prog 99 [U8 b] [B (inName b)] := by
  refine fn_intro Try.func99 rfl rfl rfl ?_
  repeat' first
    | (refine And.intro (fun c => ?_) (fun c => ?_) <;> first | exact absurd c (by decide) | skip)
    | refine callA (sLetter _) ?_
    | refine callA (sDigit _) ?_
  all_goals refine ⟨[], ⟨trivial, rfl⟩, congrArg (fun x => [AV.p (B x)]) ?_, rfl⟩
  all_goals grind [inName]
/-- All bytes from i on. -/
def allFrom (p : Int → Bool) (s : ByteArray) (i : Int) : Bool := (s.data.toList.drop i.toNat).all fun b => p b.toNat
theorem allFrom_end {p : Int → Bool} {s : ByteArray} {i : Int} (h : (s.size : Int) ≤ i) : allFrom p s i = true := by
  have e : s.size = s.data.toList.length := by rw [Array.length_toList]; rfl
  unfold allFrom
  rw [List.drop_eq_nil_of_le (by omega)]; rfl
theorem allFrom_step {p : Int → Bool} {s : ByteArray} {i : Int} (h0 : 0 ≤ i) (h : i < s.size) : allFrom p s i = (p (bt s i) && allFrom p s (i + 1)) := by
  have e : s.size = s.data.toList.length := by rw [Array.length_toList]; rfl
  have hlt : i.toNat < s.size := by omega
  unfold allFrom bt
  rw [List.drop_eq_getElem_cons (by omega), dif_pos hlt, show (i + 1).toNat = i.toNat + 1 by omega]
  rfl
def nameOK (s : ByteArray) : Bool := decide (1 ≤ s.size) && decide (s.size ≤ 24) && isLetter (bt s 0) && allFrom inName s 1
theorem sName (s : ByteArray) : FnP Try.prog 55 [S s] [B (nameOK s)] := by
  refine fn_intro Try.func55 rfl rfl rfl ?_
  repeat' first
    | (refine And.intro (fun c => ?_) (fun c => ?_) <;> first | exact absurd c (by decide) | (simp only [decide_eq_true_eq, decide_eq_false_iff_not] at c) | skip)
    | refine And.intro (show 0 ≤ (0 : Int) ∧ 0 < (s.size : Int) by omega) ?_
    | refine callA (sLetter _) ?_
    | (refine ⟨([] : Sto), ⟨trivial, rfl⟩, congrArg (fun x => [AV.p (B x)]) ?_, rfl⟩; grind [nameOK])
  all_goals
    refine ⟨Int, fun i => ([(0, .p (S s)), (3, .p (I i))], []), fun i n => 0 ≤ i ∧ i ≤ s.size ∧ n = (s.size - i).toNat ∧ allFrom inName s i = nameOK s, ⟨1, _, ⟨by omega, by omega, rfl, by grind [nameOK]⟩, [], ⟨rfl, rfl, trivial⟩, trivial, rfl⟩, ?_⟩
    rintro i n ⟨h0, h1, rfl, hr⟩
    refine And.intro (fun c => ?_) (fun c => ?_) <;> simp only [decide_eq_true_eq, decide_eq_false_iff_not] at c
    · refine And.intro ⟨h0, c⟩ (callA (sNameByte _) ?_)
      rw [allFrom_step h0 c] at hr
      refine And.intro (fun c2 => ?_) (fun c2 => ?_)
      · exact ⟨[], ⟨trivial, rfl⟩, congrArg (fun x => [AV.p (B x)]) (by grind), rfl⟩
      · exact ⟨i + 1, _, ⟨by omega, by omega, rfl, by grind⟩, by omega, [], ⟨rfl, congrArg (fun x => AV.p (I x)) (w64 (by omega)).symm, trivial⟩, trivial, rfl⟩
    · rw [allFrom_end (by omega)] at hr
      exact ⟨[], ⟨trivial, rfl⟩, congrArg (fun x => [AV.p (B x)]) hr, rfl⟩
end Go.Proofs.Ytnnalcglfgapbaa.Z
