/- Terms: what is one. -/
import Derived.Test.YtegpjjnedbbpjaaTrX
set_option linter.unusedVariables false
set_option linter.unusedSimpArgs false
namespace Go.Proofs.Ytegpjjnedbbpjaa.Z
open Go Go.RowKit Go.Proofs.Sy Go.Proofs
set_option maxRecDepth 100000
def numOK (s : ByteArray) : Bool := decide (1 ≤ s.size) && decide (s.size ≤ 9) && !(decide (1 < s.size) && bt s 0 == 48) && allFrom isDigit s 0
theorem sBytes (s : ByteArray) (a b : Int) (hs : s.size ≤ 1099511627776) : FnP Try.prog 238 [S s, U8 a, U8 b] [B (allFrom (fun c => decide (a ≤ c) && decide (c ≤ b)) s 0)] := by
  refine fn_intro Try.func238 rfl rfl rfl ?_
  refine ⟨Int, fun i => ([(0, .p (S s)), (1, .p (U8 a)), (2, .p (U8 b)), (7, .p (I i))], []), fun i n => 0 ≤ i ∧ i ≤ s.size ∧ n = (s.size - i).toNat ∧ allFrom (fun c => decide (a ≤ c) && decide (c ≤ b)) s i = allFrom (fun c => decide (a ≤ c) && decide (c ≤ b)) s 0,
    ⟨0, _, ⟨by omega, by omega, rfl, rfl⟩, [], ⟨rfl, rfl, rfl, rfl, trivial⟩, trivial, rfl⟩, ?_⟩
  rintro i n ⟨h0, h1, rfl, hr⟩
  refine And.intro (fun ci => ?_) (fun ci => ?_) <;> simp only [decide_eq_true_eq, decide_eq_false_iff_not] at ci
  · rw [allFrom_step h0 ci] at hr
    repeat' first
      | refine And.intro ⟨h0, ci⟩ ?_
      | (refine And.intro (fun c => ?_) (fun c => ?_) <;> first | exact absurd c (by decide) | (cases c; done) | (simp only [decide_eq_true_eq, decide_eq_false_iff_not] at c) | skip)
      | fail
    all_goals first
      | exact ⟨i + 1, _, ⟨by omega, by omega, rfl, by grind⟩, by omega, [], ⟨rfl, rfl, rfl, congrArg (fun x => AV.p (I x)) (w64 (by omega)).symm, trivial⟩, trivial, rfl⟩
      | exact ⟨[], ⟨trivial, rfl⟩, congrArg (fun x => [AV.p (B x)]) (by grind), rfl⟩
      | fail
  · rw [allFrom_end (by omega)] at hr
    exact ⟨[], ⟨trivial, rfl⟩, congrArg (fun x => [AV.p (B x)]) hr, rfl⟩
theorem sNum (s : ByteArray) (hs : s.size ≤ 1099511627776) : FnP Try.prog 222 [S s] [B (numOK s)] := by
  refine fn_intro Try.func222 rfl rfl rfl ?_
  refine callA (sBetween _ 1 9) ?_
  have hf : (fun c : Int => decide (48 ≤ c) && decide (c ≤ 57)) = isDigit := by funext c; rfl
  repeat' first
    | refine And.intro (show 0 ≤ (0 : Int) ∧ 0 < (s.size : Int) by simp at *; omega) ?_
    | (refine And.intro (fun c => ?_) (fun c => ?_) <;> first | exact absurd c (by decide) | (cases c; done) | (simp only [decide_eq_true_eq, decide_eq_false_iff_not] at c) | skip)
    | refine callA (sBytes s 48 57 hs) ?_
    | fail
  all_goals exact ⟨[], ⟨trivial, rfl⟩, congrArg (fun x => [AV.p (B x)]) (by rw [numOK]; first | grind | (rw [← hf]; grind)), rfl⟩
theorem iNum (s : ByteArray) (hs : s.size ≤ 1099511627776) : FnP Try.prog 223 [S s] [B (numOK s)] := by
  refine fn_intro Try.func223 rfl rfl rfl ?_
  repeat' first
    | refine And.intro (show 0 ≤ (0 : Int) ∧ 0 < (s.size : Int) by omega) ?_
    | (refine And.intro (fun c => ?_) (fun c => ?_) <;> first | exact absurd c (by decide) | (cases c; done) | (simp only [decide_eq_true_eq, decide_eq_false_iff_not] at c) | skip)
    | fail
  all_goals first
    | exact ⟨[], ⟨trivial, rfl⟩, congrArg (fun x => [AV.p (B x)]) (by rw [numOK]; grind), rfl⟩
    | refine ⟨Int, fun i => ([(0, .p (S s)), (23, .p (I s.size)), (24, .p (I i))], []), fun i n => 0 ≤ i ∧ i ≤ s.size ∧ n = (s.size - i).toNat ∧ allFrom isDigit s i = numOK s,
      ⟨0, _, ⟨by omega, by omega, rfl, by rw [numOK]; grind⟩, [], ⟨rfl, rfl, rfl, trivial⟩, trivial, rfl⟩, ?_⟩
    | fail
  all_goals
    rintro i n ⟨h0, h1, rfl, hr⟩
    refine And.intro (fun ci => ?_) (fun ci => ?_) <;> simp only [decide_eq_true_eq, decide_eq_false_iff_not] at ci
    · rw [allFrom_step h0 ci] at hr
      refine And.intro ⟨h0, ci⟩ (callA (iDigit _) ?_)
      repeat' first | (refine And.intro (fun c => ?_) (fun c => ?_) <;> first | exact absurd c (by decide) | (cases c; done) | (simp only [decide_eq_true_eq, decide_eq_false_iff_not] at c) | skip) | fail
      all_goals first
        | exact ⟨i + 1, _, ⟨by omega, by omega, rfl, by grind⟩, by omega, [], ⟨rfl, rfl, congrArg (fun x => AV.p (I x)) (w64 (by omega)).symm, trivial⟩, trivial, rfl⟩
        | exact ⟨[], ⟨trivial, rfl⟩, congrArg (fun x => [AV.p (B x)]) (by grind), rfl⟩
        | fail
    · rw [allFrom_end (by omega)] at hr
      exact ⟨[], ⟨trivial, rfl⟩, congrArg (fun x => [AV.p (B x)]) hr, rfl⟩
def leafOK (t : Tree) (n : ByteArray) : Bool := t.lf && decide (t.nm = n) && (t.ks.length == 0)
theorem iLeafOK (t : Tree) (n : ByteArray) : FnP Try.prog 239 [t.enc, S n] [B (leafOK t n)] := by
  have hl : (encM t.ks).length = t.ks.length := encM_len _
  refine fn_intro Try.func239 rfl rfl rfl ?_
  repeat' first | (refine And.intro (fun c => ?_) (fun c => ?_) <;> first | exact absurd c (by decide) | (cases c; done) | (simp only [decide_eq_true_eq, decide_eq_false_iff_not] at c) | skip) | fail
  all_goals exact ⟨[], ⟨trivial, rfl⟩, congrArg (fun x => [AV.p (B x)]) (by rw [leafOK]; grind), rfl⟩
def isId (t : Tree) : Bool := leafOK t (⟨#[73, 100]⟩ : ByteArray) && nameOK t.tx
theorem iIsId (t : Tree) (hs : t.tx.size ≤ 1099511627776) : FnP Try.prog 224 [t.enc] [B (isId t)] := by
  refine fn_intro Try.func224 rfl rfl rfl ?_
  refine callA (iLeafOK t _) ?_
  repeat' first | (refine And.intro (fun c => ?_) (fun c => ?_) <;> first | exact absurd c (by decide) | (cases c; done) | (simp only [decide_eq_true_eq, decide_eq_false_iff_not] at c) | skip) | refine callA (iName _ hs) ?_ | fail
  all_goals exact ⟨[], ⟨trivial, rfl⟩, congrArg (fun x => [AV.p (B x)]) (by rw [isId]; grind), rfl⟩
def binds (t : Tree) : Bool := !t.lf && (decide (t.nm = (⟨#[76, 97, 109]⟩ : ByteArray)) || decide (t.nm = (⟨#[76, 101, 116]⟩ : ByteArray)))
theorem iBinds (t : Tree) : FnP Try.prog 188 [t.enc] [B (binds t)] := by
  refine fn_intro Try.func188 rfl rfl rfl ?_
  repeat' first | (refine And.intro (fun c => ?_) (fun c => ?_) <;> first | exact absurd c (by decide) | (cases c; done) | (simp only [decide_eq_true_eq, decide_eq_false_iff_not] at c) | skip) | fail
  all_goals exact ⟨[], ⟨trivial, rfl⟩, congrArg (fun x => [AV.p (B x)]) (by rw [binds]; grind), rfl⟩
theorem iInScope (t : Tree) (k : Int) (hw : wt t ≤ 1099511627776) : FnP Try.prog 189 [t.enc, I k] [B (binds t && (k == (t.ks.length : Int) - 1))] := by
  have hl : (encM t.ks).length = t.ks.length := encM_len _
  have hwl := wt_len t
  have hw1 : wr .i64 (((encM t.ks).length : Int) - 1) = (t.ks.length : Int) - 1 := (w64 (by omega)).trans (by omega)
  refine fn_intro Try.func189 rfl rfl rfl ?_
  refine callA (iBinds t) ?_
  repeat' first | (refine And.intro (fun c => ?_) (fun c => ?_) <;> first | exact absurd c (by decide) | (cases c; done) | (simp only [decide_eq_true_eq, decide_eq_false_iff_not] at c) | skip) | fail
  all_goals exact ⟨[], ⟨trivial, rfl⟩, congrArg (fun x => [AV.p (B x)]) (by first | grind | (rw [hw1]; grind)), rfl⟩
end Go.Proofs.Ytegpjjnedbbpjaa.Z
