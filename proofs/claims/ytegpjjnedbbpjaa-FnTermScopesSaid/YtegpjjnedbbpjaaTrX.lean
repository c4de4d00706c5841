/- TreeAt; copies. -/
import Derived.Test.YtegpjjnedbbpjaaTrW
set_option linter.unusedVariables false
set_option linter.unusedSimpArgs false
namespace Go.Proofs.Ytegpjjnedbbpjaa.Z
open Go Go.RowKit Go.Proofs.Sy Go.Proofs
set_option maxRecDepth 100000
def noT : Tree := ⟨⟨#[]⟩, ⟨#[]⟩, false, []⟩
theorem sCopy (t : Tree) (hw : wt t ≤ 1099511627776) : FnP Try.prog 64 [t.enc] [t.enc] := by
  have ih : ∀ k, k ∈ t.ks → FnP Try.prog 64 [k.enc] [k.enc] := fun k hk => sCopy k (by have := wt_kid hk; omega)
  have hl := wt_len t
  refine fn_intro Try.func64 rfl rfl rfl ?_
  refine And.intro trivial ?_
  refine ⟨Int, fun i => ([(1, .ptr 0 0), (2, .ptr 1 0), (3, .row 2 4 0 i.toNat), (4, .p (I i))], [.box 31 [.p (S t.nm), .p (S t.tx), .p (B t.lf), .p (.lst (encM t.ks))], .box 31 [.p (S ⟨#[]⟩), .p (S ⟨#[]⟩), .p (B false), .tl []], .row 31 4 (encM (t.ks.take i.toNat))]),
    fun i n => 0 ≤ i ∧ i ≤ t.ks.length ∧ n = (t.ks.length - i).toNat,
    ⟨0, _, ⟨by simp, by simp, rfl⟩, [], ⟨rfl, rfl, rfl, rfl, trivial⟩, ⟨⟨rfl, rfl, rfl, rfl, rfl, trivial⟩, ⟨rfl, rfl, rfl, rfl, rfl, trivial⟩, rfl, trivial⟩, rfl⟩, ?_⟩
  rintro i n ⟨h0, h1, rfl⟩
  have hlen : (t.ks.take i.toNat).length = i.toNat := by rw [List.length_take]; omega
  refine And.intro (fun c => ?_) (fun c => ?_) <;> simp only [decide_eq_true_eq, decide_eq_false_iff_not, encM_len] at c
  · obtain ⟨k, hk, hm, hdr⟩ := drop_cons h0 c
    have hacc : t.ks.take i.toNat ++ [k] = t.ks.take (i + 1).toNat := by
      rw [show (i + 1).toNat = i.toNat + 1 by omega, List.take_add_one, hk]; rfl
    refine And.intro h0 (Exists.intro k.enc (And.intro (encM_get hk) (And.intro rfl ?_)))
    refine callA (ih k hm) ?_
    refine And.intro (show fits _ _ from ⟨⟨rfl, rfl⟩, trivial⟩) ?_
    refine Exists.intro _ (And.intro ⟨show 0 + _ ≤ List.length _ from Nat.le_of_eq rfl, rfl⟩ ?_)
    refine Exists.intro (encM (t.ks.take i.toNat)) ?_
    have hra := row_allT (t.ks.take i.toNat)
    rw [hlen] at hra
    refine And.intro ⟨hra.1, hra.2, ⟨⟨rfl, rfl⟩, trivial⟩, appfitU i.toNat 1 (by omega)⟩ ?_
    refine ⟨i + 1, _, ⟨by omega, by omega, rfl⟩, by omega, [], ⟨rfl, rfl, ?_, congrArg (fun x => AV.p (I x)) (w64 (by omega)).symm, trivial⟩, ⟨⟨rfl, rfl, rfl, rfl, rfl, trivial⟩, ⟨rfl, rfl, rfl, rfl, rfl, trivial⟩, ?_, trivial⟩, rfl⟩
    · exact congrArg (AV.row 2 4 0) (by show (i + 1).toNat = i.toNat + 1; omega)
    · exact congrArg (Bk.row _ 4) (by rw [← hacc, encM_app, encM_one]; rfl)
  · have hi : i.toNat = t.ks.length := by omega
    refine .inl (Exists.intro (encM t.ks) (And.intro ?_ ?_))
    · rw [hi, List.take_length]; exact row_allT t.ks
    · exact ⟨[], ⟨trivial, rfl⟩, rfl, rfl⟩
termination_by SizeOf.sizeOf t
decreasing_by exact kid_lt hk
def getR (t : Tree) (p : List Int) : Tree × Int :=
  if okT t = false then (noT, 1) else match atP t p with
    | some k => (k, 0)
    | none => (noT, 4)
theorem wt_at : ∀ (p : List Int) (t k : Tree), atP t p = some k → wt k ≤ wt t
  | [], t, k, h => by simp only [atP] at h; cases h; exact Nat.le_refl _
  | i :: p, t, k, h => by
    obtain ⟨_, q, _, hm, he, _⟩ := atP_cons (p := p) (by rw [h]; rfl)
    have h1 := wt_at p q k (by rw [← he]; exact h)
    have h2 := wt_kid hm
    omega
theorem iTreeAt (t : Tree) (p : List Int) (hp : p.length ≤ 1099511627776) (hw : wt t ≤ 1099511627776) : FnP Try.prog 28 [t.enc, .lst (il p)] [(getR t p).1.enc, I (getR t p).2] := by
  refine fn_intro Try.func28 rfl rfl rfl ?_
  refine callA (iTreeOK t hw) ?_
  cases ht : okT t with
  | false => 
    repeat' first | (refine And.intro (fun c => ?_) (fun c => ?_) <;> first | exact absurd c (by decide) | (cases c; done) | (simp only [decide_eq_true_eq, decide_eq_false_iff_not] at c) | skip) | fail
    exact .inl ⟨[], ⟨trivial, rfl⟩, by unfold getR; rw [if_pos ht]; rfl, rfl⟩
  | true =>
    repeat' first | (refine And.intro (fun c => ?_) (fun c => ?_) <;> first | exact absurd c (by decide) | (cases c; done) | (simp only [decide_eq_true_eq, decide_eq_false_iff_not] at c) | skip) | fail
    have hno : ¬ okT t = false := by rw [ht]; simp
    have hat := iAt t p hp hw
    cases ha : atP t p with
    | none =>
      rw [ha] at hat
      refine callA hat ?_
      repeat' first | (refine And.intro (fun c => ?_) (fun c => ?_) <;> first | exact absurd c (by decide) | (cases c; done) | (simp only [decide_eq_true_eq, decide_eq_false_iff_not] at c) | skip) | fail
      exact .inl ⟨[], ⟨trivial, rfl⟩, by unfold getR; rw [if_neg hno, ha]; rfl, rfl⟩
    | some k =>
      have hk := wt_at p t k ha
      rw [ha] at hat
      refine callA hat ?_
      repeat' first | (refine And.intro (fun c => ?_) (fun c => ?_) <;> first | exact absurd c (by decide) | (cases c; done) | (simp only [decide_eq_true_eq, decide_eq_false_iff_not] at c) | skip) | fail
      refine callA (iCopy k (by omega)) ?_
      exact ⟨[], ⟨trivial, rfl⟩, by unfold getR; rw [if_neg hno, ha]; rfl, rfl⟩
end Go.Proofs.Ytegpjjnedbbpjaa.Z
