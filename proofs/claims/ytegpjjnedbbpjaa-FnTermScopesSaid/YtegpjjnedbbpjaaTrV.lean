/- Trees in new memory. -/
import Derived.Test.YtegpjjnedbbpjaaTrU
set_option linter.unusedVariables false
set_option linter.unusedSimpArgs false
namespace Go.Proofs.Ytegpjjnedbbpjaa.Z
open Go Go.RowKit Go.Proofs.Sy Go.Proofs
set_option maxRecDepth 100000
theorem appfitU (n m : Nat) (h : n + m ≤ 2000000000000) : (n + m) * 64 ≤ 140737488355328 ∧ n + m ≤ 9223372036854775807 := ⟨by omega, by omega⟩
def cpB (t : Tree) : List Tree → Sto
  | [] => [.dead, .box 31 [.p (S ⟨#[]⟩), .p (S ⟨#[]⟩), .p (B false), .tl []], .box 31 [.p (S t.nm), .p (S t.tx), .p (B t.lf), .tl []]]
  | k :: ks => [.dead, .box 31 [.p (S ⟨#[]⟩), .p (S ⟨#[]⟩), .p (B false), .tl []], .box 31 [.p (S t.nm), .p (S t.tx), .p (B t.lf), .row 5 4 0 (ks.length + 1)], .dead, .dead, .row 31 4 (encM (k :: ks))]
/-- A copy: pure, or its kids in a row of its own. -/
def cpP (own : Bool) (t : Tree) (rs : List AV) (τ : Sto) : Prop :=
  if own = true then rs = [.agg [.p (S t.nm), .p (S t.tx), .p (B t.lf), .row 5 4 0 t.ks.length]] ∧ τ = [.dead, .dead, .dead, .dead, .dead, .row 31 4 (encM t.ks)]
  else rs = [.p t.enc] ∧ τ = []
theorem enc_ks {t : Tree} {l : List Tree} (h : t.ks = l) : t.enc = .agg [S t.nm, S t.tx, B t.lf, .lst (encM l)] := by rw [← h]; rfl
theorem iCopyG (own : Bool) (t : Tree) (hw : wt t ≤ 1099511627776) (ho : own = true → t.ks ≠ []) : Sy.Fn Try.prog 69 [.p t.enc] [] (cpP own t) := by
  have ih : ∀ k, k ∈ t.ks → FnP Try.prog 69 [k.enc] [k.enc] := fun k hk => by
    have := iCopyG false k (by have := wt_kid hk; omega) (fun h => by cases h)
    exact this
  have hl := wt_len t
  refine fn_intro Try.func69 rfl rfl rfl ?_
  refine ⟨Int × List Tree, fun x => ([(2, .ptr 1 0), (3, .ptr 2 0), (14, .p (.lst (encM t.ks))), (15, .p (I t.ks.length)), (16, .p (I x.1))], cpB t x.2),
    fun x n => 0 ≤ x.1 ∧ x.1 ≤ t.ks.length ∧ n = (t.ks.length - x.1).toNat ∧ x.2 = t.ks.take x.1.toNat,
    ⟨(0, []), _, ⟨by simp, by simp, rfl, by simp⟩, [], ⟨rfl, rfl, rfl, congrArg (fun x : Nat => AV.p (I x)) (encM_len t.ks).symm, rfl, trivial⟩, ⟨trivial, ⟨rfl, rfl, rfl, rfl, rfl, trivial⟩, ⟨rfl, rfl, rfl, rfl, rfl, trivial⟩, trivial⟩, rfl⟩, ?_⟩
  rintro ⟨i, acc⟩ n ⟨h0, h1, rfl, hr⟩
  simp only at h0 h1 hr
  refine And.intro (fun c => ?_) (fun c => ?_) <;> simp only [decide_eq_true_eq, decide_eq_false_iff_not] at c
  · obtain ⟨k, hk, hm, hdr⟩ := drop_cons h0 c
    have hacc : acc ++ [k] = t.ks.take (i + 1).toNat := by
      rw [hr, show (i + 1).toNat = i.toNat + 1 by omega, List.take_add_one, hk]; rfl
    have hlen : acc.length = i.toNat := by rw [hr, List.length_take]; omega
    refine And.intro h0 (Exists.intro k.enc (And.intro (encM_get hk) (And.intro rfl ?_)))
    cases acc with
    | nil =>
      refine ⟨[0, 1, 2, 3, 4, 5, 6, 1007], [5], by decide +kernel, ?_⟩
      refine callA (ih k hm) ?_
      refine And.intro (show fits _ _ from ⟨⟨rfl, rfl⟩, trivial⟩) ?_
      refine Exists.intro _ (And.intro ⟨show 0 + _ ≤ List.length _ from Nat.le_of_eq rfl, rfl⟩ ?_)
      refine And.intro ⟨.inl rfl, trivial, ⟨⟨rfl, rfl⟩, trivial⟩, appfitU 0 1 (by omega)⟩ ?_
      refine ⟨(i + 1, [k]), _, ⟨by simp; omega, by simp; omega, rfl, hacc⟩, by simp; omega, [], ⟨rfl, rfl, rfl, rfl, congrArg (fun x => AV.p (I x)) (w64 (by omega)).symm, trivial⟩, ⟨trivial, ⟨rfl, rfl, rfl, rfl, rfl, trivial⟩, ⟨rfl, rfl, rfl, rfl, rfl, trivial⟩, trivial, trivial, ?_, trivial⟩, rfl⟩
      exact congrArg (Bk.row _ 4) (encM_one k)
    | cons q acc =>
      refine ⟨[0, 1, 2, 3, 4, 5, 6, 1007], [5], by decide +kernel, ?_⟩
      refine callA (ih k hm) ?_
      refine And.intro (show fits _ _ from ⟨⟨rfl, rfl⟩, trivial⟩) ?_
      refine Exists.intro _ (And.intro ⟨show 0 + _ ≤ List.length _ from Nat.le_of_eq rfl, rfl⟩ ?_)
      refine Exists.intro (encM (q :: acc)) ?_
      refine And.intro ⟨(row_allT (q :: acc)).1, (row_allT (q :: acc)).2, ⟨⟨rfl, rfl⟩, trivial⟩, appfitU (q :: acc).length 1 (by omega)⟩ ?_
      refine ⟨(i + 1, q :: (acc ++ [k])), _, ⟨by simp; omega, by simp; omega, rfl, hacc⟩, by simp; omega, [], ⟨rfl, rfl, rfl, rfl, congrArg (fun x => AV.p (I x)) (w64 (by omega)).symm, trivial⟩, ⟨trivial, ⟨rfl, rfl, rfl, rfl, rfl, trivial⟩, ⟨rfl, rfl, rfl, rfl, ?_, trivial⟩, trivial, trivial, ?_, trivial⟩, rfl⟩
      · exact congrArg (AV.row 5 4 0) (by rw [List.length_append]; rfl)
      · exact congrArg (Bk.row _ 4) (by rw [← List.cons_append, encM_app, encM_one]; rfl)
  · have hacc : acc = t.ks := by rw [hr, List.take_of_length_le (by omega)]
    clear hr
    cases acc with
    | nil =>
      cases own with
      | true => exact absurd hacc.symm (ho rfl)
      | false => exact .inl ⟨[], ⟨trivial, rfl⟩, congrArg (fun x => [AV.p x]) (enc_ks hacc.symm).symm, rfl⟩
    | cons q acc =>
      cases own with
      | true => exact .inr ⟨[.dead, .dead, .dead, .dead, .dead, .row 31 4 (encM (q :: acc))], ⟨⟨trivial, trivial, trivial, trivial, trivial, rfl, trivial⟩, rfl⟩, congrArg (fun n => [AV.agg [.p (S t.nm), .p (S t.tx), .p (B t.lf), .row 5 4 0 n]]) (by rw [← hacc]; rfl), by rw [hacc]⟩
      | false =>
        refine .inl (Exists.intro (encM (q :: acc)) (And.intro (row_allT (q :: acc)) ?_))
        exact ⟨[], ⟨trivial, rfl⟩, congrArg (fun x => [AV.p x]) (enc_ks hacc.symm).symm, rfl⟩
termination_by SizeOf.sizeOf t
decreasing_by exact kid_lt hk
theorem iCopy (t : Tree) (hw : wt t ≤ 1099511627776) : FnP Try.prog 69 [t.enc] [t.enc] := iCopyG false t hw (fun h => by cases h)
end Go.Proofs.Ytegpjjnedbbpjaa.Z
