/- Trees: right trees. -/
import Derived.Test.YtnnalcglfgapbaaTrB
set_option linter.unusedVariables false
set_option linter.unusedSimpArgs false
namespace Go.Proofs.Ytnnalcglfgapbaa.Z
open Go Go.RowKit Go.Proofs.Sy Go.Proofs
set_option maxRecDepth 100000
mutual
def right : Tree → Bool
  | ⟨nm, tx, lf, ks⟩ => nameOK nm && !(lf && (decide (0 < ks.length) || decide (200 < tx.size))) && !(!lf && !decide (tx = ⟨#[]⟩)) && rightL ks
def rightL : List Tree → Bool
  | [] => true
  | k :: ks => right k && rightL ks
end
theorem right_eq (t : Tree) : right t = (nameOK t.nm && !(t.lf && (decide (0 < t.ks.length) || decide (200 < t.tx.size))) && !(!t.lf && !decide (t.tx = ⟨#[]⟩)) && rightL t.ks) := by cases t; rfl
theorem sRight (t : Tree) (hw : wt t ≤ 1099511627776) : FnP Try.prog 122 [t.enc] [B (right t)] := by
  have ih : ∀ k, k ∈ t.ks → FnP Try.prog 122 [k.enc] [B (right k)] := fun k hk => sRight k (by have := wt_kid hk; omega)
  have hl := wt_len t
  rw [right_eq]
  refine fn_intro Try.func122 rfl rfl rfl ?_
  refine callA (sName _) ?_
  repeat' first | (refine And.intro (fun c => ?_) (fun c => ?_) <;> first | exact absurd c (by decide) | (cases c; done) | (simp only [decide_eq_true_eq, decide_eq_false_iff_not] at c) | skip) | fail
  all_goals first
    | (refine ⟨([] : Sto), ⟨trivial, rfl⟩, congrArg (fun x => [AV.p (B x)]) ?_, rfl⟩; grind [encM_len])
    | refine ⟨Int, fun i => ([(1, .ptr 0 0), (3, .p (I i))], [.box 88 [.p (S t.nm), .p (S t.tx), .p (B t.lf), .p (.lst (encM t.ks))]]),
      fun i n => 0 ≤ i ∧ i ≤ t.ks.length ∧ n = (t.ks.length - i).toNat ∧ rightL (t.ks.drop i.toNat) = (nameOK t.nm && !(t.lf && (decide (0 < t.ks.length) || decide (200 < t.tx.size))) && !(!t.lf && !decide (t.tx = ⟨#[]⟩)) && rightL t.ks),
      ⟨0, _, ⟨by omega, by omega, rfl, by grind [encM_len]⟩, [], ⟨rfl, rfl, trivial⟩, ⟨⟨rfl, rfl, rfl, rfl, rfl, trivial⟩, trivial⟩, rfl⟩, ?_⟩
    | fail
  all_goals
    rintro i n ⟨h0, h1, rfl, hr⟩
    refine And.intro (fun c => ?_) (fun c => ?_) <;> simp only [decide_eq_true_eq, decide_eq_false_iff_not, encM_len] at c
    · obtain ⟨k, hk, hm, hdr⟩ := drop_cons h0 c
      rw [hdr, rightL] at hr
      refine And.intro h0 (Exists.intro k.enc (And.intro (encM_get hk) (And.intro rfl ?_)))
      refine callA (ih k hm) ?_
      refine And.intro (fun c2 => ?_) (fun c2 => ?_)
      · exact ⟨[], ⟨trivial, rfl⟩, congrArg (fun x => [AV.p (B x)]) (by grind), rfl⟩
      · exact ⟨i + 1, _, ⟨by omega, by omega, rfl, by grind⟩, by omega, [], ⟨rfl, congrArg (fun x => AV.p (I x)) (w64 (by omega)).symm, trivial⟩, ⟨⟨rfl, rfl, rfl, rfl, rfl, trivial⟩, trivial⟩, rfl⟩
    · rw [drop_end (l := t.ks) (i := i) (by omega), rightL] at hr
      exact ⟨[], ⟨trivial, rfl⟩, congrArg (fun x => [AV.p (B x)]) hr, rfl⟩
termination_by SizeOf.sizeOf t
decreasing_by exact kid_lt hk
end Go.Proofs.Ytnnalcglfgapbaa.Z
