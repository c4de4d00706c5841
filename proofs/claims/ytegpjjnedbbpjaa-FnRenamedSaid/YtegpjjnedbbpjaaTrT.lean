/- Trees that are the same. -/
import Derived.Test.YtegpjjnedbbpjaaTrS
set_option linter.unusedVariables false
set_option linter.unusedSimpArgs false
namespace Go.Proofs.Ytegpjjnedbbpjaa.Z
open Go Go.RowKit Go.Proofs.Sy Go.Proofs
set_option maxRecDepth 100000
mutual
def same : Tree → Tree → Bool
  | ⟨n, t, l, ks⟩, b => decide (n = b.nm) && decide (t = b.tx) && (l == b.lf) && (ks.length == b.ks.length) && sameL ks b.ks
def sameL : List Tree → List Tree → Bool
  | [], _ => true
  | k :: ks, [] => false
  | k :: ks, q :: r => same k q && sameL ks r
end
theorem same_eq (a b : Tree) : same a b = (decide (a.nm = b.nm) && decide (a.tx = b.tx) && (a.lf == b.lf) && (a.ks.length == b.ks.length) && sameL a.ks b.ks) := by cases a; rfl
mutual
theorem same_iff : ∀ a b : Tree, same a b = true ↔ a = b
  | ⟨n, t, l, ks⟩, ⟨n2, t2, l2, ks2⟩ => by
    have h := sameL_iff ks ks2
    simp only [same, Bool.and_eq_true, decide_eq_true_eq, beq_iff_eq, Tree.mk.injEq]
    constructor
    · rintro ⟨⟨⟨⟨h1, h2⟩, h3⟩, h4⟩, h5⟩; exact ⟨h1, h2, h3, h.mp ⟨h4, h5⟩⟩
    · rintro ⟨h1, h2, h3, h4⟩; have := h.mpr h4; exact ⟨⟨⟨⟨h1, h2⟩, h3⟩, this.1⟩, this.2⟩
theorem sameL_iff : ∀ l r : List Tree, (l.length = r.length ∧ sameL l r = true) ↔ l = r
  | [], [] => by simp [sameL]
  | [], q :: r => by simp
  | k :: ks, [] => by simp
  | k :: ks, q :: r => by
    have h1 := same_iff k q
    have h2 := sameL_iff ks r
    simp only [sameL, List.length_cons, Nat.add_right_cancel_iff, Bool.and_eq_true, List.cons.injEq, h1, ← h2]
    constructor
    · rintro ⟨a, b, c⟩; exact ⟨b, a, c⟩
    · rintro ⟨b, a, c⟩; exact ⟨a, b, c⟩
end
theorem cSame (a b : Tree) (hw : wt a ≤ 1099511627776) : FnP Try.prog 24 [a.enc, b.enc] [B (same a b)] := by
  have ih : ∀ k q, k ∈ a.ks → FnP Try.prog 24 [k.enc, q.enc] [B (same k q)] := fun k q hk => cSame k q (by have := wt_kid hk; omega)
  have hwl := wt_len a
  have ea : (encM a.ks).length = a.ks.length := encM_len _
  have eb : (encM b.ks).length = b.ks.length := encM_len _
  rw [same_eq]
  refine fn_intro Try.func24 rfl rfl rfl ?_
  repeat' first | (refine And.intro (fun c => ?_) (fun c => ?_) <;> first | exact absurd c (by decide) | (cases c; done) | (simp only [decide_eq_true_eq, decide_eq_false_iff_not] at c) | skip) | fail
  all_goals first
    | (refine ⟨([] : Sto), ⟨trivial, rfl⟩, congrArg (fun x => [AV.p (B x)]) ?_, rfl⟩; grind)
    | skip
  have hbase : (decide (a.nm = b.nm) && decide (a.tx = b.tx) && (a.lf == b.lf) && (a.ks.length == b.ks.length)) = true := by grind
  have hl : a.ks.length = b.ks.length := by grind
  rw [hbase, Bool.true_and]
  refine ⟨Int, fun i => ([(2, .ptr 0 0), (3, .ptr 1 0), (5, .p (I i))], [.box 31 [.p (S a.nm), .p (S a.tx), .p (B a.lf), .p (.lst (encM a.ks))], .box 31 [.p (S b.nm), .p (S b.tx), .p (B b.lf), .p (.lst (encM b.ks))]]),
    fun i n => 0 ≤ i ∧ i ≤ a.ks.length ∧ n = (a.ks.length - i).toNat ∧ sameL (a.ks.drop i.toNat) (b.ks.drop i.toNat) = sameL a.ks b.ks,
    ⟨0, _, ⟨by omega, by omega, rfl, by simp⟩, [], ⟨rfl, rfl, rfl, trivial⟩, ⟨⟨rfl, rfl, rfl, rfl, rfl, trivial⟩, ⟨rfl, rfl, rfl, rfl, rfl, trivial⟩, trivial⟩, rfl⟩, ?_⟩
  rintro i n ⟨h0, h1, rfl, hr⟩
  refine And.intro (fun c => ?_) (fun c => ?_) <;> simp only [decide_eq_true_eq, decide_eq_false_iff_not, ea] at c
  · obtain ⟨k, hk, hm, hdr⟩ := drop_cons h0 c
    obtain ⟨q, hq, hm2, hdr2⟩ := drop_cons (l := b.ks) h0 (by omega)
    rw [hdr, hdr2, sameL] at hr
    refine ⟨[0, 1, 2, 3, 4, 5, 6, 7, 8, 9, 10, 11], [], by decide +kernel, ?_⟩
    refine And.intro h0 (Exists.intro k.enc (And.intro (encM_get hk) (And.intro rfl ?_)))
    refine And.intro h0 (Exists.intro q.enc (And.intro (encM_get hq) (And.intro rfl ?_)))
    refine callA (ih k q hm) ?_
    refine And.intro (fun c2 => ?_) (fun c2 => ?_)
    · exact ⟨[], ⟨trivial, rfl⟩, congrArg (fun x => [AV.p (B x)]) (by grind), rfl⟩
    · exact ⟨i + 1, _, ⟨by omega, by omega, rfl, by grind⟩, by omega, [], ⟨rfl, rfl, congrArg (fun x => AV.p (I x)) (w64 (by omega)).symm, trivial⟩, ⟨⟨rfl, rfl, rfl, rfl, rfl, trivial⟩, ⟨rfl, rfl, rfl, rfl, rfl, trivial⟩, trivial⟩, rfl⟩
  · rw [drop_end (l := a.ks) (i := i) (by omega), sameL] at hr
    exact ⟨[], ⟨trivial, rfl⟩, congrArg (fun x => [AV.p (B x)]) hr, rfl⟩
termination_by SizeOf.sizeOf a
decreasing_by exact kid_lt hk
end Go.Proofs.Ytegpjjnedbbpjaa.Z
