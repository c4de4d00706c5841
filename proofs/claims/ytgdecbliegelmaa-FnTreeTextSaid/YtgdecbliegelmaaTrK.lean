/- Trees: the program's text of a tree, into a new Builder; the program's number of a tree. -/
import Derived.Test.YtgdecbliegelmaaTrJ
set_option linter.unusedVariables false
set_option linter.unusedSimpArgs false
namespace Go.Proofs.Ytgdecbliegelmaa.Z
open Go Go.RowKit Go.Proofs.Sy Go.Proofs
set_option maxRecDepth 100000
def b3 (l : List UInt8) : Sto := [.box 143 [.ptr 0 0, .row 3 1 0 l.length], .dead, .dead, .row 5 1 (bl l)]
def b2 (l : List UInt8) : Sto := [.box 143 [.ptr 0 0, .row 2 1 0 l.length], .dead, .row 5 1 (bl l)]
def bW (l : List UInt8) (t : Tree) : Sto := [.box 143 [.ptr 0 0, .row 2 1 0 l.length], .box 53 [.p (S t.nm), .p (S t.tx), .p (B t.lf), .p (.lst (encM t.ks))], .row 5 1 (bl l)]
theorem iShowF (t : Tree) (hw : 8 * wt t ≤ 10000000000000) (hnm : 0 < t.nm.size) : Sy.Fn Try.prog 110 [.ptr 0 0, .p t.enc] bF (fun rs τ' => rs = [] ∧ τ' = if t.lf = true then b2 (ls (shw t)) else b3 (ls (shw t))) := by
  have hl := wt_len t
  have hww := wt_eq t
  have hsn : (ls t.nm).length = t.nm.size := size_list t.nm
  have hst : (ls t.tx).length = t.tx.size := size_list t.tx
  refine fn_intro Try.func110 rfl rfl rfl ?_
  refine And.intro (fun c => ?_) (fun c => ?_)
  · have hlf : t.lf = false := by simpa using c
    have hs : shw t = shwL t.ks (c40 ++ t.nm) ++ c41 := by rw [shw_eq, if_neg (by simp [hlf])]
    refine callG [0] (sByteF 40) rfl (fun K hk => hk) ?_
    rintro rs τ' hl' ⟨rfl, rfl⟩
    refine callG [0, 3] (sStrU [40] t.nm (by simp; omega)) rfl (fun K hk => hk) ?_
    rintro rs τ' hl' ⟨rfl, rfl⟩
    refine ⟨Int × ByteArray, fun x => ([(0, .ptr 0 0), (18, .p (.lst (encM t.ks))), (19, .p (I t.ks.length)), (20, .p (I x.1))], b3 (ls x.2)),
      fun x n => 0 ≤ x.1 ∧ x.1 ≤ t.ks.length ∧ n = (t.ks.length - x.1).toNat ∧ x.2.size + 8 * wtL (t.ks.drop x.1.toNat) + 1 ≤ 8 * wt t ∧ shwL (t.ks.drop x.1.toNat) x.2 = shwL t.ks (c40 ++ t.nm),
      ⟨(0, c40 ++ t.nm), _, ⟨by simp, by simp, rfl, by have e1 : c40.size = 1 := rfl; rw [ByteArray.size_append]; simp; omega, rfl⟩, [], ⟨rfl, rfl, congrArg (fun x : Nat => AV.p (I x)) (encM_len t.ks).symm, rfl, trivial⟩, ⟨⟨rfl, ?_, ?_, trivial⟩, trivial, trivial, ?_, trivial⟩, rfl⟩, ?_⟩
    · rfl
    · exact congrArg (fun x : List UInt8 => AV.row 3 1 0 x.length) (by rw [ls_app])
    · exact congrArg (fun x : List UInt8 => Bk.row 5 1 (bl x)) (by rw [ls_app])
    rintro ⟨i, s⟩ n ⟨h0, h1, rfl, h2, hr⟩
    simp only at h0 h1 h2 hr
    have hss : (ls s).length = s.size := size_list s
    refine And.intro (fun c => ?_) (fun c => ?_) <;> simp only [decide_eq_true_eq, decide_eq_false_iff_not] at c
    · obtain ⟨k, hk, hm, hdr⟩ := drop_cons h0 c
      have hsz := shw_size k
      rw [hdr, shwL] at hr
      rw [hdr, wtL] at h2
      refine And.intro h0 (Exists.intro k.enc (And.intro (encM_get hk) (And.intro rfl ?_)))
      refine callG [0, 3] (sByteV (ls s) 32 32 rfl (by simp; omega)) rfl (fun K hk => hk) ?_
      rintro rs τ' hl' ⟨rfl, rfl⟩
      refine callG [0, 3] (iShowU k (ls s ++ [32]) (by simp; omega)) rfl (fun K hk => hk) ?_
      rintro rs τ' hl' ⟨rfl, rfl⟩
      have e3 : c32.size = 1 := rfl
      refine ⟨(i + 1, s ++ c32 ++ shw k), _, ⟨by simp; omega, by simp; omega, rfl, by simp only [ByteArray.size_append]; omega, hr⟩, by simp; omega, [], ⟨rfl, rfl, rfl, congrArg (fun x => AV.p (I x)) (w64 (by omega)).symm, trivial⟩, ⟨⟨rfl, rfl, ?_, trivial⟩, trivial, trivial, ?_, trivial⟩, rfl⟩
      · exact congrArg (fun x : List UInt8 => AV.row 3 1 0 x.length) (by simp only [ls_app, List.append_assoc])
      · exact congrArg (fun x : List UInt8 => Bk.row 5 1 (bl x)) (by simp only [ls_app, List.append_assoc])
    · rw [drop_end (l := t.ks) (i := i) (by omega), shwL] at hr
      refine callG [0, 3] (sByteV (ls s) 41 41 rfl (by simp; omega)) rfl (fun K hk => hk) ?_
      rintro rs τ' hl' ⟨rfl, rfl⟩
      have he : ls (shw t) = ls s ++ [41] := by rw [hs, ← hr, ls_app]
      rw [he, if_neg (by simp [hlf])]
      exact ⟨b3 (ls s ++ [41]), ⟨⟨⟨rfl, rfl, rfl, trivial⟩, trivial, trivial, rfl, trivial⟩, rfl⟩, rfl, rfl⟩
  · have hlf : t.lf = true := by simpa using c
    have hs : ls (shw t) = ls t.nm ++ (34 :: ((ls t.tx).flatMap qb ++ [34])) := by rw [shw_eq, if_pos hlf, ls_app]; rfl
    refine callG [0] (sStrF t.nm hnm (by omega)) rfl (fun K hk => hk) ?_
    rintro rs τ' hl' ⟨rfl, rfl⟩
    refine callG [0, 2] (sByteV (ls t.nm) 34 34 rfl (by simp; omega)) rfl (fun K hk => hk) ?_
    rintro rs τ' hl' ⟨rfl, rfl⟩
    refine ⟨Int × List UInt8, fun x => ([(0, .ptr 0 0), (3, .ptr 1 0), (6, .p (I x.1))], bW (ls t.nm ++ [34] ++ x.2) t),
      fun x n => 0 ≤ x.1 ∧ x.1 ≤ t.tx.size ∧ n = (t.tx.size - x.1).toNat ∧ x.2.length ≤ 4 * x.1 ∧ x.2 ++ ((ls t.tx).drop x.1.toNat).flatMap qb = (ls t.tx).flatMap qb,
      ⟨(0, []), _, ⟨by simp, by simp, rfl, by simp, by simp⟩, [], ⟨rfl, rfl, rfl, trivial⟩, ⟨⟨rfl, rfl, ?_, trivial⟩, ⟨rfl, rfl, rfl, rfl, rfl, trivial⟩, ?_, trivial⟩, rfl⟩, ?_⟩
    · exact congrArg (fun x : List UInt8 => AV.row 2 1 0 x.length) (List.append_nil _)
    · exact congrArg (fun x : List UInt8 => Bk.row 5 1 (bl x)) (List.append_nil _)
    rintro ⟨i, q⟩ n ⟨h0, h1, rfl, h2, hr⟩
    simp only at h0 h1 h2 hr
    refine And.intro (fun c => ?_) (fun c => ?_) <;> simp only [decide_eq_true_eq, decide_eq_false_iff_not] at c
    · obtain ⟨b, hb, hd⟩ := bt_drop h0 c
      rw [show ls t.tx = t.tx.data.toList from rfl] at hr
      rw [hd, List.flatMap_cons] at hr
      have hq := qb_len b
      refine And.intro ⟨h0, c⟩ ?_
      rw [hb]
      repeat' first
        | (refine And.intro (fun c => ?_) (fun c => ?_) <;> first | exact absurd c (by decide) | (cases c; done) | (simp only [decide_eq_true_eq, decide_eq_false_iff_not] at c) | skip)
        | refine And.intro (show (_ : Int) ≠ 0 by decide) ?_
        | fail
      · have hqb : qb b = [92, b] := by grind [qb]
        refine callG [0, 2] (sByteV (ls t.nm ++ [34] ++ q) 92 92 rfl (by simp; omega)) rfl (fun K hk => hk) ?_
        rintro rs τ' hl' ⟨rfl, rfl⟩
        refine callG [0, 2] (sByteV ((ls t.nm ++ [34] ++ q) ++ [92]) _ b rfl (by simp; omega)) rfl (fun K hk => hk) ?_
        rintro rs τ' hl' ⟨rfl, rfl⟩
        refine ⟨(i + 1, q ++ qb b), _, ⟨by simp; omega, by simp; omega, rfl, by simp; omega, by simpa using hr⟩, by simp; omega, [], ⟨rfl, rfl, congrArg (fun x => AV.p (I x)) (w64 (by omega)).symm, trivial⟩, ⟨⟨rfl, rfl, ?_, trivial⟩, ⟨rfl, rfl, rfl, rfl, rfl, trivial⟩, ?_, trivial⟩, rfl⟩
        · exact congrArg (fun x : List UInt8 => AV.row 2 1 0 x.length) (by rw [hqb]; simp)
        · exact congrArg (fun x : List UInt8 => Bk.row 5 1 (bl x)) (by rw [hqb]; simp)
      · have hqb : qb b = [b] := by grind [qb]
        refine callG [0, 2] (sByteV (ls t.nm ++ [34] ++ q) _ b rfl (by simp; omega)) rfl (fun K hk => hk) ?_
        rintro rs τ' hl' ⟨rfl, rfl⟩
        refine ⟨(i + 1, q ++ qb b), _, ⟨by simp; omega, by simp; omega, rfl, by simp; omega, by simpa using hr⟩, by simp; omega, [], ⟨rfl, rfl, congrArg (fun x => AV.p (I x)) (w64 (by omega)).symm, trivial⟩, ⟨⟨rfl, rfl, ?_, trivial⟩, ⟨rfl, rfl, rfl, rfl, rfl, trivial⟩, ?_, trivial⟩, rfl⟩
        · exact congrArg (fun x : List UInt8 => AV.row 2 1 0 x.length) (by rw [hqb]; simp)
        · exact congrArg (fun x : List UInt8 => Bk.row 5 1 (bl x)) (by rw [hqb]; simp)
      · have hqb : qb b = [92, UInt8.ofNat (48 + b.toNat / 100), UInt8.ofNat (48 + b.toNat / 10 % 10), UInt8.ofNat (48 + b.toNat % 10)] := by grind [qb]
        refine callG [0, 2] (sByteV (ls t.nm ++ [34] ++ q) 92 92 rfl (by simp; omega)) rfl (fun K hk => hk) ?_
        rintro rs τ' hl' ⟨rfl, rfl⟩
        refine And.intro (show (_ : Int) ≠ 0 by decide) ?_
        refine callG [0, 2] (sByteV ((ls t.nm ++ [34] ++ q) ++ [92]) _ (UInt8.ofNat (48 + b.toNat / 100)) (dig1 b) (by simp; omega)) rfl (fun K hk => hk) ?_
        rintro rs τ' hl' ⟨rfl, rfl⟩
        refine And.intro (show (_ : Int) ≠ 0 by decide) ?_
        refine And.intro (show (_ : Int) ≠ 0 by decide) ?_
        refine callG [0, 2] (sByteV (((ls t.nm ++ [34] ++ q) ++ [92]) ++ [(UInt8.ofNat (48 + b.toNat / 100))]) _ (UInt8.ofNat (48 + b.toNat / 10 % 10)) (dig2 b) (by simp; omega)) rfl (fun K hk => hk) ?_
        rintro rs τ' hl' ⟨rfl, rfl⟩
        refine And.intro (show (_ : Int) ≠ 0 by decide) ?_
        refine callG [0, 2] (sByteV ((((ls t.nm ++ [34] ++ q) ++ [92]) ++ [(UInt8.ofNat (48 + b.toNat / 100))]) ++ [(UInt8.ofNat (48 + b.toNat / 10 % 10))]) _ (UInt8.ofNat (48 + b.toNat % 10)) (dig3 b) (by simp; omega)) rfl (fun K hk => hk) ?_
        rintro rs τ' hl' ⟨rfl, rfl⟩
        refine ⟨(i + 1, q ++ qb b), _, ⟨by simp; omega, by simp; omega, rfl, by simp; omega, by simpa using hr⟩, by simp; omega, [], ⟨rfl, rfl, congrArg (fun x => AV.p (I x)) (w64 (by omega)).symm, trivial⟩, ⟨⟨rfl, rfl, ?_, trivial⟩, ⟨rfl, rfl, rfl, rfl, rfl, trivial⟩, ?_, trivial⟩, rfl⟩
        · exact congrArg (fun x : List UInt8 => AV.row 2 1 0 x.length) (by rw [hqb]; simp)
        · exact congrArg (fun x : List UInt8 => Bk.row 5 1 (bl x)) (by rw [hqb]; simp)
      · have hqb : qb b = [92, UInt8.ofNat (48 + b.toNat / 100), UInt8.ofNat (48 + b.toNat / 10 % 10), UInt8.ofNat (48 + b.toNat % 10)] := by grind [qb]
        refine callG [0, 2] (sByteV (ls t.nm ++ [34] ++ q) 92 92 rfl (by simp; omega)) rfl (fun K hk => hk) ?_
        rintro rs τ' hl' ⟨rfl, rfl⟩
        refine And.intro (show (_ : Int) ≠ 0 by decide) ?_
        refine callG [0, 2] (sByteV ((ls t.nm ++ [34] ++ q) ++ [92]) _ (UInt8.ofNat (48 + b.toNat / 100)) (dig1 b) (by simp; omega)) rfl (fun K hk => hk) ?_
        rintro rs τ' hl' ⟨rfl, rfl⟩
        refine And.intro (show (_ : Int) ≠ 0 by decide) ?_
        refine And.intro (show (_ : Int) ≠ 0 by decide) ?_
        refine callG [0, 2] (sByteV (((ls t.nm ++ [34] ++ q) ++ [92]) ++ [(UInt8.ofNat (48 + b.toNat / 100))]) _ (UInt8.ofNat (48 + b.toNat / 10 % 10)) (dig2 b) (by simp; omega)) rfl (fun K hk => hk) ?_
        rintro rs τ' hl' ⟨rfl, rfl⟩
        refine And.intro (show (_ : Int) ≠ 0 by decide) ?_
        refine callG [0, 2] (sByteV ((((ls t.nm ++ [34] ++ q) ++ [92]) ++ [(UInt8.ofNat (48 + b.toNat / 100))]) ++ [(UInt8.ofNat (48 + b.toNat / 10 % 10))]) _ (UInt8.ofNat (48 + b.toNat % 10)) (dig3 b) (by simp; omega)) rfl (fun K hk => hk) ?_
        rintro rs τ' hl' ⟨rfl, rfl⟩
        refine ⟨(i + 1, q ++ qb b), _, ⟨by simp; omega, by simp; omega, rfl, by simp; omega, by simpa using hr⟩, by simp; omega, [], ⟨rfl, rfl, congrArg (fun x => AV.p (I x)) (w64 (by omega)).symm, trivial⟩, ⟨⟨rfl, rfl, ?_, trivial⟩, ⟨rfl, rfl, rfl, rfl, rfl, trivial⟩, ?_, trivial⟩, rfl⟩
        · exact congrArg (fun x : List UInt8 => AV.row 2 1 0 x.length) (by rw [hqb]; simp)
        · exact congrArg (fun x : List UInt8 => Bk.row 5 1 (bl x)) (by rw [hqb]; simp)
      · have hqb : qb b = [92, b] := by grind [qb]
        refine callG [0, 2] (sByteV (ls t.nm ++ [34] ++ q) 92 92 rfl (by simp; omega)) rfl (fun K hk => hk) ?_
        rintro rs τ' hl' ⟨rfl, rfl⟩
        refine callG [0, 2] (sByteV ((ls t.nm ++ [34] ++ q) ++ [92]) _ b rfl (by simp; omega)) rfl (fun K hk => hk) ?_
        rintro rs τ' hl' ⟨rfl, rfl⟩
        refine ⟨(i + 1, q ++ qb b), _, ⟨by simp; omega, by simp; omega, rfl, by simp; omega, by simpa using hr⟩, by simp; omega, [], ⟨rfl, rfl, congrArg (fun x => AV.p (I x)) (w64 (by omega)).symm, trivial⟩, ⟨⟨rfl, rfl, ?_, trivial⟩, ⟨rfl, rfl, rfl, rfl, rfl, trivial⟩, ?_, trivial⟩, rfl⟩
        · exact congrArg (fun x : List UInt8 => AV.row 2 1 0 x.length) (by rw [hqb]; simp)
        · exact congrArg (fun x : List UInt8 => Bk.row 5 1 (bl x)) (by rw [hqb]; simp)
    · rw [drop_all (s := t.tx) (by omega)] at hr
      simp only [List.flatMap_nil, List.append_nil] at hr
      refine callG [0, 2] (sByteV (ls t.nm ++ [34] ++ q) 34 34 rfl (by simp; omega)) rfl (fun K hk => hk) ?_
      rintro rs τ' hl' ⟨rfl, rfl⟩
      have he : ls (shw t) = ls t.nm ++ [34] ++ q ++ [34] := by rw [hs, ← hr]; simp
      rw [he, if_pos hlf]
      exact ⟨b2 (ls t.nm ++ [34] ++ q ++ [34]), ⟨⟨⟨rfl, rfl, rfl, trivial⟩, trivial, rfl, trivial⟩, rfl⟩, rfl, rfl⟩
end Go.Proofs.Ytgdecbliegelmaa.Z
