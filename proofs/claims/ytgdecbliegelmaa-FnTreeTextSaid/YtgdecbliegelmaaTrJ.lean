/- Trees: the program's text of a tree. -/
import Derived.Test.YtgdecbliegelmaaTrI
import Derived.Test.YtgdecbliegelmaaTrG
set_option linter.unusedVariables false
set_option linter.unusedSimpArgs false
namespace Go.Proofs.Ytgdecbliegelmaa.Z
open Go Go.RowKit Go.Proofs.Sy Go.Proofs
set_option maxRecDepth 100000
abbrev ls (s : ByteArray) : List UInt8 := s.data.toList
theorem ls_app (a b : ByteArray) : ls (a ++ b) = ls a ++ ls b := by
  unfold ls; rw [ByteArray.data_append, Array.toList_append]
theorem sByteV (l : List UInt8) (z : Int) (c : UInt8) (hz : z = c.toNat) (hl : l.length ≤ 10000000000000) : Sy.Fn Try.prog 132 [.ptr 0 0, .p (U8 z)] (bU l) (fun rs τ' => rs = [.p (.raw .nilIface)] ∧ τ' = bU (l ++ [c])) := by
  subst hz; exact sByteU l c hl
theorem shwL_pre : ∀ (ks : List Tree) (s : ByteArray), ∃ q, ls (shwL ks s) = ls s ++ q
  | [], s => ⟨[], by simp [shwL]⟩
  | k :: ks, s => by
    obtain ⟨q, h⟩ := shwL_pre ks (s ++ c32 ++ shw k)
    exact ⟨_, by rw [shwL, h, ls_app, ls_app, List.append_assoc, List.append_assoc]⟩
theorem dig1 (b : UInt8) : wr .u8 (48 + wr .u8 (Int.tdiv b.toNat 100)) = ((UInt8.ofNat (48 + b.toNat / 100)).toNat : Int) := by
  have hb : b.toNat < 256 := b.toNat_lt
  rw [Int.tdiv_eq_ediv_of_nonneg (by omega), wr8 (↑b.toNat / 100) (by omega), wr8 _ (by omega), u8_of _ (by omega)]; rfl
theorem dig2 (b : UInt8) : wr .u8 (48 + Int.tmod (wr .u8 (Int.tdiv b.toNat 10)) 10) = ((UInt8.ofNat (48 + b.toNat / 10 % 10)).toNat : Int) := by
  have hb : b.toNat < 256 := b.toNat_lt
  rw [Int.tdiv_eq_ediv_of_nonneg (by omega), wr8 (↑b.toNat / 10) (by omega), Int.tmod_eq_emod_of_nonneg (by omega), wr8 _ (by omega), u8_of _ (by omega)]; rfl
theorem dig3 (b : UInt8) : wr .u8 (48 + Int.tmod b.toNat 10) = ((UInt8.ofNat (48 + b.toNat % 10)).toNat : Int) := by
  have hb : b.toNat < 256 := b.toNat_lt
  rw [Int.tmod_eq_emod_of_nonneg (by omega), wr8 _ (by omega), u8_of _ (by omega)]; rfl
def bT (l : List UInt8) (t : Tree) : Sto := [.box 143 [.ptr 0 0, .row 1 1 0 l.length], .row 5 1 (bl l), .box 53 [.p (S t.nm), .p (S t.tx), .p (B t.lf), .p (.lst (encM t.ks))]]
theorem iShowU (t : Tree) (l : List UInt8) (hw : l.length + 8 * wt t ≤ 10000000000000) : Sy.Fn Try.prog 110 [.ptr 0 0, .p t.enc] (bU l) (fun rs τ' => rs = [] ∧ τ' = bU (l ++ ls (shw t))) := by
  have ih : ∀ k, k ∈ t.ks → ∀ l : List UInt8, l.length + 8 * wt k ≤ 10000000000000 → Sy.Fn Try.prog 110 [.ptr 0 0, .p k.enc] (bU l) (fun rs τ' => rs = [] ∧ τ' = bU (l ++ ls (shw k))) := fun k hk l h => iShowU k l h
  have hl := wt_len t
  have hww := wt_eq t
  have hsn : (ls t.nm).length = t.nm.size := size_list t.nm
  have hst : (ls t.tx).length = t.tx.size := size_list t.tx
  refine fn_intro Try.func110 rfl rfl rfl ?_
  refine And.intro (fun c => ?_) (fun c => ?_)
  · have hlf : t.lf = false := by simpa using c
    have hs : shw t = shwL t.ks (c40 ++ t.nm) ++ c41 := by rw [shw_eq, if_neg (by simp [hlf])]
    refine callG [0, 1] (sByteV l 40 40 rfl (by omega)) rfl (fun K hk => hk) ?_
    rintro rs τ' hl' ⟨rfl, rfl⟩
    refine callG [0, 1] (sStrU (l ++ [40]) t.nm (by simp; omega)) rfl (fun K hk => hk) ?_
    rintro rs τ' hl' ⟨rfl, rfl⟩
    refine ⟨Int × ByteArray, fun x => ([(0, .ptr 0 0), (18, .p (.lst (encM t.ks))), (19, .p (I t.ks.length)), (20, .p (I x.1))], bU (l ++ ls x.2)),
      fun x n => 0 ≤ x.1 ∧ x.1 ≤ t.ks.length ∧ n = (t.ks.length - x.1).toNat ∧ x.2.size + 8 * wtL (t.ks.drop x.1.toNat) + 1 ≤ 8 * wt t ∧ shwL (t.ks.drop x.1.toNat) x.2 = shwL t.ks (c40 ++ t.nm),
      ⟨(0, c40 ++ t.nm), _, ⟨by simp, by simp, rfl, by have e1 : c40.size = 1 := rfl; rw [ByteArray.size_append]; simp; omega, rfl⟩, [], ⟨rfl, rfl, congrArg (fun x : Nat => AV.p (I x)) (encM_len t.ks).symm, rfl, trivial⟩, ⟨⟨rfl, ?_, ?_, trivial⟩, ?_, trivial⟩, rfl⟩, ?_⟩
    · rfl
    · exact congrArg (fun x : List UInt8 => AV.row 1 1 0 x.length) (by rw [ls_app, ← List.append_assoc])
    · exact congrArg (fun x : List UInt8 => Bk.row 5 1 (bl x)) (by rw [ls_app, ← List.append_assoc])
    rintro ⟨i, s⟩ n ⟨h0, h1, rfl, h2, hr⟩
    simp only at h0 h1 h2 hr
    have hss : (ls s).length = s.size := size_list s
    refine And.intro (fun c => ?_) (fun c => ?_) <;> simp only [decide_eq_true_eq, decide_eq_false_iff_not] at c
    · obtain ⟨k, hk, hm, hdr⟩ := drop_cons h0 c
      have hsz := shw_size k
      rw [hdr, shwL] at hr
      rw [hdr, wtL] at h2
      refine And.intro h0 (Exists.intro k.enc (And.intro (encM_get hk) (And.intro rfl ?_)))
      refine callG [0, 1] (sByteV (l ++ ls s) 32 32 rfl (by simp; omega)) rfl (fun K hk => hk) ?_
      rintro rs τ' hl' ⟨rfl, rfl⟩
      refine callG [0, 1] (ih k hm (l ++ ls s ++ [32]) (by simp; omega)) rfl (fun K hk => hk) ?_
      rintro rs τ' hl' ⟨rfl, rfl⟩
      have e3 : c32.size = 1 := rfl
      refine ⟨(i + 1, s ++ c32 ++ shw k), _, ⟨by simp; omega, by simp; omega, rfl, by simp only [ByteArray.size_append]; omega, hr⟩, by simp; omega, [], ⟨rfl, rfl, rfl, congrArg (fun x => AV.p (I x)) (w64 (by omega)).symm, trivial⟩, ⟨⟨rfl, rfl, ?_, trivial⟩, ?_, trivial⟩, rfl⟩
      · exact congrArg (fun x : List UInt8 => AV.row 1 1 0 x.length) (by simp only [ls_app, List.append_assoc])
      · exact congrArg (fun x : List UInt8 => Bk.row 5 1 (bl x)) (by simp only [ls_app, List.append_assoc])
    · rw [drop_end (l := t.ks) (i := i) (by omega), shwL] at hr
      refine callG [0, 1] (sByteV (l ++ ls s) 41 41 rfl (by simp; omega)) rfl (fun K hk => hk) ?_
      rintro rs τ' hl' ⟨rfl, rfl⟩
      have he : l ++ ls (shw t) = l ++ ls s ++ [41] := by rw [hs, ← hr, ls_app, ← List.append_assoc]
      rw [he]
      exact ⟨bU (l ++ ls s ++ [41]), ⟨⟨⟨rfl, rfl, rfl, trivial⟩, rfl, trivial⟩, rfl⟩, rfl, rfl⟩
  · have hlf : t.lf = true := by simpa using c
    have hs : ls (shw t) = ls t.nm ++ (34 :: ((ls t.tx).flatMap qb ++ [34])) := by rw [shw_eq, if_pos hlf, ls_app]; rfl
    refine callG [0, 1] (sStrU l t.nm (by omega)) rfl (fun K hk => hk) ?_
    rintro rs τ' hl' ⟨rfl, rfl⟩
    refine callG [0, 1] (sByteV (l ++ ls t.nm) 34 34 rfl (by simp; omega)) rfl (fun K hk => hk) ?_
    rintro rs τ' hl' ⟨rfl, rfl⟩
    refine ⟨Int × List UInt8, fun x => ([(0, .ptr 0 0), (3, .ptr 2 0), (6, .p (I x.1))], bT (l ++ ls t.nm ++ [34] ++ x.2) t),
      fun x n => 0 ≤ x.1 ∧ x.1 ≤ t.tx.size ∧ n = (t.tx.size - x.1).toNat ∧ x.2.length ≤ 4 * x.1 ∧ x.2 ++ ((ls t.tx).drop x.1.toNat).flatMap qb = (ls t.tx).flatMap qb,
      ⟨(0, []), _, ⟨by simp, by simp, rfl, by simp, by simp⟩, [], ⟨rfl, rfl, rfl, trivial⟩, ⟨⟨rfl, rfl, ?_, trivial⟩, ?_, ⟨rfl, rfl, rfl, rfl, rfl, trivial⟩, trivial⟩, rfl⟩, ?_⟩
    · exact congrArg (fun x : List UInt8 => AV.row 1 1 0 x.length) (List.append_nil _)
    · exact congrArg (fun x : List UInt8 => Bk.row 5 1 (bl x)) (List.append_nil _)
    rintro ⟨i, q⟩ n ⟨h0, h1, rfl, h2, hr⟩
    simp only at h0 h1 h2 hr
    refine And.intro (fun c => ?_) (fun c => ?_) <;> simp only [decide_eq_true_eq, decide_eq_false_iff_not] at c
    · obtain ⟨b, hb, hd⟩ := bt_drop h0 c
      rw [show ls t.tx = t.tx.data.toList from rfl] at hr
      rw [hd, List.flatMap_cons] at hr
      have hq := qb_len b
      refine And.intro ⟨h0, c⟩ ?_
      rw [hb]
      repeat' first
        | (refine And.intro (fun c => ?_) (fun c => ?_) <;> first | exact absurd c (by decide) | (cases c; done) | (simp only [decide_eq_true_eq, decide_eq_false_iff_not] at c) | skip)
        | refine And.intro (show (_ : Int) ≠ 0 by decide) ?_
        | fail
      · have hqb : qb b = [92, b] := by grind [qb]
        refine callG [0, 1] (sByteV (l ++ ls t.nm ++ [34] ++ q) 92 92 rfl (by simp; omega)) rfl (fun K hk => hk) ?_
        rintro rs τ' hl' ⟨rfl, rfl⟩
        refine callG [0, 1] (sByteV ((l ++ ls t.nm ++ [34] ++ q) ++ [92]) _ b rfl (by simp; omega)) rfl (fun K hk => hk) ?_
        rintro rs τ' hl' ⟨rfl, rfl⟩
        refine ⟨(i + 1, q ++ qb b), _, ⟨by simp; omega, by simp; omega, rfl, by simp; omega, by simpa using hr⟩, by simp; omega, [], ⟨rfl, rfl, congrArg (fun x => AV.p (I x)) (w64 (by omega)).symm, trivial⟩, ⟨⟨rfl, rfl, ?_, trivial⟩, ?_, ⟨rfl, rfl, rfl, rfl, rfl, trivial⟩, trivial⟩, rfl⟩
        · exact congrArg (fun x : List UInt8 => AV.row 1 1 0 x.length) (by rw [hqb]; simp)
        · exact congrArg (fun x : List UInt8 => Bk.row 5 1 (bl x)) (by rw [hqb]; simp)
      · have hqb : qb b = [b] := by grind [qb]
        refine callG [0, 1] (sByteV (l ++ ls t.nm ++ [34] ++ q) _ b rfl (by simp; omega)) rfl (fun K hk => hk) ?_
        rintro rs τ' hl' ⟨rfl, rfl⟩
        refine ⟨(i + 1, q ++ qb b), _, ⟨by simp; omega, by simp; omega, rfl, by simp; omega, by simpa using hr⟩, by simp; omega, [], ⟨rfl, rfl, congrArg (fun x => AV.p (I x)) (w64 (by omega)).symm, trivial⟩, ⟨⟨rfl, rfl, ?_, trivial⟩, ?_, ⟨rfl, rfl, rfl, rfl, rfl, trivial⟩, trivial⟩, rfl⟩
        · exact congrArg (fun x : List UInt8 => AV.row 1 1 0 x.length) (by rw [hqb]; simp)
        · exact congrArg (fun x : List UInt8 => Bk.row 5 1 (bl x)) (by rw [hqb]; simp)
      · have hqb : qb b = [92, UInt8.ofNat (48 + b.toNat / 100), UInt8.ofNat (48 + b.toNat / 10 % 10), UInt8.ofNat (48 + b.toNat % 10)] := by grind [qb]
        refine callG [0, 1] (sByteV (l ++ ls t.nm ++ [34] ++ q) 92 92 rfl (by simp; omega)) rfl (fun K hk => hk) ?_
        rintro rs τ' hl' ⟨rfl, rfl⟩
        refine And.intro (show (_ : Int) ≠ 0 by decide) ?_
        refine callG [0, 1] (sByteV ((l ++ ls t.nm ++ [34] ++ q) ++ [92]) _ (UInt8.ofNat (48 + b.toNat / 100)) (dig1 b) (by simp; omega)) rfl (fun K hk => hk) ?_
        rintro rs τ' hl' ⟨rfl, rfl⟩
        refine And.intro (show (_ : Int) ≠ 0 by decide) ?_
        refine And.intro (show (_ : Int) ≠ 0 by decide) ?_
        refine callG [0, 1] (sByteV (((l ++ ls t.nm ++ [34] ++ q) ++ [92]) ++ [(UInt8.ofNat (48 + b.toNat / 100))]) _ (UInt8.ofNat (48 + b.toNat / 10 % 10)) (dig2 b) (by simp; omega)) rfl (fun K hk => hk) ?_
        rintro rs τ' hl' ⟨rfl, rfl⟩
        refine And.intro (show (_ : Int) ≠ 0 by decide) ?_
        refine callG [0, 1] (sByteV ((((l ++ ls t.nm ++ [34] ++ q) ++ [92]) ++ [(UInt8.ofNat (48 + b.toNat / 100))]) ++ [(UInt8.ofNat (48 + b.toNat / 10 % 10))]) _ (UInt8.ofNat (48 + b.toNat % 10)) (dig3 b) (by simp; omega)) rfl (fun K hk => hk) ?_
        rintro rs τ' hl' ⟨rfl, rfl⟩
        refine ⟨(i + 1, q ++ qb b), _, ⟨by simp; omega, by simp; omega, rfl, by simp; omega, by simpa using hr⟩, by simp; omega, [], ⟨rfl, rfl, congrArg (fun x => AV.p (I x)) (w64 (by omega)).symm, trivial⟩, ⟨⟨rfl, rfl, ?_, trivial⟩, ?_, ⟨rfl, rfl, rfl, rfl, rfl, trivial⟩, trivial⟩, rfl⟩
        · exact congrArg (fun x : List UInt8 => AV.row 1 1 0 x.length) (by rw [hqb]; simp)
        · exact congrArg (fun x : List UInt8 => Bk.row 5 1 (bl x)) (by rw [hqb]; simp)
      · have hqb : qb b = [92, UInt8.ofNat (48 + b.toNat / 100), UInt8.ofNat (48 + b.toNat / 10 % 10), UInt8.ofNat (48 + b.toNat % 10)] := by grind [qb]
        refine callG [0, 1] (sByteV (l ++ ls t.nm ++ [34] ++ q) 92 92 rfl (by simp; omega)) rfl (fun K hk => hk) ?_
        rintro rs τ' hl' ⟨rfl, rfl⟩
        refine And.intro (show (_ : Int) ≠ 0 by decide) ?_
        refine callG [0, 1] (sByteV ((l ++ ls t.nm ++ [34] ++ q) ++ [92]) _ (UInt8.ofNat (48 + b.toNat / 100)) (dig1 b) (by simp; omega)) rfl (fun K hk => hk) ?_
        rintro rs τ' hl' ⟨rfl, rfl⟩
        refine And.intro (show (_ : Int) ≠ 0 by decide) ?_
        refine And.intro (show (_ : Int) ≠ 0 by decide) ?_
        refine callG [0, 1] (sByteV (((l ++ ls t.nm ++ [34] ++ q) ++ [92]) ++ [(UInt8.ofNat (48 + b.toNat / 100))]) _ (UInt8.ofNat (48 + b.toNat / 10 % 10)) (dig2 b) (by simp; omega)) rfl (fun K hk => hk) ?_
        rintro rs τ' hl' ⟨rfl, rfl⟩
        refine And.intro (show (_ : Int) ≠ 0 by decide) ?_
        refine callG [0, 1] (sByteV ((((l ++ ls t.nm ++ [34] ++ q) ++ [92]) ++ [(UInt8.ofNat (48 + b.toNat / 100))]) ++ [(UInt8.ofNat (48 + b.toNat / 10 % 10))]) _ (UInt8.ofNat (48 + b.toNat % 10)) (dig3 b) (by simp; omega)) rfl (fun K hk => hk) ?_
        rintro rs τ' hl' ⟨rfl, rfl⟩
        refine ⟨(i + 1, q ++ qb b), _, ⟨by simp; omega, by simp; omega, rfl, by simp; omega, by simpa using hr⟩, by simp; omega, [], ⟨rfl, rfl, congrArg (fun x => AV.p (I x)) (w64 (by omega)).symm, trivial⟩, ⟨⟨rfl, rfl, ?_, trivial⟩, ?_, ⟨rfl, rfl, rfl, rfl, rfl, trivial⟩, trivial⟩, rfl⟩
        · exact congrArg (fun x : List UInt8 => AV.row 1 1 0 x.length) (by rw [hqb]; simp)
        · exact congrArg (fun x : List UInt8 => Bk.row 5 1 (bl x)) (by rw [hqb]; simp)
      · have hqb : qb b = [92, b] := by grind [qb]
        refine callG [0, 1] (sByteV (l ++ ls t.nm ++ [34] ++ q) 92 92 rfl (by simp; omega)) rfl (fun K hk => hk) ?_
        rintro rs τ' hl' ⟨rfl, rfl⟩
        refine callG [0, 1] (sByteV ((l ++ ls t.nm ++ [34] ++ q) ++ [92]) _ b rfl (by simp; omega)) rfl (fun K hk => hk) ?_
        rintro rs τ' hl' ⟨rfl, rfl⟩
        refine ⟨(i + 1, q ++ qb b), _, ⟨by simp; omega, by simp; omega, rfl, by simp; omega, by simpa using hr⟩, by simp; omega, [], ⟨rfl, rfl, congrArg (fun x => AV.p (I x)) (w64 (by omega)).symm, trivial⟩, ⟨⟨rfl, rfl, ?_, trivial⟩, ?_, ⟨rfl, rfl, rfl, rfl, rfl, trivial⟩, trivial⟩, rfl⟩
        · exact congrArg (fun x : List UInt8 => AV.row 1 1 0 x.length) (by rw [hqb]; simp)
        · exact congrArg (fun x : List UInt8 => Bk.row 5 1 (bl x)) (by rw [hqb]; simp)
    · rw [drop_all (s := t.tx) (by omega)] at hr
      simp only [List.flatMap_nil, List.append_nil] at hr
      refine callG [0, 1] (sByteV (l ++ ls t.nm ++ [34] ++ q) 34 34 rfl (by simp; omega)) rfl (fun K hk => hk) ?_
      rintro rs τ' hl' ⟨rfl, rfl⟩
      have he : l ++ ls (shw t) = l ++ ls t.nm ++ [34] ++ q ++ [34] := by rw [hs, ← hr]; simp
      rw [he]
      exact ⟨bU (l ++ ls t.nm ++ [34] ++ q ++ [34]), ⟨⟨⟨rfl, rfl, rfl, trivial⟩, rfl, trivial⟩, rfl⟩, rfl, rfl⟩
termination_by SizeOf.sizeOf t
decreasing_by exact kid_lt hk
end Go.Proofs.Ytgdecbliegelmaa.Z
