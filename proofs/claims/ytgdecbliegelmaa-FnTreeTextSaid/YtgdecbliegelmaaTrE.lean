/- Trees: the text of a tree, its number (spec). -/
import Derived.Test.YtgdecbliegelmaaTrDq
set_option linter.unusedVariables false
set_option linter.unusedSimpArgs false
namespace Go.Proofs.Ytgdecbliegelmaa.Z
open Go Go.RowKit Go.Proofs.Sy Go.Proofs
set_option maxRecDepth 100000
abbrev c32 : ByteArray := ⟨#[32]⟩
abbrev c40 : ByteArray := ⟨#[40]⟩
abbrev c41 : ByteArray := ⟨#[41]⟩
mutual
def shw : Tree → ByteArray
  | ⟨nm, tx, lf, ks⟩ => if lf = true then nm ++ quote tx else shwL ks (c40 ++ nm) ++ c41
def shwL : List Tree → ByteArray → ByteArray
  | [], s => s
  | k :: ks, s => shwL ks (s ++ c32 ++ shw k)
end
theorem shw_eq (t : Tree) : shw t = if t.lf = true then t.nm ++ quote t.tx else shwL t.ks (c40 ++ t.nm) ++ c41 := by cases t; rfl
theorem quote_size (s : ByteArray) : (quote s).size ≤ 2 + 4 * s.size := by
  have h : ∀ l : List UInt8, (l.flatMap qb).length ≤ 4 * l.length := fun l => by
    induction l with
    | nil => simp
    | cons b l ih => have := qb_len b; simp only [List.flatMap_cons, List.length_append, List.length_cons]; omega
  have := h s.data.toList
  have e : s.size = s.data.toList.length := by rw [Array.length_toList]; rfl
  show ((34 :: (s.data.toList.flatMap qb ++ [34])).toArray).size ≤ _
  simp only [List.size_toArray, List.length_cons, List.length_append, List.length_nil]
  omega
mutual
theorem shw_size : ∀ t : Tree, (shw t).size + 1 ≤ 8 * wt t
  | ⟨nm, tx, lf, ks⟩ => by
    simp only [shw, wt]
    split
    · have := quote_size tx; rw [ByteArray.size_append]; omega
    · have := shwL_size ks (c40 ++ nm)
      rw [ByteArray.size_append] at this ⊢
      have e1 : c40.size = 1 := rfl
      have e2 : c41.size = 1 := rfl
      omega
theorem shwL_size : ∀ (l : List Tree) (s : ByteArray), (shwL l s).size ≤ s.size + 8 * wtL l
  | [], s => by simp only [shwL]; omega
  | k :: ks, s => by
    have h1 := shw_size k
    have h2 := shwL_size ks (s ++ c32 ++ shw k)
    have e1 : c32.size = 1 := rfl
    simp only [shwL, wtL]
    rw [ByteArray.size_append, ByteArray.size_append] at h2
    omega
end
theorem sShow (t : Tree) (hw : wt t ≤ 1099511627776) : FnP Try.prog 74 [t.enc] [S (shw t)] := by
  have ih : ∀ k, k ∈ t.ks → FnP Try.prog 74 [k.enc] [S (shw k)] := fun k hk => sShow k (by have := wt_kid hk; omega)
  have hl := wt_len t
  have hww := wt_eq t
  rw [shw_eq]
  refine fn_intro Try.func74 rfl rfl rfl ?_
  refine And.intro (fun c => ?_) (fun c => ?_)
  · rw [if_pos c]
    refine ⟨[0, 1, 2, 3, 4, 5, 6], [], by decide +kernel, ?_⟩
    refine callA (sQuote t.tx (by omega)) ?_
    refine And.intro (by have := quote_size t.tx; omega) ?_
    exact ⟨[], ⟨trivial, rfl⟩, rfl, rfl⟩
  · rw [if_neg (by simp [c])]
    have e1 : c40.size = 1 := rfl
    have e2 : c41.size = 1 := rfl
    have e3 : c32.size = 1 := rfl
    refine And.intro (by show ((1 + _ : Nat) : Int) ≤ _; omega) ?_
    refine ⟨Int × ByteArray, fun x => ([(1, .ptr 0 0), (3, .p (S x.2)), (4, .p (I x.1))], [.box 53 [.p (S t.nm), .p (S t.tx), .p (B t.lf), .p (.lst (encM t.ks))]]),
      fun x n => 0 ≤ x.1 ∧ x.1 ≤ t.ks.length ∧ n = (t.ks.length - x.1).toNat ∧ x.2.size + 8 * wtL (t.ks.drop x.1.toNat) ≤ 8 * wt t ∧ shwL (t.ks.drop x.1.toNat) x.2 = shwL t.ks (c40 ++ t.nm),
      ⟨(0, c40 ++ t.nm), _, ⟨by simp, by simp, rfl, by simp; omega, rfl⟩, [], ⟨rfl, rfl, rfl, trivial⟩, ⟨⟨rfl, rfl, rfl, rfl, rfl, trivial⟩, trivial⟩, rfl⟩, ?_⟩
    rintro ⟨i, s⟩ n ⟨h0, h1, rfl, h2, hr⟩
    simp only at h0 h1 h2 hr
    refine And.intro (fun c => ?_) (fun c => ?_) <;> simp only [decide_eq_true_eq, decide_eq_false_iff_not, encM_len] at c
    · obtain ⟨k, hk, hm, hdr⟩ := drop_cons h0 c
      have hsz := shw_size k
      rw [hdr, shwL] at hr
      rw [hdr, wtL] at h2
      refine And.intro (by show ((s.size + 1 : Nat) : Int) ≤ _; omega) ?_
      refine And.intro h0 (Exists.intro k.enc (And.intro (encM_get hk) (And.intro rfl ?_)))
      refine callA (ih k hm) ?_
      refine And.intro (by rw [ByteArray.size_append]; show ((s.size + 1 + _ : Nat) : Int) ≤ _; omega) ?_
      exact ⟨(i + 1, s ++ c32 ++ shw k), _, ⟨by simp; omega, by simp; omega, rfl, by simp only [ByteArray.size_append]; omega, hr⟩, by simp; omega, [], ⟨rfl, rfl, congrArg (fun x => AV.p (I x)) (w64 (by omega)).symm, trivial⟩, ⟨⟨rfl, rfl, rfl, rfl, rfl, trivial⟩, trivial⟩, rfl⟩
    · rw [drop_end (l := t.ks) (i := i) (by omega), shwL] at hr
      refine And.intro (by show ((s.size + 1 : Nat) : Int) ≤ _; omega) ?_
      exact ⟨[], ⟨trivial, rfl⟩, congrArg (fun x => [AV.p (S (x ++ c41))]) hr, rfl⟩
termination_by SizeOf.sizeOf t
decreasing_by exact kid_lt hk
def hash (h : Int) (s : List UInt8) : Int := s.foldl (fun h b => (h * 33 + b.toNat) % 4294967296) h
theorem sHashOn (h : Int) (s : ByteArray) (hh : 0 ≤ h ∧ h < 4294967296) (hs : s.size ≤ 1099511627776000) : FnP Try.prog 79 [I h, S s] [I (hash h s.data.toList)] := by
  refine fn_intro Try.func79 rfl rfl rfl ?_
  refine ⟨Int × Int, fun x => ([(0, .p (I x.2)), (1, .p (S s)), (5, .p (I x.1))], []),
    fun x n => 0 ≤ x.1 ∧ x.1 ≤ s.size ∧ n = (s.size - x.1).toNat ∧ 0 ≤ x.2 ∧ x.2 < 4294967296 ∧ hash x.2 (s.data.toList.drop x.1.toNat) = hash h s.data.toList,
    ⟨(0, h), _, ⟨by simp, by simp, rfl, hh.1, hh.2, rfl⟩, [], ⟨rfl, rfl, rfl, trivial⟩, trivial, rfl⟩, ?_⟩
  rintro ⟨i, g⟩ n ⟨h0, h1, rfl, h2, h3, hr⟩
  simp only at h0 h1 h2 h3 hr
  refine And.intro (fun c => ?_) (fun c => ?_) <;> simp only [decide_eq_true_eq, decide_eq_false_iff_not] at c
  · obtain ⟨b, hb, hd⟩ := bt_drop h0 c
    have hlt : b.toNat < 256 := b.toNat_lt
    rw [hd, hash, List.foldl_cons] at hr
    refine And.intro ⟨h0, c⟩ ?_
    refine And.intro (by decide) ?_
    refine ⟨(i + 1, (g * 33 + b.toNat) % 4294967296), _, ⟨by simp; omega, by simp; omega, rfl, by simp; omega, by simp; omega, hr⟩, by simp; omega, [], ⟨congrArg (fun x => AV.p (I x)) ?_, rfl, congrArg (fun x => AV.p (I x)) (w64 (by omega)).symm, trivial⟩, trivial, rfl⟩
    show _ = Int.tmod (wrap64 (wrap64 (g * 33) + wrap64 (bt s i))) 4294967296
    rw [hb, w64 (n := g * 33) (by omega), w64 (n := (b.toNat : Int)) (by omega), w64 (by omega), Int.tmod_eq_emod_of_nonneg (by omega)]
  · rw [drop_all (by omega)] at hr
    exact ⟨[], ⟨trivial, rfl⟩, congrArg (fun x => [AV.p (I x)]) hr, rfl⟩
end Go.Proofs.Ytgdecbliegelmaa.Z
