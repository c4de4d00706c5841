/- Trees: the program's number of a tree. -/
import Derived.Test.YtgdecbliegelmaaTrK
set_option linter.unusedVariables false
set_option linter.unusedSimpArgs false
namespace Go.Proofs.Ytgdecbliegelmaa.Z
open Go Go.RowKit Go.Proofs.Sy Go.Proofs
set_option maxRecDepth 100000
theorem ba_ls (s : ByteArray) : (⟨(ls s).toArray⟩ : ByteArray) = s := rfl
theorem shw_ne (t : Tree) (hnm : 0 < t.nm.size) : ls (shw t) ≠ [] := fun h => by
  have h1 : (ls (shw t)).length = 0 := by rw [h]; rfl
  rw [show (ls (shw t)).length = (shw t).size from size_list _, shw_eq] at h1
  split at h1
  · rw [ByteArray.size_append] at h1; omega
  · have e : c41.size = 1 := rfl
    rw [ByteArray.size_append] at h1; omega
theorem iText (t : Tree) (hw : 8 * wt t ≤ 10000000000000) (hnm : 0 < t.nm.size) : FnP Try.prog 77 [t.enc] [S (shw t)] := by
  have hsz := shw_size t
  have hls : (ls (shw t)).length = (shw t).size := size_list _
  refine fn_intro Try.func77 rfl rfl rfl ?_
  refine callG [1] (iShowF t hw hnm) rfl (fun K hk => hk) ?_
  rintro rs τ' hl' ⟨rfl, h⟩
  by_cases hlf : t.lf = true
  · rw [if_pos hlf] at h
    subst h
    refine callG [1, 3] (sString (ls (shw t)) (shw_ne t hnm) (by omega)) rfl (fun K hk => hk) ?_
    rintro rs τ' hl' ⟨rfl, rfl⟩
    exact ⟨[], ⟨trivial, rfl⟩, rfl, rfl⟩
  · rw [if_neg hlf] at h
    subst h
    refine callG [1, 4] (sString (ls (shw t)) (shw_ne t hnm) (by omega)) rfl (fun K hk => hk) ?_
    rintro rs τ' hl' ⟨rfl, rfl⟩
    exact ⟨[], ⟨trivial, rfl⟩, rfl, rfl⟩
theorem and32 (n : Int) (h : 0 ≤ n ∧ n ≤ 9223372036854775807) : IntKind.i64.wrap ((BitVec.ofInt 64 n &&& BitVec.ofInt 64 4294967295).toNat : Int) = n % 4294967296 := by
  have h127 : (BitVec.ofInt 64 4294967295).toNat = 2 ^ 32 - 1 := by decide
  have h1 : (BitVec.ofInt 64 n &&& BitVec.ofInt 64 4294967295).toNat = (n % 18446744073709551616).toNat % 4294967296 := by
    rw [BitVec.toNat_and, BitVec.toNat_ofInt, h127, Nat.and_two_pow_sub_one_eq_mod]
    rfl
  rw [h1]
  have : (wr .i64 (((n % 18446744073709551616).toNat % 4294967296 : Nat) : Int)) = (((n % 18446744073709551616).toNat % 4294967296 : Nat) : Int) := w64 (by omega)
  rw [wr_eq] at this
  rw [this]
  omega
theorem iTreeHash (t : Tree) (hw : wt t ≤ 1099511627776) : FnP Try.prog 36 [t.enc] [I (if okT t = true then hashT t else 0), I (if okT t = true then 0 else 1)] := by
  have hsz := shw_size t
  refine fn_intro Try.func36 rfl rfl rfl ?_
  refine callA (iTreeOK t hw) ?_
  refine And.intro (fun c => ?_) (fun c => ?_)
  · rw [if_neg (by grind), if_neg (by grind)]
    exact ⟨[], ⟨trivial, rfl⟩, rfl, rfl⟩
  · have hok : okT t = true := by grind
    rw [if_pos hok, if_pos hok]
    have hr := (okT_eq t).mp hok
    rw [right_eq] at hr
    have hnm : nameOK t.nm = true := by grind
    have hnm1 : 0 < t.nm.size := by grind [nameOK]
    refine callA (iText t (by omega) hnm1) ?_
    refine ⟨Int × Int, fun x => ([(4, .p (I x.2)), (5, .p (S (shw t))), (6, .p (I x.1))], []),
      fun x n => 0 ≤ x.1 ∧ x.1 ≤ (shw t).size ∧ n = ((shw t).size - x.1).toNat ∧ 0 ≤ x.2 ∧ x.2 < 4294967296 ∧ hash x.2 ((shw t).data.toList.drop x.1.toNat) = hashT t,
      ⟨(0, 5381), _, ⟨by simp, by simp, rfl, by simp, by simp, rfl⟩, [], ⟨rfl, rfl, rfl, trivial⟩, trivial, rfl⟩, ?_⟩
    rintro ⟨i, g⟩ n ⟨h0, h1, rfl, h2, h3, hr⟩
    simp only at h0 h1 h2 h3 hr
    refine And.intro (fun c => ?_) (fun c => ?_) <;> simp only [decide_eq_true_eq, decide_eq_false_iff_not] at c
    · obtain ⟨b, hb, hd⟩ := bt_drop h0 c
      have hlt : b.toNat < 256 := b.toNat_lt
      rw [hd, hash, List.foldl_cons] at hr
      refine And.intro ⟨h0, c⟩ ?_
      refine ⟨(i + 1, (g * 33 + b.toNat) % 4294967296), _, ⟨by simp; omega, by simp; omega, rfl, by simp; omega, by simp; omega, hr⟩, by simp; omega, [], ⟨congrArg (fun x => AV.p (I x)) ?_, rfl, congrArg (fun x => AV.p (I x)) (w64 (by omega)).symm, trivial⟩, trivial, rfl⟩
      show _ = IntKind.i64.wrap ((BitVec.ofInt 64 (wrap64 (wrap64 (g * 33) + wrap64 (bt (shw t) i))) &&& BitVec.ofInt 64 4294967295).toNat : Int)
      rw [hb, w64 (n := g * 33) (by omega), w64 (n := (b.toNat : Int)) (by omega), w64 (by omega), and32 _ (by omega)]
    · rw [drop_all (by omega)] at hr
      exact ⟨[], ⟨trivial, rfl⟩, congrArg (fun x => [AV.p (I x), AV.p (I 0)]) hr, rfl⟩
end Go.Proofs.Ytgdecbliegelmaa.Z
