/- Draws: bytes, numbers, names, texts. -/
import Derived.Test.YtegpjjnedbbpjaaTrI
set_option linter.unusedVariables false
set_option linter.unusedSimpArgs false
namespace Go.Proofs.Ytegpjjnedbbpjaa.Z
open Go Go.RowKit Go.Proofs.Sy Go.Proofs
set_option maxRecDepth 100000
structure Cu where
  code : List UInt8
  at_ : Int
  seed : Int
  ok : 0 ≤ at_ ∧ at_ ≤ code.length ∧ code.length ≤ 2147483648 ∧ 0 ≤ seed ∧ seed ≤ 4294967296
def cuB (c : Cu) : Sto := [.box 213 [.p (.lst (bl c.code)), .p (I c.at_), .p (I c.seed)]]
def byteM (c : Cu) : Int × Cu :=
  if h : c.at_ < c.code.length then (((c.code.getD c.at_.toNat 0).toNat : Int), ⟨c.code, c.at_ + 1, c.seed, by have := c.ok; omega⟩)
  else (if c.code.length = 0 then 0 else (c.seed * 1103515245 + 12345) % 2147483648 / 65536 % 256, ⟨c.code, c.at_, (c.seed * 1103515245 + 12345) % 2147483648, by have := c.ok; omega⟩)
theorem byteM_rng (c : Cu) : 0 ≤ (byteM c).1 ∧ (byteM c).1 < 256 := by
  unfold byteM
  split
  · have := (c.code.getD c.at_.toNat 0).toNat_lt; simp only; omega
  · split <;> simp only <;> omega
theorem bl_get {l : List UInt8} {i : Int} (h0 : 0 ≤ i) (h : i < l.length) : (bl l)[i.toNat]? = some (U8 (l.getD i.toNat 0).toNat) := by
  have : i.toNat < l.length := by omega
  simp [bl, this]
theorem cByte (c : Cu) : Sy.Fn Try.prog 158 [.ptr 0 0] (cuB c) (fun rs τ' => rs = [.p (I (byteM c).1)] ∧ τ' = cuB (byteM c).2) := by
  have hok := c.ok
  refine fn_intro Try.func158 rfl rfl rfl ?_
  refine ⟨[0, 1, 2, 3, 4, 5, 6, 7, 8, 9], [], by decide +kernel, ?_⟩
  refine And.intro (fun h => ?_) (fun h => ?_) <;> simp only [decide_eq_true_eq, decide_eq_false_iff_not, bl_len] at h
  · refine ⟨[0, 1, 2, 3, 4, 5, 6, 7, 8, 9, 10, 11, 12], [], by decide +kernel, ?_⟩
    have e1 : wr .i64 (c.at_ + 1) = c.at_ + 1 := w64 (by omega)
    have e : wr .i64 (wr .i64 (c.at_ + 1) - 1) = c.at_ := by rw [e1]; exact (w64 (by omega)).trans (by omega)
    refine And.intro (show 0 ≤ wr .i64 (wr .i64 (c.at_ + 1) - 1) by rw [e]; exact hok.1) (Exists.intro (U8 (c.code.getD c.at_.toNat 0).toNat) (And.intro (show (bl c.code)[(wr .i64 (wr .i64 (c.at_ + 1) - 1)).toNat]? = _ by rw [e]; exact bl_get hok.1 h) (And.intro rfl ?_)))
    have hb := (c.code.getD c.at_.toNat 0).toNat_lt
    have hm : byteM c = (((c.code.getD c.at_.toNat 0).toNat : Int), ⟨c.code, c.at_ + 1, c.seed, by have := c.ok; omega⟩) := by unfold byteM; rw [dif_pos h]
    rw [hm]
    refine ⟨cuB ⟨c.code, c.at_ + 1, c.seed, by have := c.ok; omega⟩, ⟨⟨⟨rfl, rfl, congrArg (fun x => AV.p (I x)) e1.symm, rfl, trivial⟩, trivial⟩, rfl⟩, congrArg (fun x => [AV.p (I x)]) (w64 (by omega)), rfl⟩
  · have e1 : Int.tmod (wr .i64 (wr .i64 (c.seed * 1103515245) + 12345)) 2147483648 = (c.seed * 1103515245 + 12345) % 2147483648 := by
      have h1 : wr .i64 (c.seed * 1103515245) = c.seed * 1103515245 := w64 (by omega)
      have h2 : wr .i64 (c.seed * 1103515245 + 12345) = c.seed * 1103515245 + 12345 := w64 (by omega)
      rw [h1, h2, Int.tmod_eq_emod_of_nonneg (by omega)]
    have hm : byteM c = (if c.code.length = 0 then 0 else (c.seed * 1103515245 + 12345) % 2147483648 / 65536 % 256, ⟨c.code, c.at_, (c.seed * 1103515245 + 12345) % 2147483648, by have := c.ok; omega⟩) := by unfold byteM; rw [dif_neg h]
    rw [hm]
    refine And.intro (by decide) ?_
    refine And.intro (fun h2 => ?_) (fun h2 => ?_)
    · have h3 : c.code.length = 0 := by simpa [bl_len] using h2
      rw [if_pos h3]
      exact ⟨cuB ⟨c.code, c.at_, (c.seed * 1103515245 + 12345) % 2147483648, by have := c.ok; omega⟩, ⟨⟨⟨rfl, rfl, rfl, congrArg (fun x => AV.p (I x)) e1.symm, trivial⟩, trivial⟩, rfl⟩, rfl, rfl⟩
    · have h3 : ¬ c.code.length = 0 := by simpa [bl_len] using h2
      rw [if_neg h3]
      refine And.intro (by decide) (And.intro (by decide) ?_)
      refine ⟨cuB ⟨c.code, c.at_, (c.seed * 1103515245 + 12345) % 2147483648, by have := c.ok; omega⟩, ⟨⟨⟨rfl, rfl, rfl, congrArg (fun x => AV.p (I x)) e1.symm, trivial⟩, trivial⟩, rfl⟩, congrArg (fun x => [AV.p (I x)]) ?_, rfl⟩
      show Int.tmod (wr .i64 (Int.tdiv (Int.tmod (wr .i64 (wr .i64 (c.seed * 1103515245) + 12345)) 2147483648) 65536)) 256 = _
      rw [e1, Int.tdiv_eq_ediv_of_nonneg (by omega)]
      have h4 : wr .i64 ((c.seed * 1103515245 + 12345) % 2147483648 / 65536) = (c.seed * 1103515245 + 12345) % 2147483648 / 65536 := w64 (by omega)
      rw [h4, Int.tmod_eq_emod_of_nonneg (by omega)]
def pickM (n : Int) (c : Cu) : Int × Cu :=
  if n ≤ 1 then (0, c) else if n ≤ 256 then ((byteM c).1 % n, (byteM c).2)
  else (((byteM c).1 * 256 + (byteM (byteM c).2).1) % n, (byteM (byteM c).2).2)
theorem pickM_rng (n : Int) (c : Cu) : 0 ≤ (pickM n c).1 ∧ ((pickM n c).1 < n ∨ (pickM n c).1 = 0) := by
  unfold pickM
  split
  · simp
  · split
    · exact ⟨Int.emod_nonneg _ (by omega), .inl (Int.emod_lt_of_pos _ (by omega))⟩
    · exact ⟨Int.emod_nonneg _ (by omega), .inl (Int.emod_lt_of_pos _ (by omega))⟩
theorem cPick (n : Int) (c : Cu) : Sy.Fn Try.prog 78 [.ptr 0 0, .p (I n)] (cuB c) (fun rs τ' => rs = [.p (I (pickM n c).1)] ∧ τ' = cuB (pickM n c).2) := by
  have h1 := byteM_rng c
  have h2 := byteM_rng (byteM c).2
  refine fn_intro Try.func78 rfl rfl rfl ?_
  refine And.intro (fun h => ?_) (fun h => ?_) <;> simp only [decide_eq_true_eq, decide_eq_false_iff_not] at h
  · have hm : pickM n c = (0, c) := by unfold pickM; rw [if_pos h]
    rw [hm]
    exact ⟨cuB c, ⟨⟨⟨rfl, rfl, rfl, rfl, trivial⟩, trivial⟩, rfl⟩, rfl, rfl⟩
  · refine And.intro (fun h' => ?_) (fun h' => ?_) <;> simp only [decide_eq_true_eq, decide_eq_false_iff_not] at h'
    · have hm : pickM n c = ((byteM c).1 % n, (byteM c).2) := by unfold pickM; rw [if_neg h, if_pos h']
      rw [hm]
      refine callG [0] (cByte c) rfl (fun K hk => hk) ?_
      rintro rs τ' hl' ⟨rfl, rfl⟩
      refine And.intro (show n ≠ 0 by omega) ?_
      exact ⟨cuB (byteM c).2, ⟨⟨⟨rfl, rfl, rfl, rfl, trivial⟩, trivial⟩, rfl⟩, congrArg (fun x => [AV.p (I x)]) (Int.tmod_eq_emod_of_nonneg (by omega)), rfl⟩
    · have hm : pickM n c = (((byteM c).1 * 256 + (byteM (byteM c).2).1) % n, (byteM (byteM c).2).2) := by unfold pickM; rw [if_neg h, if_neg h']
      rw [hm]
      refine callG [0] (cByte c) rfl (fun K hk => hk) ?_
      rintro rs τ' hl' ⟨rfl, rfl⟩
      refine callG [0] (cByte (byteM c).2) rfl (fun K hk => hk) ?_
      rintro rs τ' hl' ⟨rfl, rfl⟩
      refine And.intro (show n ≠ 0 by omega) ?_
      refine ⟨cuB (byteM (byteM c).2).2, ⟨⟨⟨rfl, rfl, rfl, rfl, trivial⟩, trivial⟩, rfl⟩, congrArg (fun x => [AV.p (I x)]) ?_, rfl⟩
      show Int.tmod (wr .i64 (wr .i64 ((byteM c).1 * 256) + (byteM (byteM c).2).1)) n = _
      have e1 : wr .i64 ((byteM c).1 * 256) = (byteM c).1 * 256 := w64 (by omega)
      have e2 : wr .i64 ((byteM c).1 * 256 + (byteM (byteM c).2).1) = (byteM c).1 * 256 + (byteM (byteM c).2).1 := w64 (by omega)
      rw [e1, e2, Int.tmod_eq_emod_of_nonneg (by omega)]
def sizeM (most : Int) (c : Cu) : Int × Cu := pickM ((if (c.code.length : Int) / 12 + 2 > most then most else (c.code.length : Int) / 12 + 2) + 1) c
theorem cSize (most : Int) (c : Cu) (hm : 0 ≤ most ∧ most ≤ 1000000) : Sy.Fn Try.prog 160 [.ptr 0 0, .p (I most)] (cuB c) (fun rs τ' => rs = [.p (I (sizeM most c).1)] ∧ τ' = cuB (sizeM most c).2) := by
  have hok := c.ok
  refine fn_intro Try.func160 rfl rfl rfl ?_
  have e1 : wr .i64 (wr .i64 (Int.tdiv ((bl c.code).length : Int) 12) + 2) = (c.code.length : Int) / 12 + 2 := by
    rw [bl_len, Int.tdiv_eq_ediv_of_nonneg (by omega)]
    have h1 : wr .i64 ((c.code.length : Int) / 12) = (c.code.length : Int) / 12 := w64 (by omega)
    rw [h1]; exact w64 (by omega)
  refine And.intro (by decide) ?_
  refine And.intro (fun h => ?_) (fun h => ?_)
  · have h' : (c.code.length : Int) / 12 + 2 > most := by rw [← e1]; exact of_decide_eq_true h
    have hs : sizeM most c = pickM (wr .i64 (most + 1)) c := by
      unfold sizeM; rw [if_pos h', show wr .i64 (most + 1) = most + 1 from w64 (by omega)]
    rw [hs]
    refine callG [0] (cPick (wr .i64 (most + 1)) c) rfl (fun K hk => hk) ?_
    rintro rs τ' hl' ⟨rfl, rfl⟩
    exact ⟨cuB _, ⟨⟨⟨rfl, rfl, rfl, rfl, trivial⟩, trivial⟩, rfl⟩, rfl, rfl⟩
  · have h' : ¬ (c.code.length : Int) / 12 + 2 > most := by rw [← e1]; exact of_decide_eq_false h
    have hs : sizeM most c = pickM (wr .i64 (wr .i64 (wr .i64 (Int.tdiv ((bl c.code).length : Int) 12) + 2) + 1)) c := by
      unfold sizeM; rw [if_neg h', e1, show wr .i64 ((c.code.length : Int) / 12 + 2 + 1) = (c.code.length : Int) / 12 + 2 + 1 from w64 (by omega)]
    rw [hs]
    refine callG [0] (cPick (wr .i64 (wr .i64 (wr .i64 (Int.tdiv ((bl c.code).length : Int) 12) + 2) + 1)) c) rfl (fun K hk => hk) ?_
    rintro rs τ' hl' ⟨rfl, rfl⟩
    exact ⟨cuB _, ⟨⟨⟨rfl, rfl, rfl, rfl, trivial⟩, trivial⟩, rfl⟩, rfl, rfl⟩
theorem cCur (code : List UInt8) (h : code.length ≤ 2147483648) : Sy.Fn Try.prog 75 [.p (.lst (bl code))] [] (fun rs τ' => rs = [.ptr 0 0] ∧ τ' = cuB ⟨code, 0, 17 + code.length, by omega⟩) := by
  refine fn_intro Try.func75 rfl rfl rfl ?_
  refine ⟨cuB ⟨code, 0, 17 + code.length, by omega⟩, ⟨⟨⟨rfl, rfl, rfl, congrArg (fun x => AV.p (I x)) ?_, trivial⟩, trivial⟩, rfl⟩, rfl, rfl⟩
  show (17 + (code.length : Int)) = wr .i64 (17 + ((bl code).length : Int))
  rw [bl_len]; exact (w64 (by omega)).symm
def mkLeaf (n t : ByteArray) : Tree := ⟨n, t, true, []⟩
def mkNode (n : ByteArray) (ks : List Tree) : Tree := ⟨n, ⟨#[]⟩, false, ks⟩
theorem cLeaf (n t : ByteArray) : FnP Try.prog 109 [S n, S t] [(mkLeaf n t).enc] := by
  refine fn_intro Try.func109 rfl rfl rfl ?_
  exact .inl ⟨[], ⟨trivial, rfl⟩, rfl, rfl⟩
theorem cNode (n : ByteArray) (ks : List Tree) : FnP Try.prog 110 [S n, .lst (encM ks)] [(mkNode n ks).enc] := by
  refine fn_intro Try.func110 rfl rfl rfl ?_
  exact ⟨[], ⟨trivial, rfl⟩, rfl, rfl⟩
def nmL : List ByteArray := [⟨#[65, 100, 100]⟩, ⟨#[78, 117, 109]⟩, ⟨#[73, 100]⟩, ⟨#[97]⟩, ⟨#[98]⟩, ⟨#[120, 49]⟩, ⟨#[90, 95, 122]⟩, ⟨#[76, 105, 115, 116]⟩, ⟨#[73, 102]⟩, ⟨#[97, 98, 99, 100, 101, 102, 103, 104, 105, 106, 107, 108, 109, 110, 111, 112, 113, 114, 115, 116, 117, 118, 119, 120]⟩]
def txL : List ByteArray := [⟨#[]⟩, ⟨#[49]⟩, ⟨#[43]⟩, ⟨#[120]⟩, ⟨#[97, 32, 98]⟩, ⟨#[34]⟩, ⟨#[92, 10]⟩, ⟨#[0, 255, 126]⟩, ⟨#[49, 50]⟩, ⟨#[127]⟩, ⟨#[105, 102]⟩]
def nmM (c : Cu) : ByteArray × Cu := (nmL.getD (pickM 10 c).1.toNat ⟨#[]⟩, (pickM 10 c).2)
theorem cName (c : Cu) : Sy.Fn Try.prog 212 [.ptr 0 0] (cuB c) (fun rs τ' => rs = [.p (S (nmM c).1)] ∧ τ' = cuB (nmM c).2) := by
  have hp := pickM_rng 10 c
  have hx : (nmL.map S)[0 + (pickM 10 c).1.toNat]? = some (S (nmM c).1) := by
    have : (pickM 10 c).1.toNat < nmL.length := by show _ < 10; omega
    simp [nmM, this]
  refine fn_intro Try.func212 rfl rfl rfl ?_
  refine And.intro (show fits _ _ by repeat' constructor) ?_
  refine callG [0] (cPick 10 c) rfl (fun K hk => hk) ?_
  rintro rs τ' hl' ⟨rfl, rfl⟩
  refine And.intro ⟨hp.1, show (pickM 10 c).1 < (10 : Nat) by omega⟩ (Exists.intro (S (nmM c).1) (And.intro hx ?_))
  exact ⟨cuB _, ⟨⟨⟨rfl, rfl, rfl, rfl, trivial⟩, trivial⟩, rfl⟩, rfl, rfl⟩
def txM (c : Cu) : ByteArray × Cu := (txL.getD (pickM 11 c).1.toNat ⟨#[]⟩, (pickM 11 c).2)
theorem cText (c : Cu) : Sy.Fn Try.prog 213 [.ptr 0 0] (cuB c) (fun rs τ' => rs = [.p (S (txM c).1)] ∧ τ' = cuB (txM c).2) := by
  have hp := pickM_rng 11 c
  have hx : (txL.map S)[0 + (pickM 11 c).1.toNat]? = some (S (txM c).1) := by
    have : (pickM 11 c).1.toNat < txL.length := by show _ < 11; omega
    simp [txM, this]
  refine fn_intro Try.func213 rfl rfl rfl ?_
  refine And.intro (show fits _ _ by repeat' constructor) ?_
  refine callG [0] (cPick 11 c) rfl (fun K hk => hk) ?_
  rintro rs τ' hl' ⟨rfl, rfl⟩
  refine And.intro ⟨hp.1, show (pickM 11 c).1 < (11 : Nat) by omega⟩ (Exists.intro (S (txM c).1) (And.intro hx ?_))
  exact ⟨cuB _, ⟨⟨⟨rfl, rfl, rfl, rfl, trivial⟩, trivial⟩, rfl⟩, rfl, rfl⟩
end Go.Proofs.Ytegpjjnedbbpjaa.Z
