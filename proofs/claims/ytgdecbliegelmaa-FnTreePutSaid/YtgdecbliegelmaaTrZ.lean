/- The law FnTreePut: its walk. -/
import Derived.Test.YtgdecbliegelmaaTrY
set_option linter.unusedVariables false
set_option linter.unusedSimpArgs false
namespace Go.Proofs.Ytgdecbliegelmaa.Z
open Go Go.RowKit Go.Proofs.Sy Go.Proofs
set_option maxRecDepth 100000
theorem same_self (t : Tree) : same t t = true := (same_iff t t).mpr rfl
theorem cTreePutLaw (code : List UInt8) : FnP Try.prog 12 [.lst (bl code)] [B true] := by
  obtain ⟨b, hb, hb'⟩ := cBig code
  refine fn_intro Try.func12 rfl rfl rfl ?_
  refine callA hb ?_
  cases b with
  | true =>
    repeat' first | (refine And.intro (fun c => ?_) (fun c => ?_) <;> first | exact absurd c (by decide) | (cases c; done) | (simp only [decide_eq_true_eq, decide_eq_false_iff_not] at c) | skip) | fail
    exact ⟨[], ⟨trivial, rfl⟩, rfl, rfl⟩
  | false =>
  repeat' first | (refine And.intro (fun c => ?_) (fun c => ?_) <;> first | exact absurd c (by decide) | (cases c; done) | (simp only [decide_eq_true_eq, decide_eq_false_iff_not] at c) | skip) | fail
  have hcl := hb' rfl
  have hl : code.length ≤ 2147483648 := by omega
  have hd := cPutD code hl
  obtain ⟨hwt, hwu, hwp⟩ := put_big code hl
  generalize putM code hl = z at *
  obtain ⟨t, p, u⟩ := z
  simp only at hd hwt hwu hwp
  have hkl := wt_len t
  have hpt := wt_put p t u
  have hi := iTreePut t u p (by omega) (by omega) (by omega)
  refine callA hd ?_
  refine callA hd ?_
  refine callA (sTreePut t u p (by omega) (by omega) (by omega)) ?_
  refine callA hi ?_
  have hwR : wt (putR t p u).1 ≤ 3000000 := by
    unfold putR
    repeat' split
    all_goals first | (show wt noT ≤ _; decide) | (show wt (putP t p u) ≤ _; omega)
  refine And.intro (fun _ => ?_) (fun c => absurd c (by simp))
  repeat' first | (refine And.intro (fun c => ?_) (fun c => ?_) <;> first | exact absurd c (by decide) | (cases c; done) | (simp only [decide_eq_true_eq, decide_eq_false_iff_not] at c) | skip) | fail
  refine callA (cSame (putR t p u).1 (putR t p u).1 (by omega)) ?_
  rw [same_self]
  repeat' first | (refine And.intro (fun c => ?_) (fun c => ?_) <;> first | exact absurd c (by decide) | (cases c; done) | (simp only [decide_eq_true_eq, decide_eq_false_iff_not] at c) | skip) | fail
  · exact ⟨[], ⟨trivial, rfl⟩, rfl, rfl⟩
  rename_i c
  have he : (putR t p u).2 = 0 := by simpa using c
  obtain ⟨ht, hu, ha, ho, hR⟩ := putR_ok he
  clear c
  rw [hR] at hwR
  rw [hR]
  simp only at hwR
  obtain ⟨k, hk⟩ := Option.isSome_iff_exists.mp ha
  have hok := ok_at p t k ht hk
  have hwk := wt_at p t k hk
  refine callA hd ?_
  refine callA (iTreeAt (putP t p u) p (by omega) (by omega)) ?_
  rw [getR_of ho (at_put p t u ha)]
  repeat' first | (refine And.intro (fun c => ?_) (fun c => ?_) <;> first | exact absurd c (by decide) | (cases c; done) | (simp only [decide_eq_true_eq, decide_eq_false_iff_not] at c) | skip) | fail
  refine callA (cSame u u (by omega)) ?_
  rw [same_self]
  repeat' first | (refine And.intro (fun c => ?_) (fun c => ?_) <;> first | exact absurd c (by decide) | (cases c; done) | (simp only [decide_eq_true_eq, decide_eq_false_iff_not] at c) | skip) | fail
  refine ⟨Int, fun i => ([(4, .p (.lst (il p))), (8, .ptr 3 0), (10, .ptr 4 0), (14, .p (I i))], [.dead, .dead, .dead, .box 53 [.p (S (putP t p u).nm), .p (S (putP t p u).tx), .p (B (putP t p u).lf), .p (.lst (encM (putP t p u).ks))], .box 53 [.p (S t.nm), .p (S t.tx), .p (B t.lf), .p (.lst (encM t.ks))]]),
    fun i n => 0 ≤ i ∧ i ≤ t.ks.length ∧ n = (t.ks.length - i).toNat,
    ⟨0, _, ⟨by simp, by simp, rfl⟩, [], ⟨rfl, rfl, rfl, rfl, trivial⟩, ⟨trivial, trivial, trivial, ⟨rfl, rfl, rfl, rfl, rfl, trivial⟩, ⟨rfl, rfl, rfl, rfl, rfl, trivial⟩, trivial⟩, rfl⟩, ?_⟩
  rintro i n ⟨h0, h1, rfl⟩
  have hend : getR t p = (k, 0) := getR_of ht hk
  have hbk : putR (putP t p u) p k = (t, 0) := by
    have h2 := put_back p t u k hk
    rw [putR_of ho hok (by rw [at_put p t u ha]; rfl) (by rw [h2]; exact ht), h2]
  have hT := iTreeHash t (by omega)
  have hS := sTreeHash t (by omega)
  rw [if_pos ht, if_pos ht] at hT hS
  have hA := iTreeAt t p (by omega) (by omega)
  have hP := iTreePut (putP t p u) k p (by omega) (by omega) (by omega)
  rw [hend] at hA
  rw [hbk] at hP
  refine And.intro (fun ci => ?_) (fun ci => ?_) <;> simp only [decide_eq_true_eq, decide_eq_false_iff_not, encM_len] at ci
  · cases p with
    | nil =>
      repeat' first | (refine And.intro (fun c => ?_) (fun c => ?_) <;> first | exact absurd c (by decide) | (cases c; done) | (simp only [decide_eq_true_eq, decide_eq_false_iff_not] at c) | skip) | fail
      refine callA hA ?_
      repeat' first | (refine And.intro (fun c => ?_) (fun c => ?_) <;> first | exact absurd c (by decide) | (cases c; done) | (simp only [decide_eq_true_eq, decide_eq_false_iff_not] at c) | skip) | fail
      refine callA hP ?_
      repeat' first | (refine And.intro (fun c => ?_) (fun c => ?_) <;> first | exact absurd c (by decide) | (cases c; done) | (simp only [decide_eq_true_eq, decide_eq_false_iff_not] at c) | skip) | fail
      refine callA (cSame t t (by omega)) ?_
      rw [same_self]
      repeat' first | (refine And.intro (fun c => ?_) (fun c => ?_) <;> first | exact absurd c (by decide) | (cases c; done) | (simp only [decide_eq_true_eq, decide_eq_false_iff_not] at c) | skip) | fail
      refine callA hT ?_
      refine callA hS ?_
      repeat' first | (refine And.intro (fun c => ?_) (fun c => ?_) <;> first | exact absurd c (by decide) | (cases c; done) | (simp only [decide_eq_true_eq, decide_eq_false_iff_not] at c) | skip) | fail
      exact ⟨[], ⟨trivial, rfl⟩, congrArg (fun x => [AV.p (B x)]) (by simp), rfl⟩
    | cons p0 p' =>
      repeat' first | (refine And.intro (fun c => ?_) (fun c => ?_) <;> first | exact absurd c (by decide) | (cases c; done) | (simp only [decide_eq_true_eq, decide_eq_false_iff_not] at c) | skip) | fail
      · obtain ⟨hkl2, hks⟩ := put_kids (u := u) ha
        obtain ⟨q, hq, hm, _⟩ := drop_cons (l := (putP t (p0 :: p') u).ks) h0 (by omega)
        obtain ⟨q0, hq0, hm0, _⟩ := drop_cons (l := t.ks) h0 ci
        have hwq := wt_kid hm
        have hgq : getR (putP t (p0 :: p') u) [i] = (q, 0) := getR_of ho (by rw [at_cons [] h0 hq]; rfl)
        have hAi := iTreeAt (putP t (p0 :: p') u) [i] (by simp) (by omega)
        rw [hgq] at hAi
        refine And.intro (show fits _ _ from ⟨⟨rfl, rfl⟩, trivial⟩) ?_
        refine callP hAi (fun K' hk => ⟨il [i], ⟨Nat.le_refl _, rfl⟩, hk⟩) ?_
        refine ⟨[0, 1, 2, 3, 4, 5, 6, 7, 8, 9, 10, 11, 12, 13, 14, 15, 16, 17, 18], [], by decide +kernel, ?_⟩
        repeat' first | (refine And.intro (fun c => ?_) (fun c => ?_) <;> first | exact absurd c (by decide) | (cases c; done) | (simp only [decide_eq_true_eq, decide_eq_false_iff_not] at c) | skip) | fail
        refine And.intro (show 0 ≤ (0 : Int) by omega) (Exists.intro (I p0) (And.intro rfl (And.intro rfl ?_)))
        have hsq : (i != p0) = true → same q q0 = true := fun hne => by
          have h3 := hks i.toNat (by simp at hne; omega)
          rw [hq, hq0] at h3
          cases h3
          exact same_self q
        repeat' first
          | (refine And.intro (fun c => ?_) (fun c => ?_) <;> first | exact absurd c (by decide) | (cases c; done) | (simp only [decide_eq_true_eq, decide_eq_false_iff_not] at c) | skip)
          | (refine And.intro h0 (Exists.intro q0.enc (And.intro (encM_get hq0) (And.intro rfl ?_))))
          | (refine callA (cSame q q0 (by omega)) ?_)
          | fail
        all_goals first
          | (exfalso; rename_i c; rw [hsq (by assumption)] at c; cases c; done)
          | exact ⟨i + 1, _, ⟨by omega, by omega, rfl⟩, by omega, [], ⟨rfl, rfl, rfl, congrArg (fun x => AV.p (I x)) (w64 (by omega)).symm, trivial⟩, ⟨trivial, trivial, trivial, ⟨rfl, rfl, rfl, rfl, rfl, trivial⟩, ⟨rfl, rfl, rfl, rfl, rfl, trivial⟩, trivial⟩, rfl⟩
          | skip
      · rename_i c
        exact absurd (by rw [il_len]; simp) c
  · repeat' first | (refine And.intro (fun c => ?_) (fun c => ?_) <;> first | exact absurd c (by decide) | (cases c; done) | (simp only [decide_eq_true_eq, decide_eq_false_iff_not] at c) | skip) | fail
    refine callA hA ?_
    repeat' first | (refine And.intro (fun c => ?_) (fun c => ?_) <;> first | exact absurd c (by decide) | (cases c; done) | (simp only [decide_eq_true_eq, decide_eq_false_iff_not] at c) | skip) | fail
    refine callA hP ?_
    repeat' first | (refine And.intro (fun c => ?_) (fun c => ?_) <;> first | exact absurd c (by decide) | (cases c; done) | (simp only [decide_eq_true_eq, decide_eq_false_iff_not] at c) | skip) | fail
    refine callA (cSame t t (by omega)) ?_
    rw [same_self]
    repeat' first | (refine And.intro (fun c => ?_) (fun c => ?_) <;> first | exact absurd c (by decide) | (cases c; done) | (simp only [decide_eq_true_eq, decide_eq_false_iff_not] at c) | skip) | fail
    refine callA hT ?_
    refine callA hS ?_
    repeat' first | (refine And.intro (fun c => ?_) (fun c => ?_) <;> first | exact absurd c (by decide) | (cases c; done) | (simp only [decide_eq_true_eq, decide_eq_false_iff_not] at c) | skip) | fail
    exact ⟨[], ⟨trivial, rfl⟩, congrArg (fun x => [AV.p (B x)]) (by simp), rfl⟩
end Go.Proofs.Ytgdecbliegelmaa.Z
