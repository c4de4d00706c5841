-- Written by wip/myprint.py (this session's) over the kit's print: not the kit's own print.
import Derived.Test.YtgdecbliegelmaaQ0
import Derived.Test.YtgdecbliegelmaaQimplnameOK
namespace Go.Proofs.Ytgdecbliegelmaa.Q
open Go.RowKit Go.Proofs.YtgdecbliegelmaaW.PrintWords Go.Proofs.YtgdecbliegelmaaW.PrintLast Go.Proofs.YtgdecbliegelmaaW.PrintMore
attribute [local go_sem] max2_int min2_int max_two min_two max_three min_three max_four min_four   -- for this text's walks alone
set_option linter.unusedVariables false
set_option linter.unusedSimpArgs false

/-! ### impl_measure: function 109 -/
mutual
def impl_measure.l0 : Nat → List S53 → Int → Int → Int → Int → Option (Bool × Int × Int)
  | 0, _, _, _, _, _ => none
  | k + 1, l, d, i, n, dp => if i < (l.length : Int) then (if 0 ≤ i then ((impl_measure.f k (rd_T53 l i).f0 (rd_T53 l i).f1 (rd_T53 l i).f2 (rd_T53 l i).f3 (wrap64 (d + 1)) n dp).bind fun r => if r.1 = true then impl_measure.l0 k l d (wrap64 (i + 1)) r.2.1 r.2.2 else some (false, r.2.1, r.2.2)) else none) else some (true, n, dp)
def impl_measure.f : Nat → ByteArray → ByteArray → Bool → List S53 → Int → Int → Int → Option (Bool × Int × Int)
  | 0, _, _, _, _, _, _, _ => none
  | k + 1, nm, tx, lf, l, d, n, dp => if (wrap64 (n + 1)) > 1000 then some (false, wrap64 (n + 1), mx dp d) else (if d > 60 then some (false, wrap64 (n + 1), mx dp d) else ((impl_nameOK.f k nm).bind fun t => if t = true then (if lf = true then (if (l.length : Int) = 0 then some (decide ((tx.size : Int) ≤ 200), wrap64 (n + 1), mx dp d) else some (false, wrap64 (n + 1), mx dp d)) else (if tx.toList = [] then impl_measure.l0 k l d 0 (wrap64 (n + 1)) (mx dp d) else some (false, wrap64 (n + 1), mx dp d))) else some (false, wrap64 (n + 1), mx dp d)))
end
theorem impl_measure.mono_l : ∀ k, (∀ y0 y1 y2 y3 y4 y5 y6, LeO (impl_measure.f k y0 y1 y2 y3 y4 y5 y6) (impl_measure.f (k + 1) y0 y1 y2 y3 y4 y5 y6)) ∧ (∀ y0 y1 y2 y3 y4, LeO (impl_measure.l0 k y0 y1 y2 y3 y4) (impl_measure.l0 (k + 1) y0 y1 y2 y3 y4))
  | 0 => ⟨fun _ _ _ _ _ _ _ r h => by simp [impl_measure.f] at h, fun _ _ _ _ _ r h => by simp [impl_measure.l0] at h⟩
  | k + 1 => by
    obtain ⟨ih0, ih1⟩ := impl_measure.mono_l k
    refine ⟨?_, ?_⟩
    · intro y0 y1 y2 y3 y4 y5 y6
      unfold impl_measure.f
      repeat' first
      | (with_reducible exact ih0 _ _ _ _ _ _ _)
      | (with_reducible exact ih1 _ _ _ _ _)
      | (with_reducible exact impl_nameOK.mono _ _)
      | (with_reducible exact LeO.refl _)
      | (with_reducible exact LeO.none _)
      | (with_reducible refine LeO.ite ?_ ?_)
      | (with_reducible refine LeO.bind ?_ (fun _ => ?_))
    · intro y0 y1 y2 y3 y4
      unfold impl_measure.l0
      repeat' first
      | (with_reducible exact ih0 _ _ _ _ _ _ _)
      | (with_reducible exact ih1 _ _ _ _ _)
      | (with_reducible exact LeO.refl _)
      | (with_reducible exact LeO.none _)
      | (with_reducible refine LeO.ite ?_ ?_)
      | (with_reducible refine LeO.bind ?_ (fun _ => ?_))
theorem impl_measure.mono : ∀ a0 a1 a2 a3 a4 a5 a6 k, LeO (impl_measure.f k a0 a1 a2 a3 a4 a5 a6) (impl_measure.f (k + 1) a0 a1 a2 a3 a4 a5 a6) := by
  intro a0 a1 a2 a3 a4 a5 a6 k
  exact (impl_measure.mono_l k).1 a0 a1 a2 a3 a4 a5 a6
def S2 (a b : Nat) : Nat → Prop := fun k => k = a ∨ k = b
/-- What measure leaves: the two numbers, all else as it was. -/
def Meas (gp gq : Nat) (n dp : Int) (w w' : World) : Prop := w'.heap[gp]? = some (.cells #[.int .i64 n] 3 (0, 0)) ∧ w'.heap[gq]? = some (.cells #[.int .i64 dp] 3 (0, 0)) ∧ Below 0 w w' ∧ Kept w w' (S2 gp gq)
theorem meas_set {w : World} {gp gq : Nat} {n dp : Int} {o : Obj} (hp : w.heap[gp]? = some (.cells #[.int .i64 n] 3 (0, 0))) (hq : w.heap[gq]? = some (.cells #[.int .i64 dp] 3 (0, 0))) (hne : gp ≠ gq) (v1 v2 : Int) :
    Meas gp gq v1 v2 w (((w.setCell ⟨gp, 0, none⟩ (.int .i64 v1)).setCell ⟨gq, 0, none⟩ (.int .i64 v2)).alloc o) := by
  have hp1 := hp
  have hq1 := hq
  have hp2 := blk_put hp1 0 (.int .i64 v1) (cs' := #[.int .i64 v1]) rfl
  have hq2 := blk_far hq1 (p := ⟨gp, 0, none⟩) (fun e => hne e.symm) (.int .i64 v1)
  refine ⟨blk_alloc (blk_far hp2 (p := ⟨gq, 0, none⟩) hne _) o, blk_alloc (blk_put hq2 0 _ rfl) o, (((Below.refl 0 w).setCell (Nat.zero_le _) _).setCell (Nat.zero_le _) _).alloc (Nat.zero_le _) o, ?_⟩
  exact Kept.alloc (Kept.setCell (Kept.setCell (Kept.refl w _) (.inl (.inl rfl)) _) (.inl (.inr rfl)) _) o
theorem Meas.drewN {gp gq : Nat} {n dp : Int} {w w' : World} (h : Meas gp gq n dp w w') (m : Nat) : Meas gp gq n dp w (w'.drewN m) := ⟨h.1, h.2.1, pw_below_drewN h.2.2.1 m, h.2.2.2⟩
theorem Meas.then_ {gp gq : Nat} {n dp n1 dp1 : Int} {w w1 w' : World} (h : Meas gp gq n dp w w1) (h' : Meas gp gq n1 dp1 w1 w') : Meas gp gq n1 dp1 w w' :=
  ⟨h'.1, h'.2.1, h.2.2.1.trans h'.2.2.1, h.2.2.2.then_ h'.2.2.2 (fun _ hk => .inl hk)⟩
theorem Meas.below {gp gq : Nat} {n dp : Int} {w w1 w' : World} (h : Meas gp gq n dp w w1) (hb : Below w1.heap.size w1 w') : Meas gp gq n dp w w' :=
  ⟨blk_below h.1 hb, blk_below h.2.1 hb, h.2.2.1.trans (hb.mono (Nat.zero_le _)), h.2.2.2.below hb⟩
theorem at_F53 {w : World} {ok : Nat → Prop} {A : Option Addr} {n : Nat} {xs : List S53} (h : Kd.F k53 w ok A n xs) (i : Int) (h0 : 0 ≤ i) (h1 : i < n) : ∃ ad A3 c3, A = some ad ∧ w.cell? (ad.add (i.toNat * 4)) = some (.string (rd_T53 xs i).f0) ∧ w.cell? ⟨(ad.add (i.toNat * 4)).block, (ad.add (i.toNat * 4)).off + 1, none⟩ = some (.string (rd_T53 xs i).f1) ∧ w.cell? ⟨(ad.add (i.toNat * 4)).block, (ad.add (i.toNat * 4)).off + 2, none⟩ = some (.bool (rd_T53 xs i).f2) ∧ w.cell? ⟨(ad.add (i.toNat * 4)).block, (ad.add (i.toNat * 4)).off + 3, none⟩ = some (.slice A3 (rd_T53 xs i).f3.length c3) ∧ (rd_T53 xs i).f3.length ≤ c3 ∧ Kd.F k53 w ok A3 (rd_T53 xs i).f3.length (rd_T53 xs i).f3 := by
  obtain ⟨ad, c, e, _, hK, hc, _⟩ := Kd.F_get h z53 i h0 h1
  obtain ⟨A3, c3, rfl, l3, g3⟩ := k53_openF hK
  exact ⟨ad, A3, c3, e, hc 0 _ rfl, by rw [← add_field _ _ 1 (by omega)]; exact hc 1 _ rfl, by rw [← add_field _ _ 2 (by omega)]; exact hc 2 _ rfl, by rw [← add_field _ _ 3 (by omega)]; exact hc 3 _ rfl, l3, g3⟩
set_option maxHeartbeats 4000000 in
set_option maxRecDepth 100000 in
theorem impl_measure.calls (k : Nat) : ∀ (nm tx : ByteArray) (lf : Bool) (A : Option Addr) (c : Nat) (l : List S53) (d : Int) (gp gq : Nat) (n dp : Int) (r : Bool) (n' dp' : Int) (w : World) (hr : Kd.F k53 w (fun k => ¬ S2 gp gq k) A l.length l) (hc : l.length ≤ c)
    (hp : w.heap[gp]? = some (.cells #[.int .i64 n] 3 (0, 0))) (hq : w.heap[gq]? = some (.cells #[.int .i64 dp] 3 (0, 0))) (hne : gp ≠ gq) (h : impl_measure.f k nm tx lf l d n dp = some (r, n', dp')),
    Calls Try.prog 109 #[.agg #[.string nm, .string tx, .bool lf, .slice A l.length c], .int .i64 d, .pointer (some ⟨gp, 0, none⟩), .pointer (some ⟨gq, 0, none⟩)] w fun e w' => e = .returned (.bool r) ∧ Meas gp gq n' dp' w w' := by
  induction k using Nat.strongRecOn with
  | _ k ih =>
  intro nm tx lf A c l d gp gq n dp r n' dp' w hr hc hp hq hne h
  cases k with
  | zero => exact absurd h (by simp [impl_measure.f])
  | succ k =>
  simp only [impl_measure.f] at h
  have hu53 := Try.underlying53
  have HR := Aside0.mk hr
  have HC := Aside0.mk hc
  have HP := Aside0.mk hp
  have HQ := Aside0.mk hq
  have hp0 : w.cell? ⟨gp, 0, none⟩ = some (.int .i64 n) := (blk_cell hp 0).trans rfl
  have hp1 := blk_frozen hp 0
  have hq0 : w.cell? ⟨gq, 0, none⟩ = some (.int .i64 dp) := (blk_cell hq 0).trans rfl
  have hq1 := blk_frozen hq 0
  have hlp := blk_lt hp
  have hlq := blk_lt hq
  have HM := Aside0.mk (fun o => meas_set (o := o) hp hq hne (wrap64 (n + 1)) (mx dp d))
  have hmx : (if dp < d then d else dp) = mx dp d := rfl
  clear hr hc hp hq
  by_cases c1 : wrap64 (n + 1) > 1000
  · rw [if_pos c1] at h
    have c1b : decide (1000 < wrap64 (n + 1)) = true := decide_eq_true c1
    simp only [Option.some.injEq, Prod.mk.injEq] at h
    obtain ⟨rfl, rfl, rfl⟩ := h
    clear c1
    go_enter Try.func109, Try.ntmps109
    go_wp2
    go_ret
    exact ⟨rfl, HM.out _⟩
  rw [if_neg c1] at h
  have c1b : decide (1000 < wrap64 (n + 1)) = false := decide_eq_false c1
  clear c1
  by_cases c2 : d > 60
  · rw [if_pos c2] at h
    have c2b : decide (60 < d) = true := decide_eq_true c2
    simp only [Option.some.injEq, Prod.mk.injEq] at h
    obtain ⟨rfl, rfl, rfl⟩ := h
    clear c2
    go_enter Try.func109, Try.ntmps109
    go_wp2
    go_ret
    exact ⟨rfl, HM.out _⟩
  rw [if_neg c2] at h
  have c2b : decide (60 < d) = false := decide_eq_false c2
  clear c2
  obtain ⟨t, ht, h⟩ := Option.bind_eq_some_iff.mp h
  have HT := Aside0.mk ht
  clear ht
  cases t with
  | false =>
    simp only [Bool.false_eq_true, if_false, Option.some.injEq, Prod.mk.injEq] at h
    obtain ⟨rfl, rfl, rfl⟩ := h
    go_enter Try.func109, Try.ntmps109
    go_wp2_with (first | (go_at_call 131; (with_reducible refine (impl_nameOK.calls k nm false _ HT.out).mono ?_); rintro e w' ⟨rfl, ⟨nd, rfl⟩⟩))
    go_ret
    exact ⟨rfl, (HM.out _).drewN _⟩
  | true =>
  simp only [if_true] at h
  cases lf with
  | true =>
    simp only [if_true] at h
    by_cases c3 : (l.length : Int) = 0
    · rw [if_pos c3] at h
      have c3b : ((l.length : Int) == 0) = true := beq_iff_eq.mpr c3
      simp only [Option.some.injEq, Prod.mk.injEq] at h
      obtain ⟨rfl, rfl, rfl⟩ := h
      clear c3
      go_enter Try.func109, Try.ntmps109
      go_wp2_with (first | (go_at_call 131; (with_reducible refine (impl_nameOK.calls k nm true _ HT.out).mono ?_); rintro e w' ⟨rfl, ⟨nd, rfl⟩⟩))
      go_ret
      exact ⟨by first | rfl | simp, (HM.out _).drewN _⟩
    · rw [if_neg c3] at h
      have c3b : ((l.length : Int) == 0) = false := beq_eq_false_iff_ne.mpr c3
      simp only [Option.some.injEq, Prod.mk.injEq] at h
      obtain ⟨rfl, rfl, rfl⟩ := h
      clear c3
      go_enter Try.func109, Try.ntmps109
      go_wp2_with (first | (go_at_call 131; (with_reducible refine (impl_nameOK.calls k nm true _ HT.out).mono ?_); rintro e w' ⟨rfl, ⟨nd, rfl⟩⟩))
      go_ret
      exact ⟨by first | rfl | simp, (HM.out _).drewN _⟩
  | false =>
  simp only [Bool.false_eq_true, if_false] at h
  by_cases c4 : tx.toList = []
  · rw [if_pos c4] at h
    have c4b : tx.toList.isEmpty = true := by rw [c4]; rfl
    clear c4
    have H' := Aside0.mk h
    clear h
    go_enter Try.func109, Try.ntmps109
    go_wp2_with (first | (go_at_call 131; (with_reducible refine (impl_nameOK.calls k nm true _ HT.out).mono ?_); rintro e w' ⟨rfl, ⟨nd, rfl⟩⟩))
    go_loopg [55] k (fun kq v55 w' => ∃ (i nn dd : Int), v55 = .int .i64 i ∧ Aside0 (impl_measure.l0 kq l d i nn dd = some (r, n', dp')) ∧ Aside0 (kq ≤ k) ∧ Aside0 (Meas gp gq nn dd w w'))
    case atStart => exact ⟨0, wrap64 (n + 1), mx dp d, rfl, H', ⟨Nat.le_refl _⟩, ⟨(HM.out _).drewN _⟩⟩
    case round =>
      clear H' HM hmx hp0 hp1 hq0 hq1 hlp hlq HP HQ
      obtain ⟨i, nn, dd, rfl, HA, HK1, HME⟩ := hrel
      cases gk with
      | zero => exact absurd HA.out (by simp [impl_measure.l0])
      | succ k1 =>
        have H := HA.out
        clear HA
        simp only [impl_measure.l0] at H
        by_cases c5 : i < (l.length : Int)
        · rw [if_pos c5] at H
          have c5b : decide (i < (l.length : Int)) = true := decide_eq_true c5
          by_cases c6 : 0 ≤ i
          · rw [if_pos c6] at H
            have c6b : decide (0 ≤ i) = true := decide_eq_true c6
            obtain ⟨⟨t, n1, d1⟩, ht, H⟩ := Option.bind_eq_some_iff.mp H
            have HT2 := Aside0.mk ht
            clear ht
            obtain ⟨ad, A3, c3, e, hx0, hx1, hx2, hx3, hl3, hi3⟩ := at_F53 (Kd.F_kept HR.out HME.out.2.2.2 (fun _ h => h)) i c6 c5
            cases e
            have HF3 := Aside0.mk hi3
            have HC3 := Aside0.mk hl3
            clear hi3 hl3
            cases t with
            | false =>
              simp only [Bool.false_eq_true, if_false, Option.some.injEq, Prod.mk.injEq] at H
              obtain ⟨rfl, rfl, rfl⟩ := H
              go_wp2_with (first | (go_at_call 109; (with_reducible refine (ih k1 (by have := HK1.out; omega) _ _ _ _ _ _ _ gp gq nn dd false n1 d1 _ ?side1 HC3.out ?side2 ?side3 hne HT2.out).mono ?_); (case side1 => exact Kd.F_below HF3.out (by repeat (first | exact Below.refl _ _ | apply below_alloc | refine Below.setCell ?_ (Nat.le_refl _) _))); (case side2 => exact blk_below HME.out.1 (by repeat (first | exact Below.refl _ _ | apply below_alloc | refine Below.setCell ?_ (Nat.le_refl _) _))); (case side3 => exact blk_below HME.out.2.1 (by repeat (first | exact Below.refl _ _ | apply below_alloc | refine Below.setCell ?_ (Nat.le_refl _) _))); rintro e w2 ⟨rfl, hm⟩; have hm2 := Aside0.mk ((HME.out.below (by repeat (first | exact Below.refl _ _ | apply below_alloc | refine Below.setCell ?_ (Nat.le_refl _) _))).then_ hm); clear hm))
              go_ret
              exact ⟨rfl, hm2.out⟩
            | true =>
              simp only [if_true] at H
              have H' := Aside0.mk H
              clear H
              go_wp2_with (first | (go_at_call 109; (with_reducible refine (ih k1 (by have := HK1.out; omega) _ _ _ _ _ _ _ gp gq nn dd true n1 d1 _ ?side1 HC3.out ?side2 ?side3 hne HT2.out).mono ?_); (case side1 => exact Kd.F_below HF3.out (by repeat (first | exact Below.refl _ _ | apply below_alloc | refine Below.setCell ?_ (Nat.le_refl _) _))); (case side2 => exact blk_below HME.out.1 (by repeat (first | exact Below.refl _ _ | apply below_alloc | refine Below.setCell ?_ (Nat.le_refl _) _))); (case side3 => exact blk_below HME.out.2.1 (by repeat (first | exact Below.refl _ _ | apply below_alloc | refine Below.setCell ?_ (Nat.le_refl _) _))); rintro e w2 ⟨rfl, hm⟩; have hm2 := Aside0.mk ((HME.out.below (by repeat (first | exact Below.refl _ _ | apply below_alloc | refine Below.setCell ?_ (Nat.le_refl _) _))).then_ hm); clear hm))
              go_roundg k1
              case measure => have := HK1.out; omega
              case rel => exact ⟨wrap64 (i + 1), n1, d1, rfl, H', ⟨by have := HK1.out; omega⟩, hm2⟩
          · rw [if_neg c6] at H
            exact absurd H (by simp)
        · rw [if_neg c5] at H
          have c5b : decide (i < (l.length : Int)) = false := decide_eq_false c5
          simp only [Option.some.injEq, Prod.mk.injEq] at H
          obtain ⟨rfl, rfl, rfl⟩ := H
          clear c5
          go_wp2
          go_ret
          exact ⟨rfl, HME.out⟩
  · rw [if_neg c4] at h
    have c4b : tx.toList.isEmpty = false := by cases hx : tx.toList with | nil => exact absurd hx c4 | cons a b => rfl
    simp only [Option.some.injEq, Prod.mk.injEq] at h
    obtain ⟨rfl, rfl, rfl⟩ := h
    clear c4
    go_enter Try.func109, Try.ntmps109
    go_wp2_with (first | (go_at_call 131; (with_reducible refine (impl_nameOK.calls k nm true _ HT.out).mono ?_); rintro e w' ⟨rfl, ⟨nd, rfl⟩⟩))
    go_ret
    exact ⟨rfl, (HM.out _).drewN _⟩


end Go.Proofs.Ytgdecbliegelmaa.Q
