/- J2: parts of the proof of FnExactPlaces, joined. -/
import Derived.Test.YtgdecbliegelmaaJ1
import Derived.Test.YtgdecbliegelmaaJ0
set_option linter.unnecessarySimpa false
set_option linter.unusedSimpArgs false
set_option linter.unusedVariables false
/- The walk of spec.l11Match. -/
namespace Go.Proofs.Ytgdecbliegelmaa.Q
open Go.RowKit Go.Proofs.YtgdecbliegelmaaW.PrintWords Go.Proofs.YtgdecbliegelmaaW.PrintLast Go.Proofs.YtgdecbliegelmaaW.PrintMore
attribute [local go_sem] max2_int min2_int max_two min_two max_three min_three max_four min_four
set_option linter.unusedVariables false
set_option linter.unusedSimpArgs false
mutual
def spec_l11Match.l0 : Nat → List S53 → List S53 → Int → List S151 → Bool → Option (List S151 × Bool)
  | 0, _, _, _, _, _ => none
  | k + 1, l, l2, i, bl, b => if i < (l.length : Int) then (if b = true then (if 0 ≤ i then (if i < (l2.length : Int) then ((spec_l11Match.f k (rd_T53 l i).f0 (rd_T53 l i).f1 (rd_T53 l i).f2 (rd_T53 l i).f3 (rd_T53 l2 i).f0 (rd_T53 l2 i).f1 (rd_T53 l2 i).f2 (rd_T53 l2 i).f3 bl).bind fun r => spec_l11Match.l0 k l l2 (wrap64 (i + 1)) r.1 r.2) else none) else none) else some (bl, b)) else some (bl, b)
def spec_l11Match.f : Nat → ByteArray → ByteArray → Bool → List S53 → ByteArray → ByteArray → Bool → List S53 → List S151 → Option (List S151 × Bool)
  | 0, _, _, _, _, _, _, _, _, _ => none
  | k + 1, nm, tx, lf, l, nm2, tx2, lf2, l2, bl => (spec_l11Var.f nm tx lf l).bind fun t => if t = true then
      ((spec_l11Find.f k bl tx).bind fun i => if 0 ≤ i then (if i < (bl.length : Int) then ((spec_l01Same.f k (rd_T151 bl i).f1.f0 (rd_T151 bl i).f1.f1 (rd_T151 bl i).f1.f2 (rd_T151 bl i).f1.f3 nm2 tx2 lf2 l2).bind fun b => some (bl, b)) else none)
        else if bl.length < 100000000000 then some (bl ++ [⟨tx, ⟨nm2, tx2, lf2, l2⟩⟩], true) else none)
    else if nm.toList = nm2.toList then (if lf = lf2 then (if tx.toList = tx2.toList then (if l.length = l2.length then spec_l11Match.l0 k l l2 0 bl true else some (bl, false)) else some (bl, false)) else some (bl, false)) else some (bl, false)
end
theorem spec_l11Match.mono_l : ∀ k, (∀ y0 y1 y2 y3 y4 y5 y6 y7 y8, LeO (spec_l11Match.f k y0 y1 y2 y3 y4 y5 y6 y7 y8) (spec_l11Match.f (k + 1) y0 y1 y2 y3 y4 y5 y6 y7 y8)) ∧ (∀ y0 y1 y2 y3 y4, LeO (spec_l11Match.l0 k y0 y1 y2 y3 y4) (spec_l11Match.l0 (k + 1) y0 y1 y2 y3 y4))
 | 0 => ⟨fun _ _ _ _ _ _ _ _ _ r h => by simp [spec_l11Match.f] at h, fun _ _ _ _ _ r h => by simp [spec_l11Match.l0] at h⟩
 | k + 1 => by
  obtain ⟨ih0, ih1⟩ := spec_l11Match.mono_l k
  refine ⟨?_, ?_⟩
  ·intro y0 y1 y2 y3 y4 y5 y6 y7 y8
   unfold spec_l11Match.f
   repeat' first
   | (with_reducible exact ih0 _ _ _ _ _ _ _ _ _)
   | (with_reducible exact ih1 _ _ _ _ _)
   | (with_reducible exact spec_l11Find.mono _ _ _)
   | (with_reducible exact spec_l01Same.mono _ _ _ _ _ _ _ _ _)
   | (with_reducible exact LeO.refl _)
   | (with_reducible exact LeO.none _)
   | (with_reducible refine LeO.ite ?_ ?_)
   | (with_reducible refine LeO.bind ?_ (fun _ => ?_))
  ·intro y0 y1 y2 y3 y4
   unfold spec_l11Match.l0
   repeat' first
   | (with_reducible exact ih0 _ _ _ _ _ _ _ _ _)
   | (with_reducible exact ih1 _ _ _ _ _)
   | (with_reducible exact LeO.refl _)
   | (with_reducible exact LeO.none _)
   | (with_reducible refine LeO.ite ?_ ?_)
   | (with_reducible refine LeO.bind ?_ (fun _ => ?_))
theorem spec_l11Match.mono : ∀ a0 a1 a2 a3 a4 a5 a6 a7 a8 k, LeO (spec_l11Match.f k a0 a1 a2 a3 a4 a5 a6 a7 a8) (spec_l11Match.f (k + 1) a0 a1 a2 a3 a4 a5 a6 a7 a8) := fun a0 a1 a2 a3 a4 a5 a6 a7 a8 k => (spec_l11Match.mono_l k).1 a0 a1 a2 a3 a4 a5 a6 a7 a8
/-- What a row of bindings is to its reader. -/
def Row151 (w' : World) (v : Value) (bl : List S151) : Prop := ∃ A c, v = .slice A bl.length c ∧ bl.length ≤ c ∧ Kd.C k151 w' A bl.length bl
theorem Row151.below {w w' : World} {v : Value} {bl : List S151} (h : Row151 w v bl) (hb : Below w.heap.size w w') : Row151 w' v bl := by
 obtain ⟨A, c, e, hc, h⟩ := h
 exact ⟨A, c, e, hc, Kd.C_below h hb⟩
theorem Row151.nil (w : World) (A : Option Addr) (c : Nat) : Row151 w (.slice A 0 c) [] := ⟨A, c, rfl, Nat.zero_le _, rfl, by decide, fun h => absurd h (by decide)⟩
theorem Row151.of_N {w : World} {base : Nat} {ok : Nat → Prop} {v : Value} {bl : List S151} (h : Kd.N k151 151 w base ok v bl) : Row151 w v bl := by
 obtain ⟨A, c, rfl, hc, h⟩ := Kd.N_reads h
 exact ⟨A, c, rfl, hc, h⟩
set_option maxHeartbeats 16000000 in
set_option maxRecDepth 100000 in
theorem spec_l11Match.calls (k : Nat) : ∀ (nm tx : ByteArray) (lf : Bool) (A : Option Addr) (c : Nat) (l : List S53) (nm2 tx2 : ByteArray) (lf2 : Bool) (A2 : Option Addr) (c2 : Nat) (l2 : List S53) (v : Value) (bl : List S151) (rl : List S151) (rb : Bool) (w : World) (hp : Kd.C k53 w A l.length l) (hc : l.length ≤ c) (hp2 : Kd.C k53 w A2 l2.length l2) (hc2 : l2.length ≤ c2) (hbl : Row151 w v bl) (h : spec_l11Match.f k nm tx lf l nm2 tx2 lf2 l2 bl = some (rl, rb)),
  Calls Try.prog 116 #[.agg #[.string nm, .string tx, .bool lf, .slice A l.length c], .agg #[.string nm2, .string tx2, .bool lf2, .slice A2 l2.length c2], v] w fun e w' => ∃ v' : Value, e = .returned (.tuple #[v', .bool rb]) ∧ Row151 w' v' rl ∧ Below w.heap.size w w' := by
 induction k using Nat.strongRecOn with
 | _ k ih =>
 intro nm tx lf A c l nm2 tx2 lf2 A2 c2 l2 v bl rl rb w hp hc hp2 hc2 hbl h
 cases k with
 | zero => exact absurd h (by simp [spec_l11Match.f])
 | succ k =>
 simp only [spec_l11Match.f] at h
 have hu53 := Try.underlying53
 have hu151 := Try.underlying151
 obtain ⟨Ab, cb, rfl, hcb, hCb⟩ := hbl
 have HP := Aside0.mk hp
 have HC := Aside0.mk hc
 have HP2 := Aside0.mk hp2
 have HC2 := Aside0.mk hc2
 have HBL := Aside0.mk hCb
 have HCB := Aside0.mk hcb
 have HB0 : Aside0 (Below w.heap.size w ((w.alloc (.cells #[.string nm, .string tx, .bool lf, .slice A l.length c] 53)).alloc (.cells #[.string nm2, .string tx2, .bool lf2, .slice A2 l2.length c2] 53))) := ⟨below_alloc (below_alloc (Below.refl _ _) _) _⟩
 have HX1 : Aside0 (((w.alloc (.cells #[.string nm, .string tx, .bool lf, .slice A l.length c] 53)).alloc (.cells #[.string nm2, .string tx2, .bool lf2, .slice A2 l2.length c2] 53)).heap[w.heap.size]? = some (.cells #[.string nm, .string tx, .bool lf, .slice A l.length c] 53 (0, 0))) := ⟨blk_alloc (blk_new _ _) _⟩
 have HX2 : Aside0 (((w.alloc (.cells #[.string nm, .string tx, .bool lf, .slice A l.length c] 53)).alloc (.cells #[.string nm2, .string tx2, .bool lf2, .slice A2 l2.length c2] 53)).heap[w.heap.size + 1]? = some (.cells #[.string nm2, .string tx2, .bool lf2, .slice A2 l2.length c2] 53 (0, 0))) := ⟨by simpa using blk_new (w.alloc (.cells #[.string nm, .string tx, .bool lf, .slice A l.length c] 53)) (.cells #[.string nm2, .string tx2, .bool lf2, .slice A2 l2.length c2] 53)⟩
 clear hp hc hp2 hc2 hcb hCb
 obtain ⟨t, ht, h⟩ := Option.bind_eq_some_iff.mp h
 have HT := Aside0.mk ht
 have H' := Aside0.mk h
 clear ht h
 go_enter Try.func116, Try.ntmps116
 cases t with
 | true =>
  have h := H'.out
  simp only [if_true] at h
  obtain ⟨i, hi, h⟩ := Option.bind_eq_some_iff.mp h
  have HI := Aside0.mk hi
  clear hi H'
  by_cases c1 : 0 ≤ i
  ·rw [if_pos c1] at h
   have c1b : decide (0 ≤ i) = true := decide_eq_true c1
   by_cases c2 : i < (bl.length : Int)
   ·rw [if_pos c2] at h
    obtain ⟨b, hb, h⟩ := Option.bind_eq_some_iff.mp h
    simp only [Option.some.injEq, Prod.mk.injEq] at h
    obtain ⟨rfl, rfl⟩ := h
    have HSM := Aside0.mk hb
    have C1 := Aside0.mk c1
    have C2 := Aside0.mk c2
    clear hb c1 c2
    go_wp2_with (first
     | (go_at_call 134;(with_reducible refine (spec_l11Var.calls nm tx lf A c l true _ (Kd.C_below HP.out HB0.out) HC.out HT.out).mono ?_);rintro e w2 ⟨rfl, hb2⟩;have HB := Aside0.mk (below_step HB0.out hb2);have HY1 := Aside0.mk (blk_below HX1.out hb2);have HY2 := Aside0.mk (blk_below HX2.out hb2);have hx11 : w2.cell? ⟨w.heap.size, 1, none⟩ = some (.string tx) := (blk_cell HY1.out 1).trans rfl;have hx20 : w2.cell? ⟨w.heap.size + 1, 0, none⟩ = some (.string nm2) := (blk_cell HY2.out 0).trans rfl;have hx21 : w2.cell? ⟨w.heap.size + 1, 1, none⟩ = some (.string tx2) := (blk_cell HY2.out 1).trans rfl;have hx22 : w2.cell? ⟨w.heap.size + 1, 2, none⟩ = some (.bool lf2) := (blk_cell HY2.out 2).trans rfl;have hx23 : w2.cell? ⟨w.heap.size + 1, 3, none⟩ = some (.slice A2 l2.length c2) := (blk_cell HY2.out 3).trans rfl;clear hb2)
     | (go_at_call 136;(with_reducible refine (spec_l11Find.calls k _ _ bl tx i _ (Kd.C_below HBL.out HB.out) HCB.out HI.out).mono ?_);rintro e w3 ⟨rfl, ⟨nd, rfl⟩⟩))
    obtain ⟨ad, A4, c4, e, hy0, hy1, hy2, hy3, hy4, hl4, hi4⟩ := at_T151 (Kd.C_below HBL.out HB.out) i C1.out C2.out
    cases e
    have HK4 := Aside0.mk hi4
    have HL4 := Aside0.mk hl4
    have p0 := eq_true C1.out
    have p1 := eq_true C2.out
    clear hi4 hl4
    have HB1 : Aside0 (Below w.heap.size w (w2.drewN nd).drew) := ⟨below_drew1 (pw_below_drewN HB.out _)⟩
    have HK5 : Aside0 (Kd.C k53 (w2.drewN nd).drew A4 (rd_T151 bl i).f1.f3.length (rd_T151 bl i).f1.f3) := ⟨Kd.C_drew (Kd.C_drewN HK4.out _)⟩
    refine start_ (n := 10) (S := fun w' => w'.cell? ⟨(ad.add (i.toNat * 5)).block, (ad.add (i.toNat * 5)).off + 1, none⟩ = some (.string (rd_T151 bl i).f1.f0) ∧ w'.cell? ⟨(ad.add (i.toNat * 5)).block, (ad.add (i.toNat * 5)).off + 2, none⟩ = some (.string (rd_T151 bl i).f1.f1) ∧ w'.cell? ⟨(ad.add (i.toNat * 5)).block, (ad.add (i.toNat * 5)).off + 3, none⟩ = some (.bool (rd_T151 bl i).f1.f2) ∧ w'.cell? ⟨(ad.add (i.toNat * 5)).block, (ad.add (i.toNat * 5)).off + 4, none⟩ = some (.slice A4 (rd_T151 bl i).f1.f3.length c4) ∧ w'.cell? ⟨w.heap.size + 1, 0, none⟩ = some (.string nm2) ∧ w'.cell? ⟨w.heap.size + 1, 1, none⟩ = some (.string tx2) ∧ w'.cell? ⟨w.heap.size + 1, 2, none⟩ = some (.bool lf2) ∧ w'.cell? ⟨w.heap.size + 1, 3, none⟩ = some (.slice A2 l2.length c2)) (ds := [7]) #[false, false, false, false, false, false, false, false, false, false] (by kernel_rfl) rfl rfl ⟨hy1, hy2, hy3, hy4, hx20, hx21, hx22, hx23⟩ (fun hHeld => ?_)
    generalize (w2.drewN nd).drew = W1 at HB1 HK5 hHeld ⊢
    refine pure_ (i := 0) (N := some 19) (v := ?_) (a' := ?_) #[true, false, false, false, false, false, false, false, false, false] rfl rfl (by kernel_rfl) (fun _ _ _ h => h) (Or.inl ⟨by rfl, ?_⟩) ?_ ?_
    rotate_left
    ·intro w'
     go_simp
     with_reducible rfl
    rotate_left
    ·simp only [Act.put, List.setIfInBounds_toArray, List.set_cons_zero, List.set_cons_succ, i64_w, i32_w]
     rfl
    refine pure_ (i := 1) (N := some 20) (v := ?_) (a' := ?_) #[true, true, false, false, false, false, false, false, false, false] rfl rfl (by kernel_rfl) (fun _ _ _ h => h) (Or.inl ⟨by rfl, ?_⟩) ?_ ?_
    rotate_left
    ·intro w'
     go_simp
     with_reducible rfl
    rotate_left
    ·simp only [Act.put, List.setIfInBounds_toArray, List.set_cons_zero, List.set_cons_succ, i64_w, i32_w]
     rfl
    refine pure_ (i := 2) (N := some 21) (v := ?_) (a' := ?_) #[true, true, true, false, false, false, false, false, false, false] rfl rfl (by kernel_rfl) (fun _ _ _ h => h) (Or.inl ⟨by rfl, ?_⟩) ?_ ?_
    rotate_left
    ·intro w'
     go_simp
     with_reducible rfl
    rotate_left
    ·simp only [Act.put, List.setIfInBounds_toArray, List.set_cons_zero, List.set_cons_succ, i64_w, i32_w]
     rfl
    refine pure_ (i := 3) (N := some 22) (v := ?_) (a' := ?_) #[true, true, true, true, false, false, false, false, false, false] rfl rfl (by kernel_rfl) (fun _ _ _ h => h) (Or.inl ⟨by rfl, ?_⟩) ?_ ?_
    rotate_left
    ·intro w'
     go_simp
     with_reducible rfl
    rotate_left
    ·simp only [Act.put, List.setIfInBounds_toArray, List.set_cons_zero, List.set_cons_succ, i64_w, i32_w]
     rfl
    refine pure_ (i := 4) (N := some 23) (v := ?_) (a' := ?_) #[true, true, true, true, true, false, false, false, false, false] rfl rfl (by kernel_rfl) (fun _ _ _ h => h) (Or.inl ⟨by rfl, ?_⟩) ?_ ?_
    rotate_left
    ·intro w'
     go_simp
     with_reducible rfl
    rotate_left
    ·simp only [Act.put, List.setIfInBounds_toArray, List.set_cons_zero, List.set_cons_succ, i64_w, i32_w]
     rfl
    refine take_ (i := 5) (N := some 24) (v := ?_) (a' := ?_) #[true, true, true, true, true, true, false, false, false, false] rfl rfl (by kernel_rfl) (fun _ _ _ h => h) (Or.inl ⟨by rfl, ?_⟩) hHeld ?_ ?_
    rotate_left
    ·rintro w' ⟨s0, s1, s2, s3, s4, s5, s6, s7⟩
     go_simp
     with_reducible rfl
    rotate_left
    ·simp only [Act.put, List.setIfInBounds_toArray, List.set_cons_zero, List.set_cons_succ, i64_w, i32_w]
     rfl
    refine take_ (i := 6) (N := some 25) (v := ?_) (a' := ?_) #[true, true, true, true, true, true, true, false, false, false] rfl rfl (by kernel_rfl) (fun _ _ _ h => h) (Or.inl ⟨by rfl, ?_⟩) hHeld ?_ ?_
    rotate_left
    ·rintro w' ⟨s0, s1, s2, s3, s4, s5, s6, s7⟩
     go_simp
     with_reducible rfl
    rotate_left
    ·simp only [Act.put, List.setIfInBounds_toArray, List.set_cons_zero, List.set_cons_succ, i64_w, i32_w]
     rfl
    refine last_ (i := 7) (N := some 26) #[true, true, true, true, true, true, true, true, false, false] rfl rfl (by kernel_rfl) (by decide) (fun K hK => ?_)
    refine goes_ Try.func137 (by kernel_rfl) rfl #[.agg #[.string (rd_T151 bl i).f1.f0, .string (rd_T151 bl i).f1.f1, .bool (rd_T151 bl i).f1.f2, .slice A4 (rd_T151 bl i).f1.f3.length c4], .agg #[.string nm2, .string tx2, .bool lf2, .slice A2 l2.length c2]] (by rfl) rfl rfl (by simp only [List.map_toArray, List.map_cons, List.map_nil];rfl) ?_
    with_reducible refine (spec_l01Same.calls k _ _ _ _ _ _ nm2 tx2 lf2 A2 c2 l2 b _ HK5.out HL4.out (Kd.C_below HP2.out HB1.out) HC2.out HSM.out).mono ?_
    rintro e w6 ⟨rfl, hb6⟩
    refine ⟨_, rfl, ?_⟩
    have HB6 := Aside0.mk (below_step HB1.out hb6)
    clear hb6
    refine hK.out _ _ ?_
    clear hK K
    refine norm_ (a' := ?_) ?_ ?_
    rotate_left
    ·show Act.put _ (some 26) _ = _
     simp only [Act.put, List.setIfInBounds_toArray, List.set_cons_zero, List.set_cons_succ, i64_w, i32_w]
     rfl
    refine pure_ (i := 8) (N := some 6) (v := ?_) (a' := ?_) #[true, true, true, true, true, true, true, true, true, false] rfl rfl (by kernel_rfl) (fun _ _ _ h => h) (Or.inl ⟨by rfl, ?_⟩) ?_ ?_
    rotate_left
    ·intro w'
     go_simp
     with_reducible rfl
    rotate_left
    ·simp only [Act.put, List.setIfInBounds_toArray, List.set_cons_zero, List.set_cons_succ, i64_w, i32_w]
     rfl
    refine pure_ (i := 9) (N := some 7) (v := ?_) (a' := ?_) #[true, true, true, true, true, true, true, true, true, true] rfl rfl (by kernel_rfl) (fun _ _ _ h => h) (Or.inl ⟨by rfl, ?_⟩) ?_ ?_
    rotate_left
    ·intro w'
     go_simp
     with_reducible rfl
    rotate_left
    ·simp only [Act.put, List.setIfInBounds_toArray, List.set_cons_zero, List.set_cons_succ, i64_w, i32_w]
     rfl
    refine done_ (by kernel_rfl) ?_
    first|go_end0|(go_wp2;go_ret2)|go_ret2
    exact ⟨_, rfl, ⟨_, _, rfl, HCB.out, Kd.C_below HBL.out HB6.out⟩, HB6.out⟩
   ·rw [if_neg c2] at h
    exact absurd h (by simp)
  ·rw [if_neg c1] at h
   have c1b : decide (0 ≤ i) = false := decide_eq_false c1
   by_cases c2 : bl.length < 100000000000
   ·rw [if_pos c2] at h
    simp only [Option.some.injEq, Prod.mk.injEq] at h
    obtain ⟨rfl, rfl⟩ := h
    have HLIM := Aside0.mk c2
    clear c1 c2
    go_wp2_with (first
     | (go_at_call 134;(with_reducible refine (spec_l11Var.calls nm tx lf A c l true _ (Kd.C_below HP.out HB0.out) HC.out HT.out).mono ?_);rintro e w2 ⟨rfl, hb2⟩;have HB := Aside0.mk (below_step HB0.out hb2);have HY1 := Aside0.mk (blk_below HX1.out hb2);have HY2 := Aside0.mk (blk_below HX2.out hb2);have hx11 : w2.cell? ⟨w.heap.size, 1, none⟩ = some (.string tx) := (blk_cell HY1.out 1).trans rfl;have hx20 : w2.cell? ⟨w.heap.size + 1, 0, none⟩ = some (.string nm2) := (blk_cell HY2.out 0).trans rfl;have hx21 : w2.cell? ⟨w.heap.size + 1, 1, none⟩ = some (.string tx2) := (blk_cell HY2.out 1).trans rfl;have hx22 : w2.cell? ⟨w.heap.size + 1, 2, none⟩ = some (.bool lf2) := (blk_cell HY2.out 2).trans rfl;have hx23 : w2.cell? ⟨w.heap.size + 1, 3, none⟩ = some (.slice A2 l2.length c2) := (blk_cell HY2.out 3).trans rfl;clear hb2)
     | (go_at_call 136;(with_reducible refine (spec_l11Find.calls k _ _ bl tx i _ (Kd.C_below HBL.out HB.out) HCB.out HI.out).mono ?_);rintro e w3 ⟨rfl, ⟨nd, rfl⟩⟩))
    have HB1 : Aside0 (Below w.heap.size w (w2.drewN nd).drew) := ⟨below_drew1 (pw_below_drewN HB.out _)⟩
    have HZ1 : Aside0 (((w2.drewN nd).drew).heap[w.heap.size]? = some (.cells #[.string nm, .string tx, .bool lf, .slice A l.length c] 53 (0, 0))) := ⟨HY1.out⟩
    have HZ2 : Aside0 (((w2.drewN nd).drew).heap[w.heap.size + 1]? = some (.cells #[.string nm2, .string tx2, .bool lf2, .slice A2 l2.length c2] 53 (0, 0))) := ⟨HY2.out⟩
    refine start_ (n := 11) (S := fun w' => w'.cell? ⟨w.heap.size, 1, none⟩ = some (.string tx) ∧ w'.cell? ⟨w.heap.size + 1, 0, none⟩ = some (.string nm2) ∧ w'.cell? ⟨w.heap.size + 1, 1, none⟩ = some (.string tx2) ∧ w'.cell? ⟨w.heap.size + 1, 2, none⟩ = some (.bool lf2) ∧ w'.cell? ⟨w.heap.size + 1, 3, none⟩ = some (.slice A2 l2.length c2)) (ds := []) #[false, false, false, false, false, false, false, false, false, false, false] (by kernel_rfl) rfl rfl ⟨hx11, hx20, hx21, hx22, hx23⟩ (fun hHeld => ?_)
    generalize (w2.drewN nd).drew = W1 at HB1 HZ1 HZ2 hHeld ⊢;have HS0 := Aside0.mk hHeld.1;have HS1 := Aside0.mk hHeld.2.1;have HS2 := Aside0.mk hHeld.2.2.1;have HS3 := Aside0.mk hHeld.2.2.2.1;have HS4 := Aside0.mk hHeld.2.2.2.2;clear hx11 hx20 hx21 hx22 hx23
    refine pure_ (i := 1) (N := some 28) (v := ?_) (a' := ?_) #[false, true, false, false, false, false, false, false, false, false, false] rfl rfl (by kernel_rfl) (fun _ _ _ h => h) (Or.inl ⟨by rfl, ?_⟩) ?_ ?_
    rotate_left
    ·intro w'
     go_simp
     with_reducible rfl
    rotate_left
    ·simp only [Act.put, List.setIfInBounds_toArray, List.set_cons_zero, List.set_cons_succ, i64_w, i32_w]
     rfl
    refine pure_ (i := 3) (N := some 30) (v := ?_) (a' := ?_) #[false, true, false, true, false, false, false, false, false, false, false] rfl rfl (by kernel_rfl) (fun _ _ _ h => h) (Or.inl ⟨by rfl, ?_⟩) ?_ ?_
    rotate_left
    ·intro w'
     go_simp
     with_reducible rfl
    rotate_left
    ·simp only [Act.put, List.setIfInBounds_toArray, List.set_cons_zero, List.set_cons_succ, i64_w, i32_w]
     rfl
    refine take_ (i := 4) (N := some 31) (v := ?_) (a' := ?_) #[false, true, false, true, true, false, false, false, false, false, false] rfl rfl (by kernel_rfl) (fun _ _ _ h => h) (Or.inl ⟨by rfl, ?_⟩) hHeld ?_ ?_
    rotate_left
    ·rintro w' ⟨s0, s1, s2, s3, s4⟩
     go_simp
     with_reducible rfl
    rotate_left
    ·simp only [Act.put, List.setIfInBounds_toArray, List.set_cons_zero, List.set_cons_succ, i64_w, i32_w]
     rfl
    refine take_ (i := 5) (N := some 32) (v := ?_) (a' := ?_) #[false, true, false, true, true, true, false, false, false, false, false] rfl rfl (by kernel_rfl) (fun _ _ _ h => h) (Or.inl ⟨by rfl, ?_⟩) hHeld ?_ ?_
    rotate_left
    ·rintro w' ⟨s0, s1, s2, s3, s4⟩
     go_simp
     with_reducible rfl
    rotate_left
    ·simp only [Act.put, List.setIfInBounds_toArray, List.set_cons_zero, List.set_cons_succ, i64_w, i32_w]
     rfl
    refine pure_ (i := 6) (N := some 33) (v := ?_) (a' := ?_) #[false, true, false, true, true, true, true, false, false, false, false] rfl rfl (by kernel_rfl) (fun _ _ _ h => h) (Or.inl ⟨by rfl, ?_⟩) ?_ ?_
    rotate_left
    ·intro w'
     go_simp
     with_reducible rfl
    rotate_left
    ·simp only [Act.put, List.setIfInBounds_toArray, List.set_cons_zero, List.set_cons_succ, i64_w, i32_w]
     rfl
    refine join_ (σ := Nat × Value × Nat) 3 #[true, true, true, true, true, true, true, true, false, false, false] (fun s => [(27, .slice (some ⟨s.1, 0, none⟩) 0 0), (29, s.2.1), (34, .slice (some ⟨s.2.2, 0, none⟩) 1 1)]) (fun s w' => Kd.N k151 151 w' W1.heap.size (fun _ => True) s.2.1 bl ∧ w'.heap[s.2.2]? = some (.cells #[.string tx, .string nm2, .string tx2, .bool lf2, .slice A2 l2.length c2] 151 (0, 0)) ∧ Below W1.heap.size W1 w' ∧ W1.heap.size ≤ s.2.2 ∧ some s.2.2 ≠ s.2.1.ownBlock) ?_ ?_
    rotate_left
    ·intro hCont
     refine two_ (i := 0) (j := 7) (Ni := some 27) (Nj := some 34) #[true, true, false, true, true, true, true, false, false, false, false] #[false, true, false, true, true, true, true, true, false, false, false] rfl rfl rfl rfl (by kernel_rfl) (by decide) (by decide) (fun K hK => ?_) (fun K hK => ?_)
     ·skip
      refine value_ (w1 := ?_) (v := ?_) (by rfl) rfl ?_ ?_
      rotate_left 2
      ·go_simp
       constructor
       ·rfl
       ·rfl
      refine hK.out _ _ ⟨((Below.alloc (Below.refl W1.heap.size W1) (Nat.le_refl _) (.cells #[] 151)).cell (World.block_lt_of_cell? _ _ (HS0.out))).trans (HS0.out), ((Below.alloc (Below.refl W1.heap.size W1) (Nat.le_refl _) (.cells #[] 151)).cell (World.block_lt_of_cell? _ _ (HS1.out))).trans (HS1.out), ((Below.alloc (Below.refl W1.heap.size W1) (Nat.le_refl _) (.cells #[] 151)).cell (World.block_lt_of_cell? _ _ (HS2.out))).trans (HS2.out), ((Below.alloc (Below.refl W1.heap.size W1) (Nat.le_refl _) (.cells #[] 151)).cell (World.block_lt_of_cell? _ _ (HS3.out))).trans (HS3.out), ((Below.alloc (Below.refl W1.heap.size W1) (Nat.le_refl _) (.cells #[] 151)).cell (World.block_lt_of_cell? _ _ (HS4.out))).trans (HS4.out)⟩ (fun hHeld => ?_)
      clear hK K
      refine norm_ (a' := ?_) ?_ ?_
      rotate_left
      ·show Act.put _ (some 27) _ = _
       simp only [Act.put, List.setIfInBounds_toArray, List.set_cons_zero, List.set_cons_succ, i64_w, i32_w]
       rfl
      refine two_ (i := 2) (j := 7) (Ni := some 29) (Nj := some 34) #[true, true, true, true, true, true, true, false, false, false, false] #[true, true, false, true, true, true, true, true, false, false, false] rfl rfl rfl rfl (by kernel_rfl) (by decide) (by decide) (fun K hK => ?_) (fun K hK => ?_)
      ·skip
       refine Kd.N_append_rows_step k151 (w0 := W1) W1.heap.size (by rfl) (.tmp 27) (.tmp 28) 113 151 (.agg #[(.string ⟨#[]⟩), (.string ⟨#[]⟩), (.string ⟨#[]⟩), (.bool false), (.slice none 0 0)]) 80 rfl Try.underlying113 info151 rfl (by decide) (by omega) (.slice (some ⟨W1.heap.size, 0, none⟩) 0 0) [] bl Ab bl.length cb (fun _ => True) (fun k => k < W1.heap.size) rfl rfl ?nO ?nF (fun k hk => ⟨trivial, by simp [Value.ownBlock];omega⟩) (fun _ _ => trivial) ?nB ?nS ?nL ?_
       (case nO => exact N_empty (Nat.le_refl _))
       (case nF => exact Kd.F_below (Kd.C_F k151_heap (Kd.C_below HBL.out HB1.out)) (Below.alloc (Below.refl W1.heap.size W1) (Nat.le_refl _) (.cells #[] 151)))
       (case nB => exact (Below.alloc (Below.refl W1.heap.size W1) (Nat.le_refl _) (.cells #[] 151)))
       (case nS => first|(simp;done)|(simp;omega))
       (case nL => have := HLIM.out;simp;omega)
       intro v1 w5 ho1 hb1 hg1 hat1
       simp only [List.nil_append] at ho1
       refine hK.out _ _ ⟨(hb1.cell (World.block_lt_of_cell? _ _ (HS0.out))).trans (HS0.out), (hb1.cell (World.block_lt_of_cell? _ _ (HS1.out))).trans (HS1.out), (hb1.cell (World.block_lt_of_cell? _ _ (HS2.out))).trans (HS2.out), (hb1.cell (World.block_lt_of_cell? _ _ (HS3.out))).trans (HS3.out), (hb1.cell (World.block_lt_of_cell? _ _ (HS4.out))).trans (HS4.out)⟩ (fun hHeld => ?_)
       clear hK K
       refine norm_ (a' := ?_) ?_ ?_
       rotate_left
       ·show Act.put _ (some 29) _ = _
        simp only [Act.put, List.setIfInBounds_toArray, List.set_cons_zero, List.set_cons_succ, i64_w, i32_w]
        rfl
       refine one_ (i := 7) (N := some 34) #[true, true, true, true, true, true, true, true, false, false, false] rfl rfl (by kernel_rfl) (by decide) (fun K hK => ?_)
       refine value_ (w1 := ?_) (v := ?_) (by rfl) rfl ?_ ?_
       rotate_left 2
       ·go_simp
        constructor
        ·rfl
        ·rfl
       refine hK.out _ _ ⟨((Below.alloc hb1 hb1.size (.cells #[.string tx, .string nm2, .string tx2, .bool lf2, .slice A2 l2.length c2] 151)).cell (World.block_lt_of_cell? _ _ (HS0.out))).trans (HS0.out), ((Below.alloc hb1 hb1.size (.cells #[.string tx, .string nm2, .string tx2, .bool lf2, .slice A2 l2.length c2] 151)).cell (World.block_lt_of_cell? _ _ (HS1.out))).trans (HS1.out), ((Below.alloc hb1 hb1.size (.cells #[.string tx, .string nm2, .string tx2, .bool lf2, .slice A2 l2.length c2] 151)).cell (World.block_lt_of_cell? _ _ (HS2.out))).trans (HS2.out), ((Below.alloc hb1 hb1.size (.cells #[.string tx, .string nm2, .string tx2, .bool lf2, .slice A2 l2.length c2] 151)).cell (World.block_lt_of_cell? _ _ (HS3.out))).trans (HS3.out), ((Below.alloc hb1 hb1.size (.cells #[.string tx, .string nm2, .string tx2, .bool lf2, .slice A2 l2.length c2] 151)).cell (World.block_lt_of_cell? _ _ (HS4.out))).trans (HS4.out)⟩ (fun hHeld => ?_)
       clear hK K
       refine norm_ (a' := ?_) ?_ ?_
       rotate_left
       ·show Act.put _ (some 34) _ = _
        simp only [Act.put, List.setIfInBounds_toArray, List.set_cons_zero, List.set_cons_succ, i64_w, i32_w]
        rfl
       exact norm_ (by simp only [putAll, Act.put, List.setIfInBounds_toArray, List.set_cons_zero, List.set_cons_succ]) (hCont (W1.heap.size, v1, w5.heap.size) _ ⟨Kd.N_alloc ho1 _, blk_new _ _, Below.alloc hb1 hb1.size _, hb1.size, fun e_ => absurd (Kd.N_lt ho1 _ e_.symm) (Nat.lt_irrefl _)⟩)
      ·skip
       refine value_ (w1 := ?_) (v := ?_) (by rfl) rfl ?_ ?_
       rotate_left 2
       ·go_simp
        constructor
        ·rfl
        ·rfl
       refine hK.out _ _ ⟨((Below.alloc (Below.alloc (Below.refl W1.heap.size W1) (Nat.le_refl _) (.cells #[] 151)) (by simp) (.cells #[.string tx, .string nm2, .string tx2, .bool lf2, .slice A2 l2.length c2] 151)).cell (World.block_lt_of_cell? _ _ (HS0.out))).trans (HS0.out), ((Below.alloc (Below.alloc (Below.refl W1.heap.size W1) (Nat.le_refl _) (.cells #[] 151)) (by simp) (.cells #[.string tx, .string nm2, .string tx2, .bool lf2, .slice A2 l2.length c2] 151)).cell (World.block_lt_of_cell? _ _ (HS1.out))).trans (HS1.out), ((Below.alloc (Below.alloc (Below.refl W1.heap.size W1) (Nat.le_refl _) (.cells #[] 151)) (by simp) (.cells #[.string tx, .string nm2, .string tx2, .bool lf2, .slice A2 l2.length c2] 151)).cell (World.block_lt_of_cell? _ _ (HS2.out))).trans (HS2.out), ((Below.alloc (Below.alloc (Below.refl W1.heap.size W1) (Nat.le_refl _) (.cells #[] 151)) (by simp) (.cells #[.string tx, .string nm2, .string tx2, .bool lf2, .slice A2 l2.length c2] 151)).cell (World.block_lt_of_cell? _ _ (HS3.out))).trans (HS3.out), ((Below.alloc (Below.alloc (Below.refl W1.heap.size W1) (Nat.le_refl _) (.cells #[] 151)) (by simp) (.cells #[.string tx, .string nm2, .string tx2, .bool lf2, .slice A2 l2.length c2] 151)).cell (World.block_lt_of_cell? _ _ (HS4.out))).trans (HS4.out)⟩ (fun hHeld => ?_)
       clear hK K
       refine norm_ (a' := ?_) ?_ ?_
       rotate_left
       ·show Act.put _ (some 34) _ = _
        simp only [Act.put, List.setIfInBounds_toArray, List.set_cons_zero, List.set_cons_succ, i64_w, i32_w]
        rfl
       refine one_ (i := 2) (N := some 29) #[true, true, true, true, true, true, true, true, false, false, false] rfl rfl (by kernel_rfl) (by decide) (fun K hK => ?_)
       refine Kd.N_append_rows_step k151 (w0 := W1) W1.heap.size (by rfl) (.tmp 27) (.tmp 28) 113 151 (.agg #[(.string ⟨#[]⟩), (.string ⟨#[]⟩), (.string ⟨#[]⟩), (.bool false), (.slice none 0 0)]) 80 rfl Try.underlying113 info151 rfl (by decide) (by omega) (.slice (some ⟨W1.heap.size, 0, none⟩) 0 0) [] bl Ab bl.length cb (fun _ => True) (fun k => k < W1.heap.size) rfl rfl ?nO ?nF (fun k hk => ⟨trivial, by simp [Value.ownBlock];omega⟩) (fun _ _ => trivial) ?nB ?nS ?nL ?_
       (case nO => exact Kd.N_alloc (N_empty (Nat.le_refl _)) _)
       (case nF => exact Kd.F_below (Kd.C_F k151_heap (Kd.C_below HBL.out HB1.out)) (Below.alloc (Below.alloc (Below.refl W1.heap.size W1) (Nat.le_refl _) (.cells #[] 151)) (by simp) (.cells #[.string tx, .string nm2, .string tx2, .bool lf2, .slice A2 l2.length c2] 151)))
       (case nB => exact (Below.alloc (Below.alloc (Below.refl W1.heap.size W1) (Nat.le_refl _) (.cells #[] 151)) (by simp) (.cells #[.string tx, .string nm2, .string tx2, .bool lf2, .slice A2 l2.length c2] 151)))
       (case nS => first|(simp;done)|(simp;omega))
       (case nL => have := HLIM.out;simp;omega)
       intro v1 w5 ho1 hb1 hg1 hat1
       simp only [List.nil_append] at ho1
       have hlit : w5.heap[(W1.heap.size + 1)]? = some (.cells #[.string tx, .string nm2, .string tx2, .bool lf2, .slice A2 l2.length c2] 151 (0, 0)) := blk_grown (by simpa using blk_new (W1.alloc (.cells #[] 151)) (.cells #[.string tx, .string nm2, .string tx2, .bool lf2, .slice A2 l2.length c2] 151)) hg1 (by simp [Value.ownBlock])
       have hnel : some (W1.heap.size + 1) ≠ v1.ownBlock := by rcases hat1 with h_|⟨b_, h_, hle_⟩ <;> rw [h_] <;> simp [Value.ownBlock] at * <;> omega
       refine hK.out _ _ ⟨(hb1.cell (World.block_lt_of_cell? _ _ (HS0.out))).trans (HS0.out), (hb1.cell (World.block_lt_of_cell? _ _ (HS1.out))).trans (HS1.out), (hb1.cell (World.block_lt_of_cell? _ _ (HS2.out))).trans (HS2.out), (hb1.cell (World.block_lt_of_cell? _ _ (HS3.out))).trans (HS3.out), (hb1.cell (World.block_lt_of_cell? _ _ (HS4.out))).trans (HS4.out)⟩ (fun hHeld => ?_)
       clear hK K
       refine norm_ (a' := ?_) ?_ ?_
       rotate_left
       ·show Act.put _ (some 29) _ = _
        simp only [Act.put, List.setIfInBounds_toArray, List.set_cons_zero, List.set_cons_succ, i64_w, i32_w]
        rfl
       exact norm_ (by simp only [putAll, Act.put, List.setIfInBounds_toArray, List.set_cons_zero, List.set_cons_succ]) (hCont (W1.heap.size, v1, W1.heap.size + 1) _ ⟨ho1, hlit, hb1, Nat.le_add_right _ _, hnel⟩)
     ·skip
      refine value_ (w1 := ?_) (v := ?_) (by rfl) rfl ?_ ?_
      rotate_left 2
      ·go_simp
       constructor
       ·rfl
       ·rfl
      refine hK.out _ _ ⟨((Below.alloc (Below.refl W1.heap.size W1) (Nat.le_refl _) (.cells #[.string tx, .string nm2, .string tx2, .bool lf2, .slice A2 l2.length c2] 151)).cell (World.block_lt_of_cell? _ _ (HS0.out))).trans (HS0.out), ((Below.alloc (Below.refl W1.heap.size W1) (Nat.le_refl _) (.cells #[.string tx, .string nm2, .string tx2, .bool lf2, .slice A2 l2.length c2] 151)).cell (World.block_lt_of_cell? _ _ (HS1.out))).trans (HS1.out), ((Below.alloc (Below.refl W1.heap.size W1) (Nat.le_refl _) (.cells #[.string tx, .string nm2, .string tx2, .bool lf2, .slice A2 l2.length c2] 151)).cell (World.block_lt_of_cell? _ _ (HS2.out))).trans (HS2.out), ((Below.alloc (Below.refl W1.heap.size W1) (Nat.le_refl _) (.cells #[.string tx, .string nm2, .string tx2, .bool lf2, .slice A2 l2.length c2] 151)).cell (World.block_lt_of_cell? _ _ (HS3.out))).trans (HS3.out), ((Below.alloc (Below.refl W1.heap.size W1) (Nat.le_refl _) (.cells #[.string tx, .string nm2, .string tx2, .bool lf2, .slice A2 l2.length c2] 151)).cell (World.block_lt_of_cell? _ _ (HS4.out))).trans (HS4.out)⟩ (fun hHeld => ?_)
      clear hK K
      refine norm_ (a' := ?_) ?_ ?_
      rotate_left
      ·show Act.put _ (some 34) _ = _
       simp only [Act.put, List.setIfInBounds_toArray, List.set_cons_zero, List.set_cons_succ, i64_w, i32_w]
       rfl
      refine one_ (i := 0) (N := some 27) #[true, true, false, true, true, true, true, true, false, false, false] rfl rfl (by kernel_rfl) (by decide) (fun K hK => ?_)
      refine value_ (w1 := ?_) (v := ?_) (by rfl) rfl ?_ ?_
      rotate_left 2
      ·go_simp
       constructor
       ·rfl
       ·rfl
      refine hK.out _ _ ⟨((Below.alloc (Below.alloc (Below.refl W1.heap.size W1) (Nat.le_refl _) (.cells #[.string tx, .string nm2, .string tx2, .bool lf2, .slice A2 l2.length c2] 151)) (by simp) (.cells #[] 151)).cell (World.block_lt_of_cell? _ _ (HS0.out))).trans (HS0.out), ((Below.alloc (Below.alloc (Below.refl W1.heap.size W1) (Nat.le_refl _) (.cells #[.string tx, .string nm2, .string tx2, .bool lf2, .slice A2 l2.length c2] 151)) (by simp) (.cells #[] 151)).cell (World.block_lt_of_cell? _ _ (HS1.out))).trans (HS1.out), ((Below.alloc (Below.alloc (Below.refl W1.heap.size W1) (Nat.le_refl _) (.cells #[.string tx, .string nm2, .string tx2, .bool lf2, .slice A2 l2.length c2] 151)) (by simp) (.cells #[] 151)).cell (World.block_lt_of_cell? _ _ (HS2.out))).trans (HS2.out), ((Below.alloc (Below.alloc (Below.refl W1.heap.size W1) (Nat.le_refl _) (.cells #[.string tx, .string nm2, .string tx2, .bool lf2, .slice A2 l2.length c2] 151)) (by simp) (.cells #[] 151)).cell (World.block_lt_of_cell? _ _ (HS3.out))).trans (HS3.out), ((Below.alloc (Below.alloc (Below.refl W1.heap.size W1) (Nat.le_refl _) (.cells #[.string tx, .string nm2, .string tx2, .bool lf2, .slice A2 l2.length c2] 151)) (by simp) (.cells #[] 151)).cell (World.block_lt_of_cell? _ _ (HS4.out))).trans (HS4.out)⟩ (fun hHeld => ?_)
      clear hK K
      refine norm_ (a' := ?_) ?_ ?_
      rotate_left
      ·show Act.put _ (some 27) _ = _
       simp only [Act.put, List.setIfInBounds_toArray, List.set_cons_zero, List.set_cons_succ, i64_w, i32_w]
       rfl
      refine one_ (i := 2) (N := some 29) #[true, true, true, true, true, true, true, true, false, false, false] rfl rfl (by kernel_rfl) (by decide) (fun K hK => ?_)
      refine Kd.N_append_rows_step k151 (w0 := W1) W1.heap.size (by rfl) (.tmp 27) (.tmp 28) 113 151 (.agg #[(.string ⟨#[]⟩), (.string ⟨#[]⟩), (.string ⟨#[]⟩), (.bool false), (.slice none 0 0)]) 80 rfl Try.underlying113 info151 rfl (by decide) (by omega) (.slice (some ⟨(W1.heap.size + 1), 0, none⟩) 0 0) [] bl Ab bl.length cb (fun _ => True) (fun k => k < W1.heap.size) rfl rfl ?nO ?nF (fun k hk => ⟨trivial, by simp [Value.ownBlock];omega⟩) (fun _ _ => trivial) ?nB ?nS ?nL ?_
      (case nO => exact N_empty' (by simp))
      (case nF => exact Kd.F_below (Kd.C_F k151_heap (Kd.C_below HBL.out HB1.out)) (Below.alloc (Below.alloc (Below.refl W1.heap.size W1) (Nat.le_refl _) (.cells #[.string tx, .string nm2, .string tx2, .bool lf2, .slice A2 l2.length c2] 151)) (by simp) (.cells #[] 151)))
      (case nB => exact (Below.alloc (Below.alloc (Below.refl W1.heap.size W1) (Nat.le_refl _) (.cells #[.string tx, .string nm2, .string tx2, .bool lf2, .slice A2 l2.length c2] 151)) (by simp) (.cells #[] 151)))
      (case nS => first|(simp;done)|(simp;omega))
      (case nL => have := HLIM.out;simp;omega)
      intro v1 w5 ho1 hb1 hg1 hat1
      simp only [List.nil_append] at ho1
      have hlit : w5.heap[W1.heap.size]? = some (.cells #[.string tx, .string nm2, .string tx2, .bool lf2, .slice A2 l2.length c2] 151 (0, 0)) := blk_grown (by simpa using blk_alloc (blk_new _ _) _) hg1 (by simp [Value.ownBlock])
      have hnel : some W1.heap.size ≠ v1.ownBlock := by rcases hat1 with h_|⟨b_, h_, hle_⟩ <;> rw [h_] <;> simp [Value.ownBlock] at * <;> omega
      refine hK.out _ _ ⟨(hb1.cell (World.block_lt_of_cell? _ _ (HS0.out))).trans (HS0.out), (hb1.cell (World.block_lt_of_cell? _ _ (HS1.out))).trans (HS1.out), (hb1.cell (World.block_lt_of_cell? _ _ (HS2.out))).trans (HS2.out), (hb1.cell (World.block_lt_of_cell? _ _ (HS3.out))).trans (HS3.out), (hb1.cell (World.block_lt_of_cell? _ _ (HS4.out))).trans (HS4.out)⟩ (fun hHeld => ?_)
      clear hK K
      refine norm_ (a' := ?_) ?_ ?_
      rotate_left
      ·show Act.put _ (some 29) _ = _
       simp only [Act.put, List.setIfInBounds_toArray, List.set_cons_zero, List.set_cons_succ, i64_w, i32_w]
       rfl
      exact norm_ (by simp only [putAll, Act.put, List.setIfInBounds_toArray, List.set_cons_zero, List.set_cons_succ]) (hCont (W1.heap.size + 1, v1, W1.heap.size) _ ⟨ho1, hlit, hb1, Nat.le_refl _, hnel⟩)
    rintro ⟨b1, v2, b3⟩ W2 ⟨hn2, hl2, hb2, hg3, hne3⟩
    dsimp only at hn2 hl2 hb2 hg3 hne3
    have HN2 := Aside0.mk hn2
    have HL2 := Aside0.mk hl2
    have HB2 := Aside0.mk hb2
    have HG3 := Aside0.mk hg3
    have HE3 := Aside0.mk hne3
    clear hn2 hl2 hb2 hg3 hne3
    have hHeld : W2.cell? ⟨w.heap.size, 1, none⟩ = some (.string tx) ∧ W2.cell? ⟨w.heap.size + 1, 0, none⟩ = some (.string nm2) ∧ W2.cell? ⟨w.heap.size + 1, 1, none⟩ = some (.string tx2) ∧ W2.cell? ⟨w.heap.size + 1, 2, none⟩ = some (.bool lf2) ∧ W2.cell? ⟨w.heap.size + 1, 3, none⟩ = some (.slice A2 l2.length c2) := ⟨(HB2.out.cell (World.block_lt_of_cell? _ _ (HS0.out))).trans (HS0.out), (HB2.out.cell (World.block_lt_of_cell? _ _ (HS1.out))).trans (HS1.out), (HB2.out.cell (World.block_lt_of_cell? _ _ (HS2.out))).trans (HS2.out), (HB2.out.cell (World.block_lt_of_cell? _ _ (HS3.out))).trans (HS3.out), (HB2.out.cell (World.block_lt_of_cell? _ _ (HS4.out))).trans (HS4.out)⟩
    refine norm_ (a' := ?_) ?_ ?_
    rotate_left
    ·simp only [putAll, Act.put, List.setIfInBounds_toArray, List.set_cons_zero, List.set_cons_succ]
     rfl
    refine one_ (i := 8) (N := some 35) #[true, true, true, true, true, true, true, true, true, false, false] rfl rfl (by kernel_rfl) (by decide) (fun K hK => ?_)
    refine Kd.N_append_rows_step k151 (w0 := W1) W1.heap.size (by rfl) (.tmp 29) (.tmp 34) 113 151 (.agg #[(.string ⟨#[]⟩), (.string ⟨#[]⟩), (.string ⟨#[]⟩), (.bool false), (.slice none 0 0)]) 80 rfl Try.underlying113 info151 rfl (by decide) (by omega) v2 bl [(⟨tx, ⟨nm2, tx2, lf2, l2⟩⟩ : S151)] (some ⟨b3, 0, none⟩) 1 1 (fun _ => True) (fun k => k = b3 ∨ k < W1.heap.size) rfl rfl ?mO ?mF (fun k hk => ⟨trivial, ?mE⟩) (fun _ _ => trivial) ?mB ?mS ?mL ?_
    (case mO => exact HN2.out)
    (case mF => exact F_one (lit := [.string tx, .string nm2, .string tx2, .bool lf2, .slice A2 l2.length c2]) HL2.out (k151_mkF W2 _ (⟨tx, ⟨nm2, tx2, lf2, l2⟩⟩ : S151) HC2.out (Kd.F_below (Kd.C_F k53_heap (Kd.C_below HP2.out HB1.out)) HB2.out)))
    (case mE => rcases hk with rfl|hk;exact HE3.out;exact fun e_ => absurd (Kd.N_base HN2.out k e_.symm) (by omega))
    (case mB => exact HB2.out)
    (case mS => exact HB2.out.size)
    (case mL => have := HLIM.out;simp;omega)
    intro v3 w7 ho3 hb3 hg3 _
    have HO3 := Aside0.mk ho3
    have HB3 := Aside0.mk hb3
    clear ho3 hb3 hg3
    refine hK.out _ _ ⟨(HB3.out.cell (World.block_lt_of_cell? _ _ (HS0.out))).trans (HS0.out), (HB3.out.cell (World.block_lt_of_cell? _ _ (HS1.out))).trans (HS1.out), (HB3.out.cell (World.block_lt_of_cell? _ _ (HS2.out))).trans (HS2.out), (HB3.out.cell (World.block_lt_of_cell? _ _ (HS3.out))).trans (HS3.out), (HB3.out.cell (World.block_lt_of_cell? _ _ (HS4.out))).trans (HS4.out)⟩ (fun hHeld => ?_)
    clear hK K
    refine norm_ (a' := ?_) ?_ ?_
    rotate_left
    ·show Act.put _ (some 35) _ = _
     simp only [Act.put, List.setIfInBounds_toArray, List.set_cons_zero, List.set_cons_succ, i64_w, i32_w]
     rfl
    refine pure_ (i := 9) (N := some 6) (v := ?_) (a' := ?_) #[true, true, true, true, true, true, true, true, true, true, false] rfl rfl (by kernel_rfl) (fun _ _ _ h => h) (Or.inl ⟨by rfl, ?_⟩) ?_ ?_
    rotate_left
    ·intro w'
     go_simp
     with_reducible rfl
    rotate_left
    ·simp only [Act.put, List.setIfInBounds_toArray, List.set_cons_zero, List.set_cons_succ, i64_w, i32_w]
     rfl
    refine pure_ (i := 10) (N := some 7) (v := ?_) (a' := ?_) #[true, true, true, true, true, true, true, true, true, true, true] rfl rfl (by kernel_rfl) (fun _ _ _ h => h) (Or.inl ⟨by rfl, ?_⟩) ?_ ?_
    rotate_left
    ·intro w'
     go_simp
     with_reducible rfl
    rotate_left
    ·simp only [Act.put, List.setIfInBounds_toArray, List.set_cons_zero, List.set_cons_succ, i64_w, i32_w]
     rfl
    refine done_ (by kernel_rfl) ?_
    first|go_end0|(go_wp2;go_ret2)|go_ret2
    exact ⟨_, rfl, Row151.of_N HO3.out, below_step HB1.out HB3.out⟩
   ·rw [if_neg c2] at h
    exact absurd h (by simp)
 | false =>
  have h := H'.out
  simp only [Bool.false_eq_true, if_false] at h
  clear H'
  by_cases d1 : nm.toList = nm2.toList
  ·rw [if_pos d1] at h
   have d1b : (nm.toList == nm2.toList) = true := beq_iff_eq.mpr d1
   have d1c : (nm.toList != nm2.toList) = false := bne_eq_false_iff_eq.mpr d1
   clear d1
   by_cases d2 : lf = lf2
   ·rw [if_pos d2] at h
    have d2b : (lf == lf2) = true := beq_iff_eq.mpr d2
    have d2c : (lf != lf2) = false := bne_eq_false_iff_eq.mpr d2
    clear d2
    by_cases d3 : tx.toList = tx2.toList
    ·rw [if_pos d3] at h
     have d3b : (tx.toList == tx2.toList) = true := beq_iff_eq.mpr d3
     have d3c : (tx.toList != tx2.toList) = false := bne_eq_false_iff_eq.mpr d3
     clear d3
     by_cases d4 : l.length = l2.length
     ·rw [if_pos d4] at h
      have d4b : ((l.length : Int) == (l2.length : Int)) = true := beq_iff_eq.mpr (by omega)
      have d4c : ((l.length : Int) != (l2.length : Int)) = false := bne_eq_false_iff_eq.mpr (by omega)
      have d4d : (l.length != l2.length) = false := bne_eq_false_iff_eq.mpr d4
      have H' := Aside0.mk h
      have D4 := Aside0.mk d4
      clear h d4
      go_wp2_with (first|(go_at_call 134;(with_reducible refine (spec_l11Var.calls nm tx lf A c l false _ (Kd.C_below HP.out HB0.out) HC.out HT.out).mono ?_);rintro e w2 ⟨rfl, hb2⟩;have HB := Aside0.mk (below_step HB0.out hb2);have HY1 := Aside0.mk (blk_below HX1.out hb2);have HY2 := Aside0.mk (blk_below HX2.out hb2);have hx10 : w2.cell? ⟨w.heap.size, 0, none⟩ = some (.string nm) := (blk_cell HY1.out 0).trans rfl;have hx11 : w2.cell? ⟨w.heap.size, 1, none⟩ = some (.string tx) := (blk_cell HY1.out 1).trans rfl;have hx12 : w2.cell? ⟨w.heap.size, 2, none⟩ = some (.bool lf) := (blk_cell HY1.out 2).trans rfl;have hx13 : w2.cell? ⟨w.heap.size, 3, none⟩ = some (.slice A l.length c) := (blk_cell HY1.out 3).trans rfl;have hx20 : w2.cell? ⟨w.heap.size + 1, 0, none⟩ = some (.string nm2) := (blk_cell HY2.out 0).trans rfl;have hx21 : w2.cell? ⟨w.heap.size + 1, 1, none⟩ = some (.string tx2) := (blk_cell HY2.out 1).trans rfl;have hx22 : w2.cell? ⟨w.heap.size + 1, 2, none⟩ = some (.bool lf2) := (blk_cell HY2.out 2).trans rfl;have hx23 : w2.cell? ⟨w.heap.size + 1, 3, none⟩ = some (.slice A2 l2.length c2) := (blk_cell HY2.out 3).trans rfl;clear hb2))
      have HBw : Aside0 (Below w.heap.size w w2) := HB
      clear hx10 hx11 hx12 hx13 hx20 hx21 hx22 hx23 d1b d1c d2b d2c d3b d3c d4b d4c d4d
      go_loopg [2, 9, 10] k (fun kq v2 v9 v10 w' => ∃ (i : Int) (bi : List S151) (b : Bool), v10 = .int .i64 i ∧ v9 = .bool b ∧ Aside0 (Row151 w' v2 bi) ∧ Aside0 (spec_l11Match.l0 kq l l2 i bi b = some (rl, rb)) ∧ Aside0 (kq ≤ k) ∧ Aside0 (Below w.heap.size w w') ∧ Aside0 (w'.heap[w.heap.size]? = some (.cells #[.string nm, .string tx, .bool lf, .slice A l.length c] 53 (0, 0))) ∧ Aside0 (w'.heap[w.heap.size + 1]? = some (.cells #[.string nm2, .string tx2, .bool lf2, .slice A2 l2.length c2] 53 (0, 0))))
      case atStart => exact ⟨0, bl, true, rfl, rfl, ⟨⟨_, _, rfl, HCB.out, Kd.C_below HBL.out HB.out⟩⟩, H', ⟨Nat.le_refl _⟩, HB, HY1, HY2⟩
      case round =>
       clear H' HB HBw HY1 HY2 HX1 HX2 HB0 HT HBL HCB
       obtain ⟨i, bi, b, rfl, rfl, HR, HA, HK1, HB, HY1, HY2⟩ := hrel
       have hR := HR.out
       obtain ⟨Ai, ci, rfl, hci, hCi⟩ := hR
       clear hci hCi
       have hx13 : wr.cell? ⟨w.heap.size, 3, none⟩ = some (.slice A l.length c) := (blk_cell HY1.out 3).trans rfl
       have hx23 : wr.cell? ⟨w.heap.size + 1, 3, none⟩ = some (.slice A2 l2.length c2) := (blk_cell HY2.out 3).trans rfl
       cases gk with
       | zero => exact absurd HA.out (by simp [spec_l11Match.l0])
       | succ k1 =>
        have H := HA.out
        clear HA
        simp only [spec_l11Match.l0] at H
        by_cases c5 : i < (l.length : Int)
        ·rw [if_pos c5] at H
         have c5b : decide (i < (l.length : Int)) = true := decide_eq_true c5
         cases b with
         | true =>
          rw [if_pos rfl] at H
          by_cases c6 : 0 ≤ i
          ·rw [if_pos c6] at H
           by_cases c7 : i < (l2.length : Int)
           ·rw [if_pos c7] at H
            obtain ⟨⟨b2, f2⟩, ht, H⟩ := Option.bind_eq_some_iff.mp H
            have HT2 := Aside0.mk ht
            have H' := Aside0.mk H
            clear ht H
            obtain ⟨ad, A3, c3, e, hy0, hy1, hy2, hy3, hl3, hi3⟩ := at_T53 (Kd.C_below HP.out HB.out) i c6 c5
            cases e
            obtain ⟨ad2, A4, c4, e, hz0, hz1, hz2, hz3, hl4, hi4⟩ := at_T53 (Kd.C_below HP2.out HB.out) i c6 c7
            cases e
            have HF3 := Aside0.mk hi3
            have HC3 := Aside0.mk hl3
            have HF4 := Aside0.mk hi4
            have HC4 := Aside0.mk hl4
            have p0 := eq_true c6
            have p1 := eq_true c5
            have p2 := eq_true c7
            clear hi3 hl3 hi4 hl4 c5 c6 c7
            go_wp2
            have HB1 : Aside0 (Below w.heap.size w wr.drew) := ⟨below_drew1 HB.out⟩
            have HY1' := Aside0.mk (blk_drew HY1.out)
            have HY2' := Aside0.mk (blk_drew HY2.out)
            have HF3' : Aside0 (Kd.C k53 wr.drew A3 (rd_T53 l i).f3.length (rd_T53 l i).f3) := ⟨Kd.C_drew HF3.out⟩
            have HF4' : Aside0 (Kd.C k53 wr.drew A4 (rd_T53 l2 i).f3.length (rd_T53 l2 i).f3) := ⟨Kd.C_drew HF4.out⟩
            have HR' : Aside0 (Row151 wr.drew (.slice Ai bi.length ci) bi) := ⟨HR.out.below (below_drew (Below.refl _ _))⟩
            refine start_ (n := 17) (S := fun w' => w'.cell? ⟨w.heap.size, 3, none⟩ = some (.slice (some ad) l.length c) ∧ w'.cell? (ad.add (i.toNat * 4)) = some (.string (rd_T53 l i).f0) ∧ w'.cell? ⟨(ad.add (i.toNat * 4)).block, (ad.add (i.toNat * 4)).off + 1, none⟩ = some (.string (rd_T53 l i).f1) ∧ w'.cell? ⟨(ad.add (i.toNat * 4)).block, (ad.add (i.toNat * 4)).off + 2, none⟩ = some (.bool (rd_T53 l i).f2) ∧ w'.cell? ⟨(ad.add (i.toNat * 4)).block, (ad.add (i.toNat * 4)).off + 3, none⟩ = some (.slice A3 (rd_T53 l i).f3.length c3) ∧ w'.cell? ⟨w.heap.size + 1, 3, none⟩ = some (.slice (some ad2) l2.length c2) ∧ w'.cell? (ad2.add (i.toNat * 4)) = some (.string (rd_T53 l2 i).f0) ∧ w'.cell? ⟨(ad2.add (i.toNat * 4)).block, (ad2.add (i.toNat * 4)).off + 1, none⟩ = some (.string (rd_T53 l2 i).f1) ∧ w'.cell? ⟨(ad2.add (i.toNat * 4)).block, (ad2.add (i.toNat * 4)).off + 2, none⟩ = some (.bool (rd_T53 l2 i).f2) ∧ w'.cell? ⟨(ad2.add (i.toNat * 4)).block, (ad2.add (i.toNat * 4)).off + 3, none⟩ = some (.slice A4 (rd_T53 l2 i).f3.length c4)) (ds := [11]) #[false, false, false, false, false, false, false, false, false, false, false, false, false, false, false, false, false] (by kernel_rfl) rfl rfl ⟨hx13, hy0, hy1, hy2, hy3, hx23, hz0, hz1, hz2, hz3⟩ (fun hHeld => ?_)
            generalize wr.drew = W1 at HB1 HY1' HY2' HF3' HF4' HR' hHeld ⊢
            refine pure_ (i := 0) (N := some 76) (v := ?_) (a' := ?_) #[true, false, false, false, false, false, false, false, false, false, false, false, false, false, false, false, false] rfl rfl (by kernel_rfl) (fun _ _ _ h => h) (Or.inl ⟨by rfl, ?_⟩) ?_ ?_
            rotate_left
            ·intro w'
             go_simp
             with_reducible rfl
            rotate_left
            ·simp only [Act.put, List.setIfInBounds_toArray, List.set_cons_zero, List.set_cons_succ, i64_w, i32_w]
             rfl
            refine pure_ (i := 2) (N := some 78) (v := ?_) (a' := ?_) #[true, false, true, false, false, false, false, false, false, false, false, false, false, false, false, false, false] rfl rfl (by kernel_rfl) (fun _ _ _ h => h) (Or.inl ⟨by rfl, ?_⟩) ?_ ?_
            rotate_left
            ·intro w'
             go_simp
             with_reducible rfl
            rotate_left
            ·simp only [Act.put, List.setIfInBounds_toArray, List.set_cons_zero, List.set_cons_succ, i64_w, i32_w]
             rfl
            refine pure_ (i := 5) (N := some 81) (v := ?_) (a' := ?_) #[true, false, true, false, false, true, false, false, false, false, false, false, false, false, false, false, false] rfl rfl (by kernel_rfl) (fun _ _ _ h => h) (Or.inl ⟨by rfl, ?_⟩) ?_ ?_
            rotate_left
            ·intro w'
             go_simp
             with_reducible rfl
            rotate_left
            ·simp only [Act.put, List.setIfInBounds_toArray, List.set_cons_zero, List.set_cons_succ, i64_w, i32_w]
             rfl
            refine pure_ (i := 7) (N := some 83) (v := ?_) (a' := ?_) #[true, false, true, false, false, true, false, true, false, false, false, false, false, false, false, false, false] rfl rfl (by kernel_rfl) (fun _ _ _ h => h) (Or.inl ⟨by rfl, ?_⟩) ?_ ?_
            rotate_left
            ·intro w'
             go_simp
             with_reducible rfl
            rotate_left
            ·simp only [Act.put, List.setIfInBounds_toArray, List.set_cons_zero, List.set_cons_succ, i64_w, i32_w]
             rfl
            refine pure_ (i := 10) (N := some 86) (v := ?_) (a' := ?_) #[true, false, true, false, false, true, false, true, false, false, true, false, false, false, false, false, false] rfl rfl (by kernel_rfl) (fun _ _ _ h => h) (Or.inl ⟨by rfl, ?_⟩) ?_ ?_
            rotate_left
            ·intro w'
             go_simp
             with_reducible rfl
            rotate_left
            ·simp only [Act.put, List.setIfInBounds_toArray, List.set_cons_zero, List.set_cons_succ, i64_w, i32_w]
             rfl
            refine take_ (i := 1) (N := some 77) (v := ?_) (a' := ?_) #[true, true, true, false, false, true, false, true, false, false, true, false, false, false, false, false, false] rfl rfl (by kernel_rfl) (fun _ _ _ h => h) (Or.inl ⟨by rfl, ?_⟩) hHeld ?_ ?_
            rotate_left
            ·rintro w' ⟨s0, s1, s2, s3, s4, s5, s6, s7, s8, s9⟩
             go_simp
             with_reducible rfl
            rotate_left
            ·simp only [Act.put, List.setIfInBounds_toArray, List.set_cons_zero, List.set_cons_succ, i64_w, i32_w]
             rfl
            refine pure_ (i := 3) (N := some 79) (v := ?_) (a' := ?_) #[true, true, true, true, false, true, false, true, false, false, true, false, false, false, false, false, false] rfl rfl (by kernel_rfl) (fun _ _ _ h => h) (Or.inl ⟨by rfl, ?_⟩) ?_ ?_
            rotate_left
            ·intro w'
             go_simp
             with_reducible rfl
            rotate_left
            ·simp only [Act.put, List.setIfInBounds_toArray, List.set_cons_zero, List.set_cons_succ, i64_w, i32_w]
             rfl
            refine take_ (i := 4) (N := some 80) (v := ?_) (a' := ?_) #[true, true, true, true, true, true, false, true, false, false, true, false, false, false, false, false, false] rfl rfl (by kernel_rfl) (fun _ _ _ h => h) (Or.inl ⟨by rfl, ?_⟩) hHeld ?_ ?_
            rotate_left
            ·rintro w' ⟨s0, s1, s2, s3, s4, s5, s6, s7, s8, s9⟩
             go_simp
             with_reducible rfl
            rotate_left
            ·simp only [Act.put, List.setIfInBounds_toArray, List.set_cons_zero, List.set_cons_succ, i64_w, i32_w]
             rfl
            refine take_ (i := 6) (N := some 82) (v := ?_) (a' := ?_) #[true, true, true, true, true, true, true, true, false, false, true, false, false, false, false, false, false] rfl rfl (by kernel_rfl) (fun _ _ _ h => h) (Or.inl ⟨by rfl, ?_⟩) hHeld ?_ ?_
            rotate_left
            ·rintro w' ⟨s0, s1, s2, s3, s4, s5, s6, s7, s8, s9⟩
             go_simp
             with_reducible rfl
            rotate_left
            ·simp only [Act.put, List.setIfInBounds_toArray, List.set_cons_zero, List.set_cons_succ, i64_w, i32_w]
             rfl
            refine pure_ (i := 8) (N := some 84) (v := ?_) (a' := ?_) #[true, true, true, true, true, true, true, true, true, false, true, false, false, false, false, false, false] rfl rfl (by kernel_rfl) (fun _ _ _ h => h) (Or.inl ⟨by rfl, ?_⟩) ?_ ?_
            rotate_left
            ·intro w'
             go_simp
             with_reducible rfl
            rotate_left
            ·simp only [Act.put, List.setIfInBounds_toArray, List.set_cons_zero, List.set_cons_succ, i64_w, i32_w]
             rfl
            refine take_ (i := 9) (N := some 85) (v := ?_) (a' := ?_) #[true, true, true, true, true, true, true, true, true, true, true, false, false, false, false, false, false] rfl rfl (by kernel_rfl) (fun _ _ _ h => h) (Or.inl ⟨by rfl, ?_⟩) hHeld ?_ ?_
            rotate_left
            ·rintro w' ⟨s0, s1, s2, s3, s4, s5, s6, s7, s8, s9⟩
             go_simp
             with_reducible rfl
            rotate_left
            ·simp only [Act.put, List.setIfInBounds_toArray, List.set_cons_zero, List.set_cons_succ, i64_w, i32_w]
             rfl
            refine last_ (i := 11) (N := some 87) #[true, true, true, true, true, true, true, true, true, true, true, true, false, false, false, false, false] rfl rfl (by kernel_rfl) (by decide) (fun K hK => ?_)
            refine goes_ Try.func116 (by kernel_rfl) rfl #[.agg #[.string (rd_T53 l i).f0, .string (rd_T53 l i).f1, .bool (rd_T53 l i).f2, .slice A3 (rd_T53 l i).f3.length c3], .agg #[.string (rd_T53 l2 i).f0, .string (rd_T53 l2 i).f1, .bool (rd_T53 l2 i).f2, .slice A4 (rd_T53 l2 i).f3.length c4], .slice Ai bi.length ci] (by rfl) rfl rfl (by simp only [List.map_toArray, List.map_cons, List.map_nil];rfl) ?_
            with_reducible refine (ih k1 (by have := HK1.out;omega) _ _ _ _ _ _ _ _ _ _ _ _ _ bi b2 f2 _ HF3'.out HC3.out HF4'.out HC4.out HR'.out HT2.out).mono ?_
            rintro e w6 ⟨v6, rfl, hr6, hb6⟩
            refine ⟨_, rfl, ?_⟩
            have HR6 := Aside0.mk hr6
            have HB6 := Aside0.mk (below_step HB1.out hb6)
            have HY16 := Aside0.mk (blk_below HY1'.out hb6)
            have HY26 := Aside0.mk (blk_below HY2'.out hb6)
            clear hr6 hb6
            refine hK.out _ _ ?_
            clear hK K
            refine norm_ (a' := ?_) ?_ ?_
            rotate_left
            ·show Act.put _ (some 87) _ = _
             simp only [Act.put, List.setIfInBounds_toArray, List.set_cons_zero, List.set_cons_succ, i64_w, i32_w]
             rfl
            refine pure_ (i := 12) (N := some 75) (v := ?_) (a' := ?_) #[true, true, true, true, true, true, true, true, true, true, true, true, true, false, false, false, false] rfl rfl (by kernel_rfl) (fun _ _ _ h => h) (Or.inl ⟨by rfl, ?_⟩) ?_ ?_
            rotate_left
            ·intro w'
             go_simp
             with_reducible rfl
            rotate_left
            ·simp only [Act.put, List.setIfInBounds_toArray, List.set_cons_zero, List.set_cons_succ, i64_w, i32_w]
             rfl
            refine pure_ (i := 13) (N := some 88) (v := ?_) (a' := ?_) #[true, true, true, true, true, true, true, true, true, true, true, true, true, true, false, false, false] rfl rfl (by kernel_rfl) (fun _ _ _ h => h) (Or.inl ⟨by rfl, ?_⟩) ?_ ?_
            rotate_left
            ·intro w'
             go_simp
             with_reducible rfl
            rotate_left
            ·simp only [Act.put, List.setIfInBounds_toArray, List.set_cons_zero, List.set_cons_succ, i64_w, i32_w]
             rfl
            refine pure_ (i := 14) (N := some 89) (v := ?_) (a' := ?_) #[true, true, true, true, true, true, true, true, true, true, true, true, true, true, true, false, false] rfl rfl (by kernel_rfl) (fun _ _ _ h => h) (Or.inl ⟨by rfl, ?_⟩) ?_ ?_
            rotate_left
            ·intro w'
             go_simp
             with_reducible rfl
            rotate_left
            ·simp only [Act.put, List.setIfInBounds_toArray, List.set_cons_zero, List.set_cons_succ, i64_w, i32_w]
             rfl
            refine pure_ (i := 15) (N := some 2) (v := ?_) (a' := ?_) #[true, true, true, true, true, true, true, true, true, true, true, true, true, true, true, true, false] rfl rfl (by kernel_rfl) (fun _ _ _ h => h) (Or.inl ⟨by rfl, ?_⟩) ?_ ?_
            rotate_left
            ·intro w'
             go_simp
             with_reducible rfl
            rotate_left
            ·simp only [Act.put, List.setIfInBounds_toArray, List.set_cons_zero, List.set_cons_succ, i64_w, i32_w]
             rfl
            refine pure_ (i := 16) (N := some 9) (v := ?_) (a' := ?_) #[true, true, true, true, true, true, true, true, true, true, true, true, true, true, true, true, true] rfl rfl (by kernel_rfl) (fun _ _ _ h => h) (Or.inl ⟨by rfl, ?_⟩) ?_ ?_
            rotate_left
            ·intro w'
             go_simp
             with_reducible rfl
            rotate_left
            ·simp only [Act.put, List.setIfInBounds_toArray, List.set_cons_zero, List.set_cons_succ, i64_w, i32_w]
             rfl
            refine done_ (by kernel_rfl) ?_
            go_wp2
            go_roundg k1
            case measure => have := HK1.out;omega
            case rel => exact ⟨wrap64 (i + 1), b2, f2, rfl, rfl, HR6, H', ⟨by have := HK1.out;omega⟩, HB6, HY16, HY26⟩
           ·rw [if_neg c7] at H
            exact absurd H (by simp)
          ·rw [if_neg c6] at H
           exact absurd H (by simp)
         | false =>
          rw [if_neg (by simp)] at H
          simp only [Option.some.injEq, Prod.mk.injEq] at H
          obtain ⟨rfl, rfl⟩ := H
          clear c5
          go_wp2
          go_ret2
          exact ⟨_, rfl, HR.out, HB.out⟩
        ·rw [if_neg c5] at H
         have c5b : decide (i < (l.length : Int)) = false := decide_eq_false c5
         simp only [Option.some.injEq, Prod.mk.injEq] at H
         obtain ⟨rfl, rfl⟩ := H
         clear c5
         go_wp2
         go_ret2
         exact ⟨_, rfl, HR.out, HB.out⟩
     ·rw [if_neg d4] at h
      have d4b : ((l.length : Int) == (l2.length : Int)) = false := beq_eq_false_iff_ne.mpr (by omega)
      have d4c : ((l.length : Int) != (l2.length : Int)) = true := bne_iff_ne.mpr (by omega)
      have d4d : (l.length != l2.length) = true := bne_iff_ne.mpr d4
      clear d4
      have HBQ := Aside0.mk HB0.out
      simp only [Option.some.injEq, Prod.mk.injEq] at h
      obtain ⟨rfl, rfl⟩ := h
      go_wp2_with (first|(go_at_call 134;(with_reducible refine (spec_l11Var.calls nm tx lf A c l false _ (Kd.C_below HP.out HB0.out) HC.out HT.out).mono ?_);rintro e w2 ⟨rfl, hb2⟩;have HB := Aside0.mk (below_step HB0.out hb2);have HY1 := Aside0.mk (blk_below HX1.out hb2);have HY2 := Aside0.mk (blk_below HX2.out hb2);have hx10 : w2.cell? ⟨w.heap.size, 0, none⟩ = some (.string nm) := (blk_cell HY1.out 0).trans rfl;have hx11 : w2.cell? ⟨w.heap.size, 1, none⟩ = some (.string tx) := (blk_cell HY1.out 1).trans rfl;have hx12 : w2.cell? ⟨w.heap.size, 2, none⟩ = some (.bool lf) := (blk_cell HY1.out 2).trans rfl;have hx13 : w2.cell? ⟨w.heap.size, 3, none⟩ = some (.slice A l.length c) := (blk_cell HY1.out 3).trans rfl;have hx20 : w2.cell? ⟨w.heap.size + 1, 0, none⟩ = some (.string nm2) := (blk_cell HY2.out 0).trans rfl;have hx21 : w2.cell? ⟨w.heap.size + 1, 1, none⟩ = some (.string tx2) := (blk_cell HY2.out 1).trans rfl;have hx22 : w2.cell? ⟨w.heap.size + 1, 2, none⟩ = some (.bool lf2) := (blk_cell HY2.out 2).trans rfl;have hx23 : w2.cell? ⟨w.heap.size + 1, 3, none⟩ = some (.slice A2 l2.length c2) := (blk_cell HY2.out 3).trans rfl;clear hb2))
      go_ret2
      exact ⟨_, rfl, ⟨_, _, rfl, HCB.out, Kd.C_below HBL.out HB.out⟩, HB.out⟩
    ·rw [if_neg d3] at h
     have d3b : (tx.toList == tx2.toList) = false := beq_eq_false_iff_ne.mpr d3
     have d3c : (tx.toList != tx2.toList) = true := bne_iff_ne.mpr d3
     clear d3
     have HBQ := Aside0.mk HB0.out
     simp only [Option.some.injEq, Prod.mk.injEq] at h
     obtain ⟨rfl, rfl⟩ := h
     go_wp2_with (first|(go_at_call 134;(with_reducible refine (spec_l11Var.calls nm tx lf A c l false _ (Kd.C_below HP.out HB0.out) HC.out HT.out).mono ?_);rintro e w2 ⟨rfl, hb2⟩;have HB := Aside0.mk (below_step HB0.out hb2);have HY1 := Aside0.mk (blk_below HX1.out hb2);have HY2 := Aside0.mk (blk_below HX2.out hb2);have hx10 : w2.cell? ⟨w.heap.size, 0, none⟩ = some (.string nm) := (blk_cell HY1.out 0).trans rfl;have hx11 : w2.cell? ⟨w.heap.size, 1, none⟩ = some (.string tx) := (blk_cell HY1.out 1).trans rfl;have hx12 : w2.cell? ⟨w.heap.size, 2, none⟩ = some (.bool lf) := (blk_cell HY1.out 2).trans rfl;have hx13 : w2.cell? ⟨w.heap.size, 3, none⟩ = some (.slice A l.length c) := (blk_cell HY1.out 3).trans rfl;have hx20 : w2.cell? ⟨w.heap.size + 1, 0, none⟩ = some (.string nm2) := (blk_cell HY2.out 0).trans rfl;have hx21 : w2.cell? ⟨w.heap.size + 1, 1, none⟩ = some (.string tx2) := (blk_cell HY2.out 1).trans rfl;have hx22 : w2.cell? ⟨w.heap.size + 1, 2, none⟩ = some (.bool lf2) := (blk_cell HY2.out 2).trans rfl;have hx23 : w2.cell? ⟨w.heap.size + 1, 3, none⟩ = some (.slice A2 l2.length c2) := (blk_cell HY2.out 3).trans rfl;clear hb2))
     go_ret2
     exact ⟨_, rfl, ⟨_, _, rfl, HCB.out, Kd.C_below HBL.out HB.out⟩, HB.out⟩
   ·rw [if_neg d2] at h
    have d2b : (lf == lf2) = false := beq_eq_false_iff_ne.mpr d2
    have d2c : (lf != lf2) = true := bne_iff_ne.mpr d2
    clear d2
    have HBQ := Aside0.mk HB0.out
    simp only [Option.some.injEq, Prod.mk.injEq] at h
    obtain ⟨rfl, rfl⟩ := h
    go_wp2_with (first|(go_at_call 134;(with_reducible refine (spec_l11Var.calls nm tx lf A c l false _ (Kd.C_below HP.out HB0.out) HC.out HT.out).mono ?_);rintro e w2 ⟨rfl, hb2⟩;have HB := Aside0.mk (below_step HB0.out hb2);have HY1 := Aside0.mk (blk_below HX1.out hb2);have HY2 := Aside0.mk (blk_below HX2.out hb2);have hx10 : w2.cell? ⟨w.heap.size, 0, none⟩ = some (.string nm) := (blk_cell HY1.out 0).trans rfl;have hx11 : w2.cell? ⟨w.heap.size, 1, none⟩ = some (.string tx) := (blk_cell HY1.out 1).trans rfl;have hx12 : w2.cell? ⟨w.heap.size, 2, none⟩ = some (.bool lf) := (blk_cell HY1.out 2).trans rfl;have hx13 : w2.cell? ⟨w.heap.size, 3, none⟩ = some (.slice A l.length c) := (blk_cell HY1.out 3).trans rfl;have hx20 : w2.cell? ⟨w.heap.size + 1, 0, none⟩ = some (.string nm2) := (blk_cell HY2.out 0).trans rfl;have hx21 : w2.cell? ⟨w.heap.size + 1, 1, none⟩ = some (.string tx2) := (blk_cell HY2.out 1).trans rfl;have hx22 : w2.cell? ⟨w.heap.size + 1, 2, none⟩ = some (.bool lf2) := (blk_cell HY2.out 2).trans rfl;have hx23 : w2.cell? ⟨w.heap.size + 1, 3, none⟩ = some (.slice A2 l2.length c2) := (blk_cell HY2.out 3).trans rfl;clear hb2))
    go_ret2
    exact ⟨_, rfl, ⟨_, _, rfl, HCB.out, Kd.C_below HBL.out HB.out⟩, HB.out⟩
  ·rw [if_neg d1] at h
   have d1b : (nm.toList == nm2.toList) = false := beq_eq_false_iff_ne.mpr d1
   have d1c : (nm.toList != nm2.toList) = true := bne_iff_ne.mpr d1
   clear d1
   have HBQ := Aside0.mk HB0.out
   simp only [Option.some.injEq, Prod.mk.injEq] at h
   obtain ⟨rfl, rfl⟩ := h
   go_wp2_with (first|(go_at_call 134;(with_reducible refine (spec_l11Var.calls nm tx lf A c l false _ (Kd.C_below HP.out HB0.out) HC.out HT.out).mono ?_);rintro e w2 ⟨rfl, hb2⟩;have HB := Aside0.mk (below_step HB0.out hb2);have HY1 := Aside0.mk (blk_below HX1.out hb2);have HY2 := Aside0.mk (blk_below HX2.out hb2);have hx10 : w2.cell? ⟨w.heap.size, 0, none⟩ = some (.string nm) := (blk_cell HY1.out 0).trans rfl;have hx11 : w2.cell? ⟨w.heap.size, 1, none⟩ = some (.string tx) := (blk_cell HY1.out 1).trans rfl;have hx12 : w2.cell? ⟨w.heap.size, 2, none⟩ = some (.bool lf) := (blk_cell HY1.out 2).trans rfl;have hx13 : w2.cell? ⟨w.heap.size, 3, none⟩ = some (.slice A l.length c) := (blk_cell HY1.out 3).trans rfl;have hx20 : w2.cell? ⟨w.heap.size + 1, 0, none⟩ = some (.string nm2) := (blk_cell HY2.out 0).trans rfl;have hx21 : w2.cell? ⟨w.heap.size + 1, 1, none⟩ = some (.string tx2) := (blk_cell HY2.out 1).trans rfl;have hx22 : w2.cell? ⟨w.heap.size + 1, 2, none⟩ = some (.bool lf2) := (blk_cell HY2.out 2).trans rfl;have hx23 : w2.cell? ⟨w.heap.size + 1, 3, none⟩ = some (.slice A2 l2.length c2) := (blk_cell HY2.out 3).trans rfl;clear hb2))
   go_ret2
   exact ⟨_, rfl, ⟨_, _, rfl, HCB.out, Kd.C_below HBL.out HB.out⟩, HB.out⟩
end Go.Proofs.Ytgdecbliegelmaa.Q

/- The walk of spec.l11Places. -/
namespace Go.Proofs.Ytgdecbliegelmaa.Q
open Go.RowKit Go.Proofs.YtgdecbliegelmaaW.PrintWords Go.Proofs.YtgdecbliegelmaaW.PrintLast Go.Proofs.YtgdecbliegelmaaW.PrintMore
attribute [local go_sem] max2_int min2_int max_two min_two max_three min_three max_four min_four
set_option linter.unusedVariables false
set_option linter.unusedSimpArgs false
theorem N_int_ok {e base : Nat} {w : World} {ok ok' : Nat → Prop} {v : Value} {xs : List Int} (h : Kd.N (Kd.int .i64) e w base ok v xs) (hok : ∀ k, base ≤ k → ok' k) : Kd.N (Kd.int .i64) e w base ok' v xs := by
 have hb := Kd.N_base h
 obtain ⟨h0, rows, hl, hR, hf⟩ := h
 exact ⟨fun k hk => hok k (hb k hk), rows, hl, hR, fun j x c hx hc W' _ => by have := Kd.FK_now (hf j x c hx hc);exact this⟩
/-- A path that is read, with its footprint. -/
def PathF (w : World) (ok : Nat → Prop) (v : Value) (pl : List Int) : Prop := ∃ A c, v = .slice A pl.length c ∧ pl.length ≤ c ∧ Kd.F (Kd.int .i64) w ok A pl.length pl
theorem PathF.of_N {w : World} {base : Nat} {ok ok' : Nat → Prop} {v : Value} {pl : List Int} (h : Kd.N (Kd.int .i64) 3 w base ok v pl) (hok : ∀ k, base ≤ k → ok' k) : PathF w ok' v pl := by
 have h2 := N_int_ok h hok
 obtain ⟨A, c, rfl, hc, -⟩ := Kd.N_reads h2
 exact ⟨A, c, rfl, hc, Kd.N_F h2⟩
abbrev kII : Kd (List Int) := Kd.slice 3 (Kd.int .i64)
mutual
def spec_l11Places.l0 : Nat → ByteArray → ByteArray → Bool → List S53 → List S53 → List Int → Int → List (List Int) → Option (List (List Int))
  | 0, _, _, _, _, _, _, _, _ => none
  | k + 1, nm, tx, lf, l, l2, pl, i, out => if i < (l2.length : Int) then (if 0 ≤ i then (if pl.length < 100000000000 then ((spec_l11Places.f k nm tx lf l (rd_T53 l2 i).f0 (rd_T53 l2 i).f1 (rd_T53 l2 i).f2 (rd_T53 l2 i).f3 (pl ++ [i])).bind fun r => if out.length + r.length < 1000000000000 then spec_l11Places.l0 k nm tx lf l l2 pl (wrap64 (i + 1)) (out ++ r) else none) else none) else none) else some out
def spec_l11Places.f : Nat → ByteArray → ByteArray → Bool → List S53 → ByteArray → ByteArray → Bool → List S53 → List Int → Option (List (List Int))
  | 0, _, _, _, _, _, _, _, _, _ => none
  | k + 1, nm, tx, lf, l, nm2, tx2, lf2, l2, pl => (spec_l11Match.f k nm tx lf l nm2 tx2 lf2 l2 []).bind fun r => spec_l11Places.l0 k nm tx lf l l2 pl 0 (if r.2 = true then [pl] else [])
end
theorem spec_l11Places.mono_l : ∀ k, (∀ y0 y1 y2 y3 y4 y5 y6 y7 y8, LeO (spec_l11Places.f k y0 y1 y2 y3 y4 y5 y6 y7 y8) (spec_l11Places.f (k + 1) y0 y1 y2 y3 y4 y5 y6 y7 y8)) ∧ (∀ y0 y1 y2 y3 y4 y5 y6 y7, LeO (spec_l11Places.l0 k y0 y1 y2 y3 y4 y5 y6 y7) (spec_l11Places.l0 (k + 1) y0 y1 y2 y3 y4 y5 y6 y7))
 | 0 => ⟨fun _ _ _ _ _ _ _ _ _ r h => by simp [spec_l11Places.f] at h, fun _ _ _ _ _ _ _ _ r h => by simp [spec_l11Places.l0] at h⟩
 | k + 1 => by
  obtain ⟨ih0, ih1⟩ := spec_l11Places.mono_l k
  refine ⟨?_, ?_⟩
  ·intro y0 y1 y2 y3 y4 y5 y6 y7 y8
   unfold spec_l11Places.f
   repeat' first
   | (with_reducible exact ih1 _ _ _ _ _ _ _ _)
   | (with_reducible exact spec_l11Match.mono _ _ _ _ _ _ _ _ _ _)
   | (with_reducible refine LeO.bind ?_ (fun _ => ?_))
  ·intro y0 y1 y2 y3 y4 y5 y6 y7
   unfold spec_l11Places.l0
   repeat' first
   | (with_reducible exact ih0 _ _ _ _ _ _ _ _ _)
   | (with_reducible exact ih1 _ _ _ _ _ _ _ _)
   | (with_reducible exact LeO.refl _)
   | (with_reducible exact LeO.none _)
   | (with_reducible refine LeO.ite ?_ ?_)
   | (with_reducible refine LeO.bind ?_ (fun _ => ?_))
theorem spec_l11Places.mono : ∀ a0 a1 a2 a3 a4 a5 a6 a7 a8 k, LeO (spec_l11Places.f k a0 a1 a2 a3 a4 a5 a6 a7 a8) (spec_l11Places.f (k + 1) a0 a1 a2 a3 a4 a5 a6 a7 a8) := fun a0 a1 a2 a3 a4 a5 a6 a7 a8 k => (spec_l11Places.mono_l k).1 a0 a1 a2 a3 a4 a5 a6 a7 a8
set_option maxHeartbeats 16000000 in
set_option maxRecDepth 100000 in
theorem spec_l11Places.calls (k : Nat) : ∀ (nm tx : ByteArray) (lf : Bool) (A : Option Addr) (c : Nat) (l : List S53) (nm2 tx2 : ByteArray) (lf2 : Bool) (A2 : Option Addr) (c2 : Nat) (l2 : List S53) (v : Value) (pl : List Int) (okP : Nat → Prop) (rl : List (List Int)) (w : World) (hp : Kd.C k53 w A l.length l) (hc : l.length ≤ c) (hp2 : Kd.C k53 w A2 l2.length l2) (hc2 : l2.length ≤ c2) (hpl : PathF w okP v pl) (h : spec_l11Places.f k nm tx lf l nm2 tx2 lf2 l2 pl = some rl),
  Calls Try.prog 86 #[.agg #[.string nm, .string tx, .bool lf, .slice A l.length c], .agg #[.string nm2, .string tx2, .bool lf2, .slice A2 l2.length c2], v] w fun e w' => ∃ v' : Value, e = .returned v' ∧ Kd.N kII 62 w' w.heap.size (fun k => okP k ∨ w.heap.size ≤ k) v' rl ∧ Below w.heap.size w w' := by
 induction k using Nat.strongRecOn with
 | _ k ih =>
 intro nm tx lf A c l nm2 tx2 lf2 A2 c2 l2 v pl okP rl w hp hc hp2 hc2 hpl h
 cases k with
 | zero => exact absurd h (by simp [spec_l11Places.f])
 | succ k =>
 simp only [spec_l11Places.f] at h
 have hu53 := Try.underlying53
 obtain ⟨Ap, cp, rfl, hcp, hFp⟩ := hpl
 have HP := Aside0.mk hp
 have HC := Aside0.mk hc
 have HP2 := Aside0.mk hp2
 have HC2 := Aside0.mk hc2
 have HF := Aside0.mk (Kd.F_bound hFp)
 have HCP := Aside0.mk hcp
 have HB0 : Aside0 (Below w.heap.size w (((w.alloc (.cells #[.string nm, .string tx, .bool lf, .slice A l.length c] 53)).alloc (.cells #[.string nm2, .string tx2, .bool lf2, .slice A2 l2.length c2] 53)))) := ⟨below_alloc (below_alloc (Below.refl _ _) _) _⟩
 have HX1 : Aside0 (((w.alloc (.cells #[.string nm, .string tx, .bool lf, .slice A l.length c] 53)).alloc (.cells #[.string nm2, .string tx2, .bool lf2, .slice A2 l2.length c2] 53)).heap[w.heap.size]? = some (.cells #[.string nm, .string tx, .bool lf, .slice A l.length c] 53 (0, 0))) := ⟨blk_alloc (blk_new _ _) _⟩
 have HX2 : Aside0 (((w.alloc (.cells #[.string nm, .string tx, .bool lf, .slice A l.length c] 53)).alloc (.cells #[.string nm2, .string tx2, .bool lf2, .slice A2 l2.length c2] 53)).heap[w.heap.size + 1]? = some (.cells #[.string nm2, .string tx2, .bool lf2, .slice A2 l2.length c2] 53 (0, 0))) := ⟨by simpa using blk_new (w.alloc (.cells #[.string nm, .string tx, .bool lf, .slice A l.length c] 53)) (.cells #[.string nm2, .string tx2, .bool lf2, .slice A2 l2.length c2] 53)⟩
 clear hp hc hp2 hc2 hcp hFp
 obtain ⟨⟨rm, b⟩, ht, h⟩ := Option.bind_eq_some_iff.mp h
 have HT := Aside0.mk ht
 have H' := Aside0.mk h
 clear ht h
 go_enter Try.func86, Try.ntmps86
 go_upto_region 2 with (fail)
 have HB1 := Aside0.mk (below_alloc HB0.out (.cells #[] 62))
 have HN1 : Aside0 (Kd.N kII 62 ((((w.alloc (.cells #[.string nm, .string tx, .bool lf, .slice A l.length c] 53)).alloc (.cells #[.string nm2, .string tx2, .bool lf2, .slice A2 l2.length c2] 53))).alloc (.cells #[] 62)) w.heap.size (fun k => okP k ∨ w.heap.size ≤ k) (.slice (some ⟨w.heap.size + 1 + 1, 0, none⟩) 0 0) []) := ⟨by simpa using N_emptyOk (d := kII) (e := 62) (base := w.heap.size) (ok := fun k => okP k ∨ w.heap.size ≤ k) HB0.out.size (.inr HB0.out.size)⟩
 have HY1 := Aside0.mk (blk_alloc HX1.out (.cells #[] 62))
 have HY2 := Aside0.mk (blk_alloc HX2.out (.cells #[] 62))
 clear HX1 HX2 HB0
 generalize (.slice (some ⟨w.heap.size + 1 + 1, 0, none⟩) 0 0 : Value) = vo at HN1 ⊢
 generalize (((w.alloc (.cells #[.string nm, .string tx, .bool lf, .slice A l.length c] 53)).alloc (.cells #[.string nm2, .string tx2, .bool lf2, .slice A2 l2.length c2] 53))).alloc (.cells #[] 62) = W1 at HB1 HN1 HY1 HY2 ⊢
 have HBm : Aside0 (Below W1.heap.size W1 (W1.alloc (.cells #[] 151))) := ⟨below_alloc (Below.refl _ _) _⟩
 have hx10 : W1.cell? ⟨w.heap.size, 0, none⟩ = some (.string nm) := (blk_cell HY1.out 0).trans rfl
 have hx11 : W1.cell? ⟨w.heap.size, 1, none⟩ = some (.string tx) := (blk_cell HY1.out 1).trans rfl
 have hx12 : W1.cell? ⟨w.heap.size, 2, none⟩ = some (.bool lf) := (blk_cell HY1.out 2).trans rfl
 have hx13 : W1.cell? ⟨w.heap.size, 3, none⟩ = some (.slice A l.length c) := (blk_cell HY1.out 3).trans rfl
 have hx20 : W1.cell? ⟨w.heap.size + 1, 0, none⟩ = some (.string nm2) := (blk_cell HY2.out 0).trans rfl
 have hx21 : W1.cell? ⟨w.heap.size + 1, 1, none⟩ = some (.string tx2) := (blk_cell HY2.out 1).trans rfl
 have hx22 : W1.cell? ⟨w.heap.size + 1, 2, none⟩ = some (.bool lf2) := (blk_cell HY2.out 2).trans rfl
 have hx23 : W1.cell? ⟨w.heap.size + 1, 3, none⟩ = some (.slice A2 l2.length c2) := (blk_cell HY2.out 3).trans rfl
 go_upto_if 19 with (first
  | (go_at_call 116;(with_reducible refine (spec_l11Match.calls k nm tx lf A c l nm2 tx2 lf2 A2 c2 l2 _ [] rm b _ (Kd.C_below HP.out (below_step HB1.out HBm.out)) HC.out (Kd.C_below HP2.out (below_step HB1.out HBm.out)) HC2.out (Row151.nil _ _ _) HT.out).mono ?_);rintro e w2 ⟨vm, rfl, hrm, hb2⟩;have HBn := Aside0.mk (below_step HBm.out hb2);have HB2 := Aside0.mk (below_step HB1.out HBn.out);have HN2 := Aside0.mk (Kd.N_below HN1.out HBn.out);have HZ1 := Aside0.mk (blk_below HY1.out HBn.out);have HZ2 := Aside0.mk (blk_below HY2.out HBn.out);clear hb2 hrm))
 clear hx10 hx11 hx12 hx13 hx20 hx21 hx22 hx23
 have HFw := Aside0.mk (Kd.F_below HF.out HB2.out)
 go_cut [7] (fun v7 wc => Aside0 (Kd.N kII 62 wc w.heap.size (fun k => okP k ∨ w.heap.size ≤ k) v7 (if b = true then [pl] else [])) ∧ Aside0 (Below w.heap.size w wc) ∧ Aside0 (wc.heap[w.heap.size]? = some (.cells #[.string nm, .string tx, .bool lf, .slice A l.length c] 53 (0, 0))) ∧ Aside0 (wc.heap[w.heap.size + 1]? = some (.cells #[.string nm2, .string tx2, .bool lf2, .slice A2 l2.length c2] 53 (0, 0))))
 case first =>
  cases b with
  | true =>
   go_wp2_with ((at_builtin;refine Kd.N_append kII (w0 := w) w.heap.size rfl (.tmp 20) (.tmp 22) 69 62 (.slice none 0 0) 24 rfl Try.underlying69 info62 rfl (by decide) (by omega) vo [] pl [.slice Ap pl.length cp] (fun k => okP k ∨ w.heap.size ≤ k) (fun k => okP k ∧ k < w.heap.size) rfl (by first|(go_simp;done)|(go_simp;rfl)) ?aP (fun k hk => ⟨.inl hk.1, ?aE⟩) (fun k hk => .inr ?aF) ?aO ?aB ?aS ?aL ?_;(case aP => exact fun W' hW' => ⟨_, _, rfl, HCP.out, HFw.out W' hW'⟩);(case aE => exact fun e_ => absurd (Kd.N_base HN2.out k e_.symm) (by omega));(case aF => have := HB2.out.size;omega);(case aO => exact HN2.out);(case aB => exact HB2.out);(case aS => exact HB2.out.size);(case aL => simp);intro v1 w5 ho1 hb1 hg1 _;have HO := Aside0.mk ho1;have HB5 := Aside0.mk hb1;have HW1 := Aside0.mk (blk_grown HZ1.out hg1 (fun e_ => by obtain ⟨cells, hcl⟩ := Kd.N_typed HN2.out _ e_.symm;have hX := HZ1.out;rw [hX] at hcl;injection hcl with hcl;injection hcl with _ e2;exact absurd e2 (by decide)));have HW2 := Aside0.mk (blk_grown HZ2.out hg1 (fun e_ => by obtain ⟨cells, hcl⟩ := Kd.N_typed HN2.out _ e_.symm;have hX := HZ2.out;rw [hX] at hcl;injection hcl with hcl;injection hcl with _ e2;exact absurd e2 (by decide)));clear ho1 hb1 hg1))
   go_meet
   case rel => exact ⟨⟨by simpa using HO.out⟩, HB5, HW1, HW2⟩
  | false =>
   go_wp2
   go_meet
   case rel => exact ⟨⟨by simpa using HN2.out⟩, HB2, HZ1, HZ2⟩
 case rest =>
  obtain ⟨HN3, HB3, HW1, HW2⟩ := hcut
  have H2 := H'.out
  generalize (if b = true then [pl] else []) = o0 at H2 HN3
  have H' := Aside0.mk H2
  clear H2 HN1 HN2 HB1 HB2 HBm HBn HY1 HY2 HZ1 HZ2 HFw HT
  go_wp2
  go_loopg [7, 10] k (fun kq v7 v10 w' => ∃ (i : Int) (out : List (List Int)), v10 = .int .i64 i ∧ Aside0 (Kd.N kII 62 w' w.heap.size (fun k => okP k ∨ w.heap.size ≤ k) v7 out) ∧ Aside0 (spec_l11Places.l0 kq nm tx lf l l2 pl i out = some rl) ∧ Aside0 (kq ≤ k) ∧ Aside0 (Below w.heap.size w w') ∧ Aside0 (w'.heap[w.heap.size]? = some (.cells #[.string nm, .string tx, .bool lf, .slice A l.length c] 53 (0, 0))) ∧ Aside0 (w'.heap[w.heap.size + 1]? = some (.cells #[.string nm2, .string tx2, .bool lf2, .slice A2 l2.length c2] 53 (0, 0))))
  case atStart => exact ⟨0, o0, rfl, HN3, H', ⟨Nat.le_refl _⟩, HB3, HW1, HW2⟩
  case round =>
   clear H' HN3 HB3 HW1 HW2
   obtain ⟨i, out, rfl, HN, HA, HK1, HB, HY1, HY2⟩ := hrel
   cases gk with
   | zero => exact absurd HA.out (by simp [spec_l11Places.l0])
   | succ k1 =>
    have H := HA.out
    clear HA
    simp only [spec_l11Places.l0] at H
    have hx10 : wr.cell? ⟨w.heap.size, 0, none⟩ = some (.string nm) := (blk_cell HY1.out 0).trans rfl
    have hx11 : wr.cell? ⟨w.heap.size, 1, none⟩ = some (.string tx) := (blk_cell HY1.out 1).trans rfl
    have hx12 : wr.cell? ⟨w.heap.size, 2, none⟩ = some (.bool lf) := (blk_cell HY1.out 2).trans rfl
    have hx13 : wr.cell? ⟨w.heap.size, 3, none⟩ = some (.slice A l.length c) := (blk_cell HY1.out 3).trans rfl
    have hx20 : wr.cell? ⟨w.heap.size + 1, 0, none⟩ = some (.string nm2) := (blk_cell HY2.out 0).trans rfl
    have hx21 : wr.cell? ⟨w.heap.size + 1, 1, none⟩ = some (.string tx2) := (blk_cell HY2.out 1).trans rfl
    have hx22 : wr.cell? ⟨w.heap.size + 1, 2, none⟩ = some (.bool lf2) := (blk_cell HY2.out 2).trans rfl
    have hx23 : wr.cell? ⟨w.heap.size + 1, 3, none⟩ = some (.slice A2 l2.length c2) := (blk_cell HY2.out 3).trans rfl
    by_cases c5 : i < (l2.length : Int)
    ·rw [if_pos c5] at H
     have c5b : decide (i < (l2.length : Int)) = true := decide_eq_true c5
     by_cases c6 : 0 ≤ i
     ·rw [if_pos c6] at H
      by_cases c7 : pl.length < 100000000000
      ·rw [if_pos c7] at H
       obtain ⟨r, ht, H⟩ := Option.bind_eq_some_iff.mp H
       have HT2 := Aside0.mk ht
       clear ht
       by_cases c8 : out.length + r.length < 1000000000000
       ·rw [if_pos c8] at H
        have H' := Aside0.mk H
        have HLIM := Aside0.mk c7
        have HLIM2 := Aside0.mk c8
        clear H
        obtain ⟨ad, A3, c3, e, hy0, hy1, hy2, hy3, hl3, hi3⟩ := at_T53 HP2.out i c6 c5
        cases e
        replace hy0 := (HB.out.cell (World.block_lt_of_cell? w _ hy0)).trans hy0
        replace hy1 := (HB.out.cell (World.block_lt_of_cell? w _ hy1)).trans hy1
        replace hy2 := (HB.out.cell (World.block_lt_of_cell? w _ hy2)).trans hy2
        replace hy3 := (HB.out.cell (World.block_lt_of_cell? w _ hy3)).trans hy3
        have HK3 := Aside0.mk hi3
        have HC3 := Aside0.mk hl3
        have p0 := eq_true c6
        have p1 := eq_true c5
        clear hi3 hl3 c5 c6 c7 c8
        go_wp2
        have HB1 : Aside0 (Below w.heap.size w wr.drew) := ⟨below_drew1 HB.out⟩
        have HY1' := Aside0.mk (blk_drew HY1.out)
        have HY2' := Aside0.mk (blk_drew HY2.out)
        have HN1 := Aside0.mk (Kd.N_drew HN.out)
        refine start_ (n := 16) (S := fun w' => w'.cell? ⟨w.heap.size, 0, none⟩ = some (.string nm) ∧ w'.cell? ⟨w.heap.size, 1, none⟩ = some (.string tx) ∧ w'.cell? ⟨w.heap.size, 2, none⟩ = some (.bool lf) ∧ w'.cell? ⟨w.heap.size, 3, none⟩ = some (.slice A l.length c) ∧ w'.cell? ⟨w.heap.size + 1, 3, none⟩ = some (.slice (some ad) l2.length c2) ∧ w'.cell? (ad.add (i.toNat * 4)) = some (.string (rd_T53 l2 i).f0) ∧ w'.cell? ⟨(ad.add (i.toNat * 4)).block, (ad.add (i.toNat * 4)).off + 1, none⟩ = some (.string (rd_T53 l2 i).f1) ∧ w'.cell? ⟨(ad.add (i.toNat * 4)).block, (ad.add (i.toNat * 4)).off + 2, none⟩ = some (.bool (rd_T53 l2 i).f2) ∧ w'.cell? ⟨(ad.add (i.toNat * 4)).block, (ad.add (i.toNat * 4)).off + 3, none⟩ = some (.slice A3 (rd_T53 l2 i).f3.length c3)) (ds := [13, 14]) #[false, false, false, false, false, false, false, false, false, false, false, false, false, false, false, false] (by kernel_rfl) rfl rfl ⟨hx10, hx11, hx12, hx13, hx23, hy0, hy1, hy2, hy3⟩ (fun hHeld => ?_)
        generalize wr.drew = W1 at HB1 HY1' HY2' HN1 hHeld ⊢;have HS0 := Aside0.mk hHeld.1;have HS1 := Aside0.mk hHeld.2.1;have HS2 := Aside0.mk hHeld.2.2.1;have HS3 := Aside0.mk hHeld.2.2.2.1;have HS4 := Aside0.mk hHeld.2.2.2.2.1;have HS5 := Aside0.mk hHeld.2.2.2.2.2.1;have HS6 := Aside0.mk hHeld.2.2.2.2.2.2.1;have HS7 := Aside0.mk hHeld.2.2.2.2.2.2.2.1;have HS8 := Aside0.mk hHeld.2.2.2.2.2.2.2.2;clear hx10 hx11 hx12 hx13 hx20 hx21 hx22 hx23 hy0 hy1 hy2 hy3
        refine pure_ (i := 0) (N := some 31) (v := ?_) (a' := ?_) #[true, false, false, false, false, false, false, false, false, false, false, false, false, false, false, false] rfl rfl (by kernel_rfl) (fun _ _ _ h => h) (Or.inl ⟨by rfl, ?_⟩) ?_ ?_
        rotate_left
        ·intro w'
         go_simp
         with_reducible rfl
        rotate_left
        ·simp only [Act.put, List.setIfInBounds_toArray, List.set_cons_zero, List.set_cons_succ, i64_w, i32_w]
         rfl
        refine pure_ (i := 2) (N := some 33) (v := ?_) (a' := ?_) #[true, false, true, false, false, false, false, false, false, false, false, false, false, false, false, false] rfl rfl (by kernel_rfl) (fun _ _ _ h => h) (Or.inl ⟨by rfl, ?_⟩) ?_ ?_
        rotate_left
        ·intro w'
         go_simp
         with_reducible rfl
        rotate_left
        ·simp only [Act.put, List.setIfInBounds_toArray, List.set_cons_zero, List.set_cons_succ, i64_w, i32_w]
         rfl
        refine pure_ (i := 4) (N := some 35) (v := ?_) (a' := ?_) #[true, false, true, false, true, false, false, false, false, false, false, false, false, false, false, false] rfl rfl (by kernel_rfl) (fun _ _ _ h => h) (Or.inl ⟨by rfl, ?_⟩) ?_ ?_
        rotate_left
        ·intro w'
         go_simp
         with_reducible rfl
        rotate_left
        ·simp only [Act.put, List.setIfInBounds_toArray, List.set_cons_zero, List.set_cons_succ, i64_w, i32_w]
         rfl
        refine pure_ (i := 8) (N := some 39) (v := ?_) (a' := ?_) #[true, false, true, false, true, false, false, false, true, false, false, false, false, false, false, false] rfl rfl (by kernel_rfl) (fun _ _ _ h => h) (Or.inl ⟨by rfl, ?_⟩) ?_ ?_
        rotate_left
        ·intro w'
         go_simp
         with_reducible rfl
        rotate_left
        ·simp only [Act.put, List.setIfInBounds_toArray, List.set_cons_zero, List.set_cons_succ, i64_w, i32_w]
         rfl
        refine pure_ (i := 10) (N := some 41) (v := ?_) (a' := ?_) #[true, false, true, false, true, false, false, false, true, false, true, false, false, false, false, false] rfl rfl (by kernel_rfl) (fun _ _ _ h => h) (Or.inl ⟨by rfl, ?_⟩) ?_ ?_
        rotate_left
        ·intro w'
         go_simp
         with_reducible rfl
        rotate_left
        ·simp only [Act.put, List.setIfInBounds_toArray, List.set_cons_zero, List.set_cons_succ, i64_w, i32_w]
         rfl
        refine take_ (i := 1) (N := some 32) (v := ?_) (a' := ?_) #[true, true, true, false, true, false, false, false, true, false, true, false, false, false, false, false] rfl rfl (by kernel_rfl) (fun _ _ _ h => h) (Or.inl ⟨by rfl, ?_⟩) hHeld ?_ ?_
        rotate_left
        ·rintro w' ⟨s0, s1, s2, s3, s4, s5, s6, s7, s8⟩
         go_simp
         with_reducible rfl
        rotate_left
        ·simp only [Act.put, List.setIfInBounds_toArray, List.set_cons_zero, List.set_cons_succ, i64_w, i32_w]
         rfl
        refine take_ (i := 3) (N := some 34) (v := ?_) (a' := ?_) #[true, true, true, true, true, false, false, false, true, false, true, false, false, false, false, false] rfl rfl (by kernel_rfl) (fun _ _ _ h => h) (Or.inl ⟨by rfl, ?_⟩) hHeld ?_ ?_
        rotate_left
        ·rintro w' ⟨s0, s1, s2, s3, s4, s5, s6, s7, s8⟩
         go_simp
         with_reducible rfl
        rotate_left
        ·simp only [Act.put, List.setIfInBounds_toArray, List.set_cons_zero, List.set_cons_succ, i64_w, i32_w]
         rfl
        refine pure_ (i := 5) (N := some 36) (v := ?_) (a' := ?_) #[true, true, true, true, true, true, false, false, true, false, true, false, false, false, false, false] rfl rfl (by kernel_rfl) (fun _ _ _ h => h) (Or.inl ⟨by rfl, ?_⟩) ?_ ?_
        rotate_left
        ·intro w'
         go_simp
         with_reducible rfl
        rotate_left
        ·simp only [Act.put, List.setIfInBounds_toArray, List.set_cons_zero, List.set_cons_succ, i64_w, i32_w]
         rfl
        refine take_ (i := 6) (N := some 37) (v := ?_) (a' := ?_) #[true, true, true, true, true, true, true, false, true, false, true, false, false, false, false, false] rfl rfl (by kernel_rfl) (fun _ _ _ h => h) (Or.inl ⟨by rfl, ?_⟩) hHeld ?_ ?_
        rotate_left
        ·rintro w' ⟨s0, s1, s2, s3, s4, s5, s6, s7, s8⟩
         go_simp
         with_reducible rfl
        rotate_left
        ·simp only [Act.put, List.setIfInBounds_toArray, List.set_cons_zero, List.set_cons_succ, i64_w, i32_w]
         rfl
        refine join_ (σ := Nat × Value × Nat) 4 #[true, true, true, true, true, true, true, true, true, true, true, true, false, false, false, false] (fun s => [(38, .slice (some ⟨s.1, 0, none⟩) 0 0), (40, s.2.1), (42, .slice (some ⟨s.2.2, 0, none⟩) 1 1)]) (fun s w' => Kd.N (Kd.int .i64) 3 w' W1.heap.size (fun _ => True) s.2.1 pl ∧ w'.heap[s.2.2]? = some (.cells #[.int .i64 i] 3 (0, 0)) ∧ Below W1.heap.size W1 w' ∧ W1.heap.size ≤ s.2.2 ∧ some s.2.2 ≠ s.2.1.ownBlock) ?_ ?_
        rotate_left
        ·intro hCont
         refine two_ (i := 7) (j := 11) (Ni := some 38) (Nj := some 42) #[true, true, true, true, true, true, true, true, true, false, true, false, false, false, false, false] #[true, true, true, true, true, true, true, false, true, false, true, true, false, false, false, false] rfl rfl rfl rfl (by kernel_rfl) (by decide) (by decide) (fun K hK => ?_) (fun K hK => ?_)
         ·skip
          refine value_ (w1 := ?_) (v := ?_) (by rfl) rfl ?_ ?_
          rotate_left 2
          ·go_simp
           constructor
           ·rfl
           ·rfl
          refine hK.out _ _ ⟨((Below.alloc (Below.refl W1.heap.size W1) (Nat.le_refl _) (.cells #[] 3)).cell (World.block_lt_of_cell? _ _ (HS0.out))).trans (HS0.out), ((Below.alloc (Below.refl W1.heap.size W1) (Nat.le_refl _) (.cells #[] 3)).cell (World.block_lt_of_cell? _ _ (HS1.out))).trans (HS1.out), ((Below.alloc (Below.refl W1.heap.size W1) (Nat.le_refl _) (.cells #[] 3)).cell (World.block_lt_of_cell? _ _ (HS2.out))).trans (HS2.out), ((Below.alloc (Below.refl W1.heap.size W1) (Nat.le_refl _) (.cells #[] 3)).cell (World.block_lt_of_cell? _ _ (HS3.out))).trans (HS3.out), ((Below.alloc (Below.refl W1.heap.size W1) (Nat.le_refl _) (.cells #[] 3)).cell (World.block_lt_of_cell? _ _ (HS4.out))).trans (HS4.out), ((Below.alloc (Below.refl W1.heap.size W1) (Nat.le_refl _) (.cells #[] 3)).cell (World.block_lt_of_cell? _ _ (HS5.out))).trans (HS5.out), ((Below.alloc (Below.refl W1.heap.size W1) (Nat.le_refl _) (.cells #[] 3)).cell (World.block_lt_of_cell? _ _ (HS6.out))).trans (HS6.out), ((Below.alloc (Below.refl W1.heap.size W1) (Nat.le_refl _) (.cells #[] 3)).cell (World.block_lt_of_cell? _ _ (HS7.out))).trans (HS7.out), ((Below.alloc (Below.refl W1.heap.size W1) (Nat.le_refl _) (.cells #[] 3)).cell (World.block_lt_of_cell? _ _ (HS8.out))).trans (HS8.out)⟩ (fun hHeld => ?_)
          clear hK K
          refine norm_ (a' := ?_) ?_ ?_
          rotate_left
          ·show Act.put _ (some 38) _ = _
           simp only [Act.put, List.setIfInBounds_toArray, List.set_cons_zero, List.set_cons_succ, i64_w, i32_w]
           rfl
          refine two_ (i := 9) (j := 11) (Ni := some 40) (Nj := some 42) #[true, true, true, true, true, true, true, true, true, true, true, false, false, false, false, false] #[true, true, true, true, true, true, true, true, true, false, true, true, false, false, false, false] rfl rfl rfl rfl (by kernel_rfl) (by decide) (by decide) (fun K hK => ?_) (fun K hK => ?_)
          ·skip
           refine Kd.N_append_rows_step (Kd.int .i64) (w0 := W1) W1.heap.size (by rfl) (.tmp 38) (.tmp 39) 62 3 (.int .i64 0) 8 rfl Try.underlying62 info3 rfl (by decide) (by omega) (.slice (some ⟨W1.heap.size, 0, none⟩) 0 0) [] pl Ap pl.length cp (fun _ => True) (fun k => k < W1.heap.size) rfl rfl ?nO ?nF (fun k hk => ⟨trivial, by simp [Value.ownBlock];omega⟩) (fun _ _ => trivial) ?nB ?nS ?nL ?_
           (case nO => exact N_empty (Nat.le_refl _))
           (case nF => exact Kd.F_below (Kd.F_mono (Kd.F_below HF.out HB1.out) (fun k hk => Nat.lt_of_lt_of_le hk.2 HB1.out.size)) (Below.alloc (Below.refl W1.heap.size W1) (Nat.le_refl _) (.cells #[] 3)))
           (case nB => exact (Below.alloc (Below.refl W1.heap.size W1) (Nat.le_refl _) (.cells #[] 3)))
           (case nS => first|(simp;done)|(simp;omega))
           (case nL => have := HLIM.out;simp;omega)
           intro v1 w5 ho1 hb1 hg1 hat1
           simp only [List.nil_append] at ho1
           refine hK.out _ _ ⟨(hb1.cell (World.block_lt_of_cell? _ _ (HS0.out))).trans (HS0.out), (hb1.cell (World.block_lt_of_cell? _ _ (HS1.out))).trans (HS1.out), (hb1.cell (World.block_lt_of_cell? _ _ (HS2.out))).trans (HS2.out), (hb1.cell (World.block_lt_of_cell? _ _ (HS3.out))).trans (HS3.out), (hb1.cell (World.block_lt_of_cell? _ _ (HS4.out))).trans (HS4.out), (hb1.cell (World.block_lt_of_cell? _ _ (HS5.out))).trans (HS5.out), (hb1.cell (World.block_lt_of_cell? _ _ (HS6.out))).trans (HS6.out), (hb1.cell (World.block_lt_of_cell? _ _ (HS7.out))).trans (HS7.out), (hb1.cell (World.block_lt_of_cell? _ _ (HS8.out))).trans (HS8.out)⟩ (fun hHeld => ?_)
           clear hK K
           refine norm_ (a' := ?_) ?_ ?_
           rotate_left
           ·show Act.put _ (some 40) _ = _
            simp only [Act.put, List.setIfInBounds_toArray, List.set_cons_zero, List.set_cons_succ, i64_w, i32_w]
            rfl
           refine one_ (i := 11) (N := some 42) #[true, true, true, true, true, true, true, true, true, true, true, true, false, false, false, false] rfl rfl (by kernel_rfl) (by decide) (fun K hK => ?_)
           refine value_ (w1 := ?_) (v := ?_) (by rfl) rfl ?_ ?_
           rotate_left 2
           ·go_simp
            constructor
            ·rfl
            ·rfl
           refine hK.out _ _ ⟨((Below.alloc hb1 hb1.size (.cells #[.int .i64 i] 3)).cell (World.block_lt_of_cell? _ _ (HS0.out))).trans (HS0.out), ((Below.alloc hb1 hb1.size (.cells #[.int .i64 i] 3)).cell (World.block_lt_of_cell? _ _ (HS1.out))).trans (HS1.out), ((Below.alloc hb1 hb1.size (.cells #[.int .i64 i] 3)).cell (World.block_lt_of_cell? _ _ (HS2.out))).trans (HS2.out), ((Below.alloc hb1 hb1.size (.cells #[.int .i64 i] 3)).cell (World.block_lt_of_cell? _ _ (HS3.out))).trans (HS3.out), ((Below.alloc hb1 hb1.size (.cells #[.int .i64 i] 3)).cell (World.block_lt_of_cell? _ _ (HS4.out))).trans (HS4.out), ((Below.alloc hb1 hb1.size (.cells #[.int .i64 i] 3)).cell (World.block_lt_of_cell? _ _ (HS5.out))).trans (HS5.out), ((Below.alloc hb1 hb1.size (.cells #[.int .i64 i] 3)).cell (World.block_lt_of_cell? _ _ (HS6.out))).trans (HS6.out), ((Below.alloc hb1 hb1.size (.cells #[.int .i64 i] 3)).cell (World.block_lt_of_cell? _ _ (HS7.out))).trans (HS7.out), ((Below.alloc hb1 hb1.size (.cells #[.int .i64 i] 3)).cell (World.block_lt_of_cell? _ _ (HS8.out))).trans (HS8.out)⟩ (fun hHeld => ?_)
           clear hK K
           refine norm_ (a' := ?_) ?_ ?_
           rotate_left
           ·show Act.put _ (some 42) _ = _
            simp only [Act.put, List.setIfInBounds_toArray, List.set_cons_zero, List.set_cons_succ, i64_w, i32_w]
            rfl
           exact norm_ (by simp only [putAll, Act.put, List.setIfInBounds_toArray, List.set_cons_zero, List.set_cons_succ]) (hCont (W1.heap.size, v1, w5.heap.size) _ ⟨Kd.N_alloc ho1 _, blk_new _ _, Below.alloc hb1 hb1.size _, hb1.size, fun e_ => absurd (Kd.N_lt ho1 _ e_.symm) (Nat.lt_irrefl _)⟩)
          ·skip
           refine value_ (w1 := ?_) (v := ?_) (by rfl) rfl ?_ ?_
           rotate_left 2
           ·go_simp
            constructor
            ·rfl
            ·rfl
           refine hK.out _ _ ⟨((Below.alloc (Below.alloc (Below.refl W1.heap.size W1) (Nat.le_refl _) (.cells #[] 3)) (by simp) (.cells #[.int .i64 i] 3)).cell (World.block_lt_of_cell? _ _ (HS0.out))).trans (HS0.out), ((Below.alloc (Below.alloc (Below.refl W1.heap.size W1) (Nat.le_refl _) (.cells #[] 3)) (by simp) (.cells #[.int .i64 i] 3)).cell (World.block_lt_of_cell? _ _ (HS1.out))).trans (HS1.out), ((Below.alloc (Below.alloc (Below.refl W1.heap.size W1) (Nat.le_refl _) (.cells #[] 3)) (by simp) (.cells #[.int .i64 i] 3)).cell (World.block_lt_of_cell? _ _ (HS2.out))).trans (HS2.out), ((Below.alloc (Below.alloc (Below.refl W1.heap.size W1) (Nat.le_refl _) (.cells #[] 3)) (by simp) (.cells #[.int .i64 i] 3)).cell (World.block_lt_of_cell? _ _ (HS3.out))).trans (HS3.out), ((Below.alloc (Below.alloc (Below.refl W1.heap.size W1) (Nat.le_refl _) (.cells #[] 3)) (by simp) (.cells #[.int .i64 i] 3)).cell (World.block_lt_of_cell? _ _ (HS4.out))).trans (HS4.out), ((Below.alloc (Below.alloc (Below.refl W1.heap.size W1) (Nat.le_refl _) (.cells #[] 3)) (by simp) (.cells #[.int .i64 i] 3)).cell (World.block_lt_of_cell? _ _ (HS5.out))).trans (HS5.out), ((Below.alloc (Below.alloc (Below.refl W1.heap.size W1) (Nat.le_refl _) (.cells #[] 3)) (by simp) (.cells #[.int .i64 i] 3)).cell (World.block_lt_of_cell? _ _ (HS6.out))).trans (HS6.out), ((Below.alloc (Below.alloc (Below.refl W1.heap.size W1) (Nat.le_refl _) (.cells #[] 3)) (by simp) (.cells #[.int .i64 i] 3)).cell (World.block_lt_of_cell? _ _ (HS7.out))).trans (HS7.out), ((Below.alloc (Below.alloc (Below.refl W1.heap.size W1) (Nat.le_refl _) (.cells #[] 3)) (by simp) (.cells #[.int .i64 i] 3)).cell (World.block_lt_of_cell? _ _ (HS8.out))).trans (HS8.out)⟩ (fun hHeld => ?_)
           clear hK K
           refine norm_ (a' := ?_) ?_ ?_
           rotate_left
           ·show Act.put _ (some 42) _ = _
            simp only [Act.put, List.setIfInBounds_toArray, List.set_cons_zero, List.set_cons_succ, i64_w, i32_w]
            rfl
           refine one_ (i := 9) (N := some 40) #[true, true, true, true, true, true, true, true, true, true, true, true, false, false, false, false] rfl rfl (by kernel_rfl) (by decide) (fun K hK => ?_)
           refine Kd.N_append_rows_step (Kd.int .i64) (w0 := W1) W1.heap.size (by rfl) (.tmp 38) (.tmp 39) 62 3 (.int .i64 0) 8 rfl Try.underlying62 info3 rfl (by decide) (by omega) (.slice (some ⟨W1.heap.size, 0, none⟩) 0 0) [] pl Ap pl.length cp (fun _ => True) (fun k => k < W1.heap.size) rfl rfl ?nO ?nF (fun k hk => ⟨trivial, by simp [Value.ownBlock];omega⟩) (fun _ _ => trivial) ?nB ?nS ?nL ?_
           (case nO => exact Kd.N_alloc (N_empty (Nat.le_refl _)) _)
           (case nF => exact Kd.F_below (Kd.F_mono (Kd.F_below HF.out HB1.out) (fun k hk => Nat.lt_of_lt_of_le hk.2 HB1.out.size)) (Below.alloc (Below.alloc (Below.refl W1.heap.size W1) (Nat.le_refl _) (.cells #[] 3)) (by simp) (.cells #[.int .i64 i] 3)))
           (case nB => exact (Below.alloc (Below.alloc (Below.refl W1.heap.size W1) (Nat.le_refl _) (.cells #[] 3)) (by simp) (.cells #[.int .i64 i] 3)))
           (case nS => first|(simp;done)|(simp;omega))
           (case nL => have := HLIM.out;simp;omega)
           intro v1 w5 ho1 hb1 hg1 hat1
           simp only [List.nil_append] at ho1
           have hlit : w5.heap[(W1.heap.size + 1)]? = some (.cells #[.int .i64 i] 3 (0, 0)) := blk_grown (by simpa using blk_new (W1.alloc (.cells #[] 3)) (.cells #[.int .i64 i] 3)) hg1 (by simp [Value.ownBlock])
           have hnel : some (W1.heap.size + 1) ≠ v1.ownBlock := by rcases hat1 with h_|⟨b_, h_, hle_⟩ <;> rw [h_] <;> simp [Value.ownBlock] at * <;> omega
           refine hK.out _ _ ⟨(hb1.cell (World.block_lt_of_cell? _ _ (HS0.out))).trans (HS0.out), (hb1.cell (World.block_lt_of_cell? _ _ (HS1.out))).trans (HS1.out), (hb1.cell (World.block_lt_of_cell? _ _ (HS2.out))).trans (HS2.out), (hb1.cell (World.block_lt_of_cell? _ _ (HS3.out))).trans (HS3.out), (hb1.cell (World.block_lt_of_cell? _ _ (HS4.out))).trans (HS4.out), (hb1.cell (World.block_lt_of_cell? _ _ (HS5.out))).trans (HS5.out), (hb1.cell (World.block_lt_of_cell? _ _ (HS6.out))).trans (HS6.out), (hb1.cell (World.block_lt_of_cell? _ _ (HS7.out))).trans (HS7.out), (hb1.cell (World.block_lt_of_cell? _ _ (HS8.out))).trans (HS8.out)⟩ (fun hHeld => ?_)
           clear hK K
           refine norm_ (a' := ?_) ?_ ?_
           rotate_left
           ·show Act.put _ (some 40) _ = _
            simp only [Act.put, List.setIfInBounds_toArray, List.set_cons_zero, List.set_cons_succ, i64_w, i32_w]
            rfl
           exact norm_ (by simp only [putAll, Act.put, List.setIfInBounds_toArray, List.set_cons_zero, List.set_cons_succ]) (hCont (W1.heap.size, v1, W1.heap.size + 1) _ ⟨ho1, hlit, hb1, Nat.le_add_right _ _, hnel⟩)
         ·skip
          refine value_ (w1 := ?_) (v := ?_) (by rfl) rfl ?_ ?_
          rotate_left 2
          ·go_simp
           constructor
           ·rfl
           ·rfl
          refine hK.out _ _ ⟨((Below.alloc (Below.refl W1.heap.size W1) (Nat.le_refl _) (.cells #[.int .i64 i] 3)).cell (World.block_lt_of_cell? _ _ (HS0.out))).trans (HS0.out), ((Below.alloc (Below.refl W1.heap.size W1) (Nat.le_refl _) (.cells #[.int .i64 i] 3)).cell (World.block_lt_of_cell? _ _ (HS1.out))).trans (HS1.out), ((Below.alloc (Below.refl W1.heap.size W1) (Nat.le_refl _) (.cells #[.int .i64 i] 3)).cell (World.block_lt_of_cell? _ _ (HS2.out))).trans (HS2.out), ((Below.alloc (Below.refl W1.heap.size W1) (Nat.le_refl _) (.cells #[.int .i64 i] 3)).cell (World.block_lt_of_cell? _ _ (HS3.out))).trans (HS3.out), ((Below.alloc (Below.refl W1.heap.size W1) (Nat.le_refl _) (.cells #[.int .i64 i] 3)).cell (World.block_lt_of_cell? _ _ (HS4.out))).trans (HS4.out), ((Below.alloc (Below.refl W1.heap.size W1) (Nat.le_refl _) (.cells #[.int .i64 i] 3)).cell (World.block_lt_of_cell? _ _ (HS5.out))).trans (HS5.out), ((Below.alloc (Below.refl W1.heap.size W1) (Nat.le_refl _) (.cells #[.int .i64 i] 3)).cell (World.block_lt_of_cell? _ _ (HS6.out))).trans (HS6.out), ((Below.alloc (Below.refl W1.heap.size W1) (Nat.le_refl _) (.cells #[.int .i64 i] 3)).cell (World.block_lt_of_cell? _ _ (HS7.out))).trans (HS7.out), ((Below.alloc (Below.refl W1.heap.size W1) (Nat.le_refl _) (.cells #[.int .i64 i] 3)).cell (World.block_lt_of_cell? _ _ (HS8.out))).trans (HS8.out)⟩ (fun hHeld => ?_)
          clear hK K
          refine norm_ (a' := ?_) ?_ ?_
          rotate_left
          ·show Act.put _ (some 42) _ = _
           simp only [Act.put, List.setIfInBounds_toArray, List.set_cons_zero, List.set_cons_succ, i64_w, i32_w]
           rfl
          refine one_ (i := 7) (N := some 38) #[true, true, true, true, true, true, true, true, true, false, true, true, false, false, false, false] rfl rfl (by kernel_rfl) (by decide) (fun K hK => ?_)
          refine value_ (w1 := ?_) (v := ?_) (by rfl) rfl ?_ ?_
          rotate_left 2
          ·go_simp
           constructor
           ·rfl
           ·rfl
          refine hK.out _ _ ⟨((Below.alloc (Below.alloc (Below.refl W1.heap.size W1) (Nat.le_refl _) (.cells #[.int .i64 i] 3)) (by simp) (.cells #[] 3)).cell (World.block_lt_of_cell? _ _ (HS0.out))).trans (HS0.out), ((Below.alloc (Below.alloc (Below.refl W1.heap.size W1) (Nat.le_refl _) (.cells #[.int .i64 i] 3)) (by simp) (.cells #[] 3)).cell (World.block_lt_of_cell? _ _ (HS1.out))).trans (HS1.out), ((Below.alloc (Below.alloc (Below.refl W1.heap.size W1) (Nat.le_refl _) (.cells #[.int .i64 i] 3)) (by simp) (.cells #[] 3)).cell (World.block_lt_of_cell? _ _ (HS2.out))).trans (HS2.out), ((Below.alloc (Below.alloc (Below.refl W1.heap.size W1) (Nat.le_refl _) (.cells #[.int .i64 i] 3)) (by simp) (.cells #[] 3)).cell (World.block_lt_of_cell? _ _ (HS3.out))).trans (HS3.out), ((Below.alloc (Below.alloc (Below.refl W1.heap.size W1) (Nat.le_refl _) (.cells #[.int .i64 i] 3)) (by simp) (.cells #[] 3)).cell (World.block_lt_of_cell? _ _ (HS4.out))).trans (HS4.out), ((Below.alloc (Below.alloc (Below.refl W1.heap.size W1) (Nat.le_refl _) (.cells #[.int .i64 i] 3)) (by simp) (.cells #[] 3)).cell (World.block_lt_of_cell? _ _ (HS5.out))).trans (HS5.out), ((Below.alloc (Below.alloc (Below.refl W1.heap.size W1) (Nat.le_refl _) (.cells #[.int .i64 i] 3)) (by simp) (.cells #[] 3)).cell (World.block_lt_of_cell? _ _ (HS6.out))).trans (HS6.out), ((Below.alloc (Below.alloc (Below.refl W1.heap.size W1) (Nat.le_refl _) (.cells #[.int .i64 i] 3)) (by simp) (.cells #[] 3)).cell (World.block_lt_of_cell? _ _ (HS7.out))).trans (HS7.out), ((Below.alloc (Below.alloc (Below.refl W1.heap.size W1) (Nat.le_refl _) (.cells #[.int .i64 i] 3)) (by simp) (.cells #[] 3)).cell (World.block_lt_of_cell? _ _ (HS8.out))).trans (HS8.out)⟩ (fun hHeld => ?_)
          clear hK K
          refine norm_ (a' := ?_) ?_ ?_
          rotate_left
          ·show Act.put _ (some 38) _ = _
           simp only [Act.put, List.setIfInBounds_toArray, List.set_cons_zero, List.set_cons_succ, i64_w, i32_w]
           rfl
          refine one_ (i := 9) (N := some 40) #[true, true, true, true, true, true, true, true, true, true, true, true, false, false, false, false] rfl rfl (by kernel_rfl) (by decide) (fun K hK => ?_)
          refine Kd.N_append_rows_step (Kd.int .i64) (w0 := W1) W1.heap.size (by rfl) (.tmp 38) (.tmp 39) 62 3 (.int .i64 0) 8 rfl Try.underlying62 info3 rfl (by decide) (by omega) (.slice (some ⟨(W1.heap.size + 1), 0, none⟩) 0 0) [] pl Ap pl.length cp (fun _ => True) (fun k => k < W1.heap.size) rfl rfl ?nO ?nF (fun k hk => ⟨trivial, by simp [Value.ownBlock];omega⟩) (fun _ _ => trivial) ?nB ?nS ?nL ?_
          (case nO => exact N_empty' (by simp))
          (case nF => exact Kd.F_below (Kd.F_mono (Kd.F_below HF.out HB1.out) (fun k hk => Nat.lt_of_lt_of_le hk.2 HB1.out.size)) (Below.alloc (Below.alloc (Below.refl W1.heap.size W1) (Nat.le_refl _) (.cells #[.int .i64 i] 3)) (by simp) (.cells #[] 3)))
          (case nB => exact (Below.alloc (Below.alloc (Below.refl W1.heap.size W1) (Nat.le_refl _) (.cells #[.int .i64 i] 3)) (by simp) (.cells #[] 3)))
          (case nS => first|(simp;done)|(simp;omega))
          (case nL => have := HLIM.out;simp;omega)
          intro v1 w5 ho1 hb1 hg1 hat1
          simp only [List.nil_append] at ho1
          have hlit : w5.heap[W1.heap.size]? = some (.cells #[.int .i64 i] 3 (0, 0)) := blk_grown (by simpa using blk_alloc (blk_new _ _) _) hg1 (by simp [Value.ownBlock])
          have hnel : some W1.heap.size ≠ v1.ownBlock := by rcases hat1 with h_|⟨b_, h_, hle_⟩ <;> rw [h_] <;> simp [Value.ownBlock] at * <;> omega
          refine hK.out _ _ ⟨(hb1.cell (World.block_lt_of_cell? _ _ (HS0.out))).trans (HS0.out), (hb1.cell (World.block_lt_of_cell? _ _ (HS1.out))).trans (HS1.out), (hb1.cell (World.block_lt_of_cell? _ _ (HS2.out))).trans (HS2.out), (hb1.cell (World.block_lt_of_cell? _ _ (HS3.out))).trans (HS3.out), (hb1.cell (World.block_lt_of_cell? _ _ (HS4.out))).trans (HS4.out), (hb1.cell (World.block_lt_of_cell? _ _ (HS5.out))).trans (HS5.out), (hb1.cell (World.block_lt_of_cell? _ _ (HS6.out))).trans (HS6.out), (hb1.cell (World.block_lt_of_cell? _ _ (HS7.out))).trans (HS7.out), (hb1.cell (World.block_lt_of_cell? _ _ (HS8.out))).trans (HS8.out)⟩ (fun hHeld => ?_)
          clear hK K
          refine norm_ (a' := ?_) ?_ ?_
          rotate_left
          ·show Act.put _ (some 40) _ = _
           simp only [Act.put, List.setIfInBounds_toArray, List.set_cons_zero, List.set_cons_succ, i64_w, i32_w]
           rfl
          exact norm_ (by simp only [putAll, Act.put, List.setIfInBounds_toArray, List.set_cons_zero, List.set_cons_succ]) (hCont (W1.heap.size + 1, v1, W1.heap.size) _ ⟨ho1, hlit, hb1, Nat.le_refl _, hnel⟩)
        rintro ⟨b1, v2, b3⟩ W2 ⟨hn2, hl2, hb2, hg3, hne3⟩
        dsimp only at hn2 hl2 hb2 hg3 hne3
        have HN2 := Aside0.mk hn2
        have HL2 := Aside0.mk hl2
        have HB2 := Aside0.mk hb2
        have HG3 := Aside0.mk hg3
        have HE3 := Aside0.mk hne3
        clear hn2 hl2 hb2 hg3 hne3
        have hHeld : W2.cell? ⟨w.heap.size, 0, none⟩ = some (.string nm) ∧ W2.cell? ⟨w.heap.size, 1, none⟩ = some (.string tx) ∧ W2.cell? ⟨w.heap.size, 2, none⟩ = some (.bool lf) ∧ W2.cell? ⟨w.heap.size, 3, none⟩ = some (.slice A l.length c) ∧ W2.cell? ⟨w.heap.size + 1, 3, none⟩ = some (.slice (some ad) l2.length c2) ∧ W2.cell? (ad.add (i.toNat * 4)) = some (.string (rd_T53 l2 i).f0) ∧ W2.cell? ⟨(ad.add (i.toNat * 4)).block, (ad.add (i.toNat * 4)).off + 1, none⟩ = some (.string (rd_T53 l2 i).f1) ∧ W2.cell? ⟨(ad.add (i.toNat * 4)).block, (ad.add (i.toNat * 4)).off + 2, none⟩ = some (.bool (rd_T53 l2 i).f2) ∧ W2.cell? ⟨(ad.add (i.toNat * 4)).block, (ad.add (i.toNat * 4)).off + 3, none⟩ = some (.slice A3 (rd_T53 l2 i).f3.length c3) := ⟨(HB2.out.cell (World.block_lt_of_cell? _ _ (HS0.out))).trans (HS0.out), (HB2.out.cell (World.block_lt_of_cell? _ _ (HS1.out))).trans (HS1.out), (HB2.out.cell (World.block_lt_of_cell? _ _ (HS2.out))).trans (HS2.out), (HB2.out.cell (World.block_lt_of_cell? _ _ (HS3.out))).trans (HS3.out), (HB2.out.cell (World.block_lt_of_cell? _ _ (HS4.out))).trans (HS4.out), (HB2.out.cell (World.block_lt_of_cell? _ _ (HS5.out))).trans (HS5.out), (HB2.out.cell (World.block_lt_of_cell? _ _ (HS6.out))).trans (HS6.out), (HB2.out.cell (World.block_lt_of_cell? _ _ (HS7.out))).trans (HS7.out), (HB2.out.cell (World.block_lt_of_cell? _ _ (HS8.out))).trans (HS8.out)⟩
        refine norm_ (a' := ?_) ?_ ?_
        rotate_left
        ·simp only [putAll, Act.put, List.setIfInBounds_toArray, List.set_cons_zero, List.set_cons_succ]
         rfl
        refine one_ (i := 12) (N := some 43) #[true, true, true, true, true, true, true, true, true, true, true, true, true, false, false, false] rfl rfl (by kernel_rfl) (by decide) (fun K hK => ?_)
        refine Kd.N_append_rows_step (Kd.int .i64) (w0 := W1) W1.heap.size (by rfl) (.tmp 40) (.tmp 42) 62 3 (.int .i64 0) 8 rfl Try.underlying62 info3 rfl (by decide) (by omega) v2 pl [i] (some ⟨b3, 0, none⟩) 1 1 (fun _ => True) (fun k => k = b3 ∨ k < W1.heap.size) rfl rfl ?mO ?mF (fun k hk => ⟨trivial, ?mE⟩) (fun _ _ => trivial) ?mB ?mS ?mL ?_
        (case mO => exact HN2.out)
        (case mF => exact F_one (lit := [.int .i64 i]) HL2.out (fun _ _ => rfl))
        (case mE => rcases hk with rfl|hk;exact HE3.out;exact fun e_ => absurd (Kd.N_base HN2.out k e_.symm) (by omega))
        (case mB => exact HB2.out)
        (case mS => exact HB2.out.size)
        (case mL => have := HLIM.out;simp;omega)
        intro v3 w7 ho3 hb3 hg3 _
        have HO3 := Aside0.mk ho3
        have HB3 := Aside0.mk hb3
        clear ho3 hb3 hg3
        refine hK.out _ _ ⟨(HB3.out.cell (World.block_lt_of_cell? _ _ (HS0.out))).trans (HS0.out), (HB3.out.cell (World.block_lt_of_cell? _ _ (HS1.out))).trans (HS1.out), (HB3.out.cell (World.block_lt_of_cell? _ _ (HS2.out))).trans (HS2.out), (HB3.out.cell (World.block_lt_of_cell? _ _ (HS3.out))).trans (HS3.out), (HB3.out.cell (World.block_lt_of_cell? _ _ (HS4.out))).trans (HS4.out), (HB3.out.cell (World.block_lt_of_cell? _ _ (HS5.out))).trans (HS5.out), (HB3.out.cell (World.block_lt_of_cell? _ _ (HS6.out))).trans (HS6.out), (HB3.out.cell (World.block_lt_of_cell? _ _ (HS7.out))).trans (HS7.out), (HB3.out.cell (World.block_lt_of_cell? _ _ (HS8.out))).trans (HS8.out)⟩ (fun hHeld => ?_)
        clear hK K
        refine norm_ (a' := ?_) ?_ ?_
        rotate_left
        ·show Act.put _ (some 43) _ = _
         simp only [Act.put, List.setIfInBounds_toArray, List.set_cons_zero, List.set_cons_succ, i64_w, i32_w]
         rfl
        refine last_ (i := 13) (N := some 44) #[true, true, true, true, true, true, true, true, true, true, true, true, true, true, false, false] rfl rfl (by kernel_rfl) (by decide) (fun K hK => ?_)
        refine goes_ Try.func86 (by kernel_rfl) rfl #[.agg #[.string nm, .string tx, .bool lf, .slice A l.length c], .agg #[.string (rd_T53 l2 i).f0, .string (rd_T53 l2 i).f1, .bool (rd_T53 l2 i).f2, .slice A3 (rd_T53 l2 i).f3.length c3], v3] (by rfl) rfl rfl (by simp only [List.map_toArray, List.map_cons, List.map_nil];rfl) ?_
        with_reducible refine (ih k1 (by have := HK1.out;omega) nm tx lf A c l _ _ _ A3 c3 _ v3 (pl ++ [i]) (fun k => W1.heap.size ≤ k) r _ (Kd.C_below HP.out (below_step HB1.out HB3.out)) HC.out (Kd.C_below HK3.out (below_step HB1.out HB3.out)) HC3.out (PathF.of_N HO3.out (fun _ hk => hk)) HT2.out).mono ?_
        rintro e w8 ⟨v8, rfl, hn8, hb8⟩
        refine ⟨_, rfl, ?_⟩
        have HB8 := Aside0.mk (below_step HB3.out hb8)
        obtain ⟨A8, c8, rfl⟩ := Kd.N_slice hn8
        have HN8 := Aside0.mk hn8
        have HN8b := Aside0.mk (Kd.N_below HN1.out HB8.out)
        clear hn8 hb8
        refine hK.out _ _ ?_
        clear hK K
        refine norm_ (a' := ?_) ?_ ?_
        rotate_left
        ·show Act.put _ (some 44) _ = _
         simp only [Act.put, List.setIfInBounds_toArray, List.set_cons_zero, List.set_cons_succ, i64_w, i32_w]
         rfl
        refine last_ (i := 14) (N := some 45) #[true, true, true, true, true, true, true, true, true, true, true, true, true, true, true, false] rfl rfl (by kernel_rfl) (by decide) (fun K hK => ?_)
        refine Kd.N_append_rows_step kII (w0 := w) w.heap.size (by rfl) (.tmp 31) (.tmp 44) 69 62 (.slice none 0 0) 24 rfl Try.underlying69 info62 rfl (by decide) (by omega) u7 out r A8 r.length c8 (fun k => okP k ∨ w.heap.size ≤ k) (fun k => W1.heap.size ≤ k) rfl rfl ?qO ?qF (fun k hk => ⟨.inr (Nat.le_trans HB1.out.size hk), ?qE⟩) (fun k hk => .inr ?qR) ?qB ?qS ?qL ?_
        (case qO => exact HN8b.out)
        (case qF => exact Kd.F_mono (Kd.N_F HN8.out) (fun k hk => hk.elim id (fun h_ => Nat.le_trans HB3.out.size h_)))
        (case qE => exact fun e_ => absurd (Kd.N_lt HN1.out k e_.symm) (by omega))
        (case qR => have h1_ := HB1.out.size;have h2_ := HB8.out.size;omega)
        (case qB => exact below_step HB1.out HB8.out)
        (case qS => exact (below_step HB1.out HB8.out).size)
        (case qL => have := HLIM2.out;omega)
        intro v9 w9 ho9 hb9 hg9 _
        have HO9 := Aside0.mk ho9
        have HB9 := Aside0.mk hb9
        have HY19 := Aside0.mk (blk_grown (blk_below HY1'.out HB8.out) hg9 (fun e_ => by obtain ⟨cells, hcl⟩ := Kd.N_typed HN8b.out _ e_.symm;have hX := (blk_below HY1'.out HB8.out);rw [hX] at hcl;injection hcl with hcl;injection hcl with _ e2;exact absurd e2 (by decide)))
        have HY29 := Aside0.mk (blk_grown (blk_below HY2'.out HB8.out) hg9 (fun e_ => by obtain ⟨cells, hcl⟩ := Kd.N_typed HN8b.out _ e_.symm;have hX := (blk_below HY2'.out HB8.out);rw [hX] at hcl;injection hcl with hcl;injection hcl with _ e2;exact absurd e2 (by decide)))
        clear ho9 hb9 hg9
        refine hK.out _ _ ?_
        clear hK K
        refine norm_ (a' := ?_) ?_ ?_
        rotate_left
        ·show Act.put _ (some 45) _ = _
         simp only [Act.put, List.setIfInBounds_toArray, List.set_cons_zero, List.set_cons_succ, i64_w, i32_w]
         rfl
        refine pure_ (i := 15) (N := some 7) (v := ?_) (a' := ?_) #[true, true, true, true, true, true, true, true, true, true, true, true, true, true, true, true] rfl rfl (by kernel_rfl) (fun _ _ _ h => h) (Or.inl ⟨by rfl, ?_⟩) ?_ ?_
        rotate_left
        ·intro w'
         go_simp
         with_reducible rfl
        rotate_left
        ·simp only [Act.put, List.setIfInBounds_toArray, List.set_cons_zero, List.set_cons_succ, i64_w, i32_w]
         rfl
        refine done_ (by kernel_rfl) ?_
        go_wp2
        go_roundg k1
        case measure => have := HK1.out;omega
        case rel => exact ⟨wrap64 (i + 1), out ++ r, rfl, HO9, H', ⟨by have := HK1.out;omega⟩, HB9, HY19, HY29⟩
       ·rw [if_neg c8] at H
        exact absurd H (by simp)
      ·rw [if_neg c7] at H
       exact absurd H (by simp)
     ·rw [if_neg c6] at H
      exact absurd H (by simp)
    ·rw [if_neg c5] at H
     have c5b : decide (i < (l2.length : Int)) = false := decide_eq_false c5
     simp only [Option.some.injEq] at H
     obtain rfl := H
     clear c5
     go_wp2
     go_ret
     exact ⟨_, rfl, HN.out, HB.out⟩
end Go.Proofs.Ytgdecbliegelmaa.Q

namespace Go.Proofs.Ytgdecbliegelmaa.Q
open Go.RowKit Go.Proofs.YtgdecbliegelmaaW.PrintWords Go.Proofs.YtgdecbliegelmaaW.PrintLast Go.Proofs.YtgdecbliegelmaaW.PrintMore
attribute [local go_sem] max2_int min2_int max_two min_two max_three min_three max_four min_four   -- for this text's walks alone
set_option linter.unusedVariables false
set_option linter.unusedSimpArgs false
/-! ### spec_l03At: function 135 -/
def spec_l03At.l0 : Nat → List ByteArray → ByteArray → Int → Option (Int)
  | 0, _, _, _ => none
  | k + 1, x0, x1, x5 => if x5 < (x0.length : Int) then (if 0 ≤ x5 then (if (rdOf ByteArray.empty x0 x5).toList = x1.toList then (some x5) else (spec_l03At.l0 k x0 x1 (wrap64 (x5 + 1)))) else (none)) else (some (-1))
def spec_l03At.f (k : Nat) (l0 : List ByteArray) (a1 : ByteArray) : Option (Int) := spec_l03At.l0 k l0 a1 0
theorem spec_l03At.mono_l : ∀ k, (∀ y0 y1 y2, LeO (spec_l03At.l0 k y0 y1 y2) (spec_l03At.l0 (k + 1) y0 y1 y2))
 | 0 => fun _ _ _ r h => by simp [spec_l03At.l0] at h
 | k + 1 => by
  have ih0 := spec_l03At.mono_l k
  ·intro y0 y1 y2
   unfold spec_l03At.l0
   repeat' first
   | (with_reducible exact ih0 _ _ _)
   | (with_reducible exact LeO.refl _)
   | (with_reducible exact LeO.none _)
   | (with_reducible refine LeO.ite ?_ ?_)
   | (with_reducible refine LeO.bind ?_ (fun _ => ?_))
   | exact ih0 _ _ _
   | exact LeO.none _
   | refine LeO.ite ?_ ?_
   | refine LeO.bind ?_ (fun _ => ?_)
theorem spec_l03At.mono : ∀ a0 a1 k, LeO (spec_l03At.f k a0 a1) (spec_l03At.f (k + 1) a0 a1) := by
 intro a0 a1 k
 have ih0 := spec_l03At.mono_l k
 unfold spec_l03At.f
 repeat' first
   | (with_reducible exact ih0 _ _ _)
   | (with_reducible exact LeO.refl _)
   | (with_reducible exact LeO.none _)
   | (with_reducible refine LeO.ite ?_ ?_)
   | (with_reducible refine LeO.bind ?_ (fun _ => ?_))
   | exact ih0 _ _ _
   | exact LeO.none _
   | refine LeO.ite ?_ ?_
   | refine LeO.bind ?_ (fun _ => ?_)
set_option maxHeartbeats 8000000 in
set_option maxRecDepth 100000 in
theorem spec_l03At.calls (k : Nat) (A0 : Option Addr) (c0 : Nat) (l0 : List ByteArray) (a1 : ByteArray) (r : Int) (w : World) (hr0 : Kd.C Kd.string w A0 l0.length l0) (hc0 : l0.length ≤ c0) (h : spec_l03At.f k l0 a1 = some r) :
  Calls Try.prog 135 #[.slice A0 l0.length c0, .string a1] w fun e w' => e = .returned (.int .i64 r) ∧ Drawn0 w w' := by
 have HR0 := Aside0.mk hr0
 have HC0 := Aside0.mk hc0
 clear hr0 hc0
 have H : (spec_l03At.l0 k l0 a1 0) = some r := h
 clear h
 have H' := Aside0.mk H
 clear H
 go_enter Try.func135, Try.ntmps135
 go_wp2
 go_loopg [5] k (fun kq v5 w' => ∃ (x5_1 : Int), v5 = .int .i64 x5_1 ∧ Aside0 (spec_l03At.l0 kq l0 a1 x5_1 = some r) ∧ Aside0 (kq ≤ k) ∧ Drawn0 w w')
 case atStart => exact ⟨(0), (by first|rfl|(simp;done)|(simp [*];done)), H', ⟨Nat.le_refl _⟩, by repeat (first|exact Drawn0.refl _|apply Drawn0.step)⟩
 case round =>
  clear H'
  try clear c1
  try clear p2
  obtain ⟨x5_1, rfl, HA, HK1, ⟨m1, rfl⟩⟩ := hrel
  cases gk with
  | zero => exact absurd HA.out (by simp [spec_l03At.l0])
  | succ k1 =>
   have H := HA.out
   clear HA
   simp only [spec_l03At.l0] at H
   by_cases c3 : x5_1 < (l0.length : Int)
   ·rw [if_pos c3] at H
    have c3b0 : decide (x5_1 < (l0.length : Int)) = true := decide_eq_true c3
    clear c3
    by_cases c4 : 0 ≤ x5_1
    ·rw [if_pos c4] at H
     have c4b0 : decide (0 ≤ x5_1) = true := decide_eq_true c4
     clear c4
     by_cases c5 : (rdOf ByteArray.empty l0 x5_1).toList = a1.toList
     ·rw [if_pos c5] at H
      have c5b0 : ((rdOf ByteArray.empty l0 x5_1).toList == a1.toList) = true := beq_iff_eq.mpr c5
      have c5b1 : ((rdOf ByteArray.empty l0 x5_1).toList != a1.toList) = false := bne_eq_false_iff_eq.mpr c5
      clear c5
      obtain rfl := Option.some.inj H
      have p101 : 0 ≤ (x5_1 : Int) := of_decide_eq_true (by first|(with_reducible assumption)|assumption)
      have q101 : x5_1 < (l0.length : Int) := of_decide_eq_true (by first|(with_reducible assumption)|assumption)
      obtain ⟨ad101, e101, hx101_0⟩ := Kd.at_string HR0.out x5_1 p101 q101
      cases e101
      replace p101 := eq_true p101
      replace q101 := eq_true q101
      go_wp2
      go_ret
      exact ⟨by first|rfl|(simp;done)|(simp [*];done), by repeat (first|exact Drawn0.refl _|apply Drawn0.step)⟩
     ·rw [if_neg c5] at H
      have c5b0 : ((rdOf ByteArray.empty l0 x5_1).toList == a1.toList) = false := beq_eq_false_iff_ne.mpr c5
      have c5b1 : ((rdOf ByteArray.empty l0 x5_1).toList != a1.toList) = true := bne_iff_ne.mpr c5
      have H' := Aside0.mk H
      clear H
      have p101 : 0 ≤ (x5_1 : Int) := of_decide_eq_true (by first|(with_reducible assumption)|assumption)
      have q101 : x5_1 < (l0.length : Int) := of_decide_eq_true (by first|(with_reducible assumption)|assumption)
      obtain ⟨ad101, e101, hx101_0⟩ := Kd.at_string HR0.out x5_1 p101 q101
      cases e101
      replace p101 := eq_true p101
      replace q101 := eq_true q101
      go_wp2
      go_roundg k1
      case measure => have := HK1.out;omega
      case rel => exact ⟨(wrap64 (x5_1 + 1)), (by first|rfl|(simp;done)|(simp [*];done)), H', ⟨by have := HK1.out;omega⟩, by repeat (first|exact Drawn0.refl _|apply Drawn0.step)⟩
    ·rw [if_neg c4] at H
     exact absurd H (by simp)
   ·rw [if_neg c3] at H
    have c3b0 : decide (x5_1 < (l0.length : Int)) = false := decide_eq_false c3
    clear c3
    obtain rfl := Option.some.inj H
    go_wp2
    go_ret
    exact ⟨by first|rfl|(simp;done)|(simp [*];done), by repeat (first|exact Drawn0.refl _|apply Drawn0.step)⟩
end Go.Proofs.Ytgdecbliegelmaa.Q

/- The walk of spec.l11Vars. -/
namespace Go.Proofs.Ytgdecbliegelmaa.Q
open Go.RowKit Go.Proofs.YtgdecbliegelmaaW.PrintWords Go.Proofs.YtgdecbliegelmaaW.PrintLast Go.Proofs.YtgdecbliegelmaaW.PrintMore
attribute [local go_sem] max2_int min2_int max_two min_two max_three min_three max_four min_four
set_option linter.unusedVariables false
set_option linter.unusedSimpArgs false
mutual
def spec_l11Vars.l0 : Nat → List S53 → Int → List ByteArray → Bool → Option (List ByteArray × Bool)
  | 0, _, _, _, _ => none
  | k + 1, l, i, list, b => if i < (l.length : Int) then (if b = true then (if 0 ≤ i then ((spec_l11Vars.f k (rd_T53 l i).f0 (rd_T53 l i).f1 (rd_T53 l i).f2 (rd_T53 l i).f3 list).bind fun r => spec_l11Vars.l0 k l (wrap64 (i + 1)) r.1 r.2) else none) else some (list, b)) else some (list, b)
def spec_l11Vars.f : Nat → ByteArray → ByteArray → Bool → List S53 → List ByteArray → Option (List ByteArray × Bool)
  | 0, _, _, _, _, _ => none
  | k + 1, nm, tx, lf, l, list => (spec_l11Var.f nm tx lf l).bind fun t => if t = true then ((spec_l03At.f k list tx).bind fun i => (spec_l01Name.f k tx).bind fun b => if i < 0 then (if list.length < 1099511627776 then some (list ++ [tx], b) else none) else some (list, b)) else spec_l11Vars.l0 k l 0 list true
end
theorem spec_l11Vars.mono_l : ∀ k, (∀ y0 y1 y2 y3 y4, LeO (spec_l11Vars.f k y0 y1 y2 y3 y4) (spec_l11Vars.f (k + 1) y0 y1 y2 y3 y4)) ∧ (∀ y0 y1 y2 y3, LeO (spec_l11Vars.l0 k y0 y1 y2 y3) (spec_l11Vars.l0 (k + 1) y0 y1 y2 y3))
 | 0 => ⟨fun _ _ _ _ _ r h => by simp [spec_l11Vars.f] at h, fun _ _ _ _ r h => by simp [spec_l11Vars.l0] at h⟩
 | k + 1 => by
  obtain ⟨ih0, ih1⟩ := spec_l11Vars.mono_l k
  refine ⟨?_, ?_⟩
  ·intro y0 y1 y2 y3 y4
   unfold spec_l11Vars.f
   repeat' first
   | (with_reducible exact ih0 _ _ _ _ _)
   | (with_reducible exact ih1 _ _ _ _)
   | (with_reducible exact spec_l03At.mono _ _ _)
   | (with_reducible exact spec_l01Name.mono _ _)
   | (with_reducible exact LeO.refl _)
   | (with_reducible exact LeO.none _)
   | (with_reducible refine LeO.ite ?_ ?_)
   | (with_reducible refine LeO.bind ?_ (fun _ => ?_))
  ·intro y0 y1 y2 y3
   unfold spec_l11Vars.l0
   repeat' first
   | (with_reducible exact ih0 _ _ _ _ _)
   | (with_reducible exact ih1 _ _ _ _)
   | (with_reducible exact LeO.refl _)
   | (with_reducible exact LeO.none _)
   | (with_reducible refine LeO.ite ?_ ?_)
   | (with_reducible refine LeO.bind ?_ (fun _ => ?_))
theorem spec_l11Vars.mono : ∀ a0 a1 a2 a3 a4 k, LeO (spec_l11Vars.f k a0 a1 a2 a3 a4) (spec_l11Vars.f (k + 1) a0 a1 a2 a3 a4) := fun a0 a1 a2 a3 a4 k => (spec_l11Vars.mono_l k).1 a0 a1 a2 a3 a4
set_option maxHeartbeats 8000000 in
set_option maxRecDepth 100000 in
theorem spec_l11Vars.calls (k : Nat) : ∀ (nm tx : ByteArray) (lf : Bool) (A : Option Addr) (c : Nat) (l : List S53) (v : Value) (list : List ByteArray) (rl : List ByteArray) (rb : Bool) (w0 w : World) (hp : Kd.C k53 w0 A l.length l) (hc : l.length ≤ c) (hB : Below w0.heap.size w0 w) (hl : Kd.R Kd.string 9 w w0.heap.size (fun _ => True) v list) (h : spec_l11Vars.f k nm tx lf l list = some (rl, rb)),
  Calls Try.prog 115 #[.agg #[.string nm, .string tx, .bool lf, .slice A l.length c], v] w fun e w' => ∃ v' : Value, e = .returned (.tuple #[v', .bool rb]) ∧ Kd.R Kd.string 9 w' w0.heap.size (fun _ => True) v' rl ∧ Below w0.heap.size w0 w' ∧ KT [9] w w' := by
 induction k using Nat.strongRecOn with
 | _ k ih =>
 intro nm tx lf A c l v list rl rb w0 w hp hc hB hl h
 cases k with
 | zero => exact absurd h (by simp [spec_l11Vars.f])
 | succ k =>
 simp only [spec_l11Vars.f] at h
 have hu53 := Try.underlying53
 obtain ⟨Al, cl, rfl, -, -⟩ := Kd.R_reads hl
 have HP := Aside0.mk hp
 have HC := Aside0.mk hc
 have HL := Aside0.mk hl
 have HB := Aside0.mk hB
 have HM := Aside0.mk hp.2.1
 clear hp hc hl hB
 obtain ⟨t, ht, h⟩ := Option.bind_eq_some_iff.mp h
 have HT := Aside0.mk ht
 clear ht
 cases t with
 | true =>
  simp only [if_true] at h
  obtain ⟨i, hi, h⟩ := Option.bind_eq_some_iff.mp h
  obtain ⟨b, hb, h⟩ := Option.bind_eq_some_iff.mp h
  have HI := Aside0.mk hi
  have HBN := Aside0.mk hb
  clear hi hb
  by_cases c1 : i < 0
  ·rw [if_pos c1] at h
   have c1b : decide (i < 0) = true := decide_eq_true c1
   by_cases c2 : list.length < 1099511627776
   ·rw [if_pos c2] at h
    simp only [Option.some.injEq, Prod.mk.injEq] at h
    obtain ⟨rfl, rfl⟩ := h
    clear c1
    go_enter Try.func115, Try.ntmps115
    go_wp2_with (first
     | (go_at_call 134;(with_reducible refine (spec_l11Var.calls nm tx lf A c l true _ (Kd.C_below HP.out (below_alloc HB.out _)) HC.out HT.out).mono ?_);rintro e w2 ⟨rfl, hb2⟩;have HB2 := Aside0.mk (below_step (below_alloc HB.out _) hb2);have HL2 := Aside0.mk (Kd.R_below (Kd.R_alloc HL.out _) hb2);have HK2 : Aside0 (KT [9] w w2) := ⟨(KT.of_below (below_alloc (Below.refl _ _) _)).below hb2⟩;have HX : Aside0 (w2.heap[w.heap.size]? = some (.cells #[.string nm, .string tx, .bool lf, .slice A l.length c] 53 (0, 0))) := ⟨blk_below (blk_new _ _) hb2⟩;have hx1 : w2.cell? ⟨w.heap.size, 1, none⟩ = some (.string tx) := (blk_cell HX.out 1).trans rfl;clear hb2)
     | (go_at_call 135;(with_reducible refine (spec_l03At.calls k _ _ list tx i _ (Kd.R_reads' HL2.out).2.2 (Kd.R_reads' HL2.out).2.1 HI.out).mono ?_);rintro e w3 ⟨rfl, ⟨nd, rfl⟩⟩)
     | (at_builtin;refine Kd.R_append Kd.string (w0 := w0) w0.heap.size rfl (.tmp 15) (.tmp 18) 98 9 (.string ⟨#[]⟩) 16 rfl Try.underlying98 info9 rfl (by decide) (by omega) (.slice Al list.length cl) list tx [.string tx] (fun _ => True) (fun _ => False) rfl (by first|(go_simp;done)|(go_simp;rfl)) ?aP (fun _ hk => hk.elim) ?aF ?aO ?aB ?aS ?aL ?_;(case aP => exact rfl);(case aF => exact fun _ _ => trivial);(case aO => exact Kd.R_drewN HL2.out _);(case aB => exact pw_below_drewN HB2.out _);(case aS => exact HB2.out.size);(case aL => omega);intro v1 w5 ho1 hb1 hg1 _;have HO := Aside0.mk ho1;have HB5 := Aside0.mk hb1;have HK5 := Aside0.mk ((HK2.out.below (pw_below_drewN (Below.refl _ _) nd)).grown hg1 (fun q hq => by obtain ⟨cells, hcl⟩ := Kd.R_typed HL2.out q hq;exact ⟨9, by simp, cells, hcl⟩));have hx1 : w5.cell? ⟨w.heap.size, 1, none⟩ = some (.string tx) := (blk_cell (HK5.out.trans (KT.refl [9] w5) |> fun _ => blk_grown (blk_drewN HX.out nd) hg1 (fun e => by obtain ⟨cells, hcl⟩ := Kd.R_typed HL2.out _ e.symm;have hX := HX.out;rw [hX] at hcl;injection hcl with hcl;injection hcl with _ e2;exact absurd e2 (by decide))) 1).trans rfl;clear ho1 hb1 hg1)
     | (go_at_call 130;(with_reducible refine (spec_l01Name.calls k tx b _ HBN.out).mono ?_);rintro e w6 ⟨rfl, ⟨nd2, rfl⟩⟩))
    go_ret2
    exact ⟨_, rfl, Kd.R_drewN HO.out _, pw_below_drewN HB5.out _, HK5.out.below (pw_below_drewN (Below.refl _ _) _)⟩
   ·rw [if_neg c2] at h
    exact absurd h (by simp)
  ·rw [if_neg c1] at h
   have c1b : decide (i < 0) = false := decide_eq_false c1
   simp only [Option.some.injEq, Prod.mk.injEq] at h
   obtain ⟨rfl, rfl⟩ := h
   clear c1
   go_enter Try.func115, Try.ntmps115
   go_wp2_with (first
    | (go_at_call 134;(with_reducible refine (spec_l11Var.calls nm tx lf A c l true _ (Kd.C_below HP.out (below_alloc HB.out _)) HC.out HT.out).mono ?_);rintro e w2 ⟨rfl, hb2⟩;have HB2 := Aside0.mk (below_step (below_alloc HB.out _) hb2);have HL2 := Aside0.mk (Kd.R_below (Kd.R_alloc HL.out _) hb2);have HK2 : Aside0 (KT [9] w w2) := ⟨(KT.of_below (below_alloc (Below.refl _ _) _)).below hb2⟩;have HX : Aside0 (w2.heap[w.heap.size]? = some (.cells #[.string nm, .string tx, .bool lf, .slice A l.length c] 53 (0, 0))) := ⟨blk_below (blk_new _ _) hb2⟩;have hx1 : w2.cell? ⟨w.heap.size, 1, none⟩ = some (.string tx) := (blk_cell HX.out 1).trans rfl;clear hb2)
    | (go_at_call 135;(with_reducible refine (spec_l03At.calls k _ _ list tx i _ (Kd.R_reads' HL2.out).2.2 (Kd.R_reads' HL2.out).2.1 HI.out).mono ?_);rintro e w3 ⟨rfl, ⟨nd, rfl⟩⟩)
    | (go_at_call 130;(with_reducible refine (spec_l01Name.calls k tx b _ HBN.out).mono ?_);rintro e w6 ⟨rfl, ⟨nd2, rfl⟩⟩))
   go_ret2
   exact ⟨_, rfl, Kd.R_drewN HL2.out _, pw_below_drewN HB2.out _, HK2.out.below (pw_below_drewN (Below.refl _ _) _)⟩
 | false =>
  simp only [Bool.false_eq_true, if_false] at h
  have H' := Aside0.mk h
  clear h
  go_enter Try.func115, Try.ntmps115
  go_wp2_with (first
   | (go_at_call 134;(with_reducible refine (spec_l11Var.calls nm tx lf A c l false _ (Kd.C_below HP.out (below_alloc HB.out _)) HC.out HT.out).mono ?_);rintro e w2 ⟨rfl, hb2⟩;have HB2 := Aside0.mk (below_step (below_alloc HB.out _) hb2);have HL2 := Aside0.mk (Kd.R_below (Kd.R_alloc HL.out _) hb2);have HK2 : Aside0 (KT [9] w w2) := ⟨(KT.of_below (below_alloc (Below.refl _ _) _)).below hb2⟩;have HX : Aside0 (w2.heap[w.heap.size]? = some (.cells #[.string nm, .string tx, .bool lf, .slice A l.length c] 53 (0, 0))) := ⟨blk_below (blk_new _ _) hb2⟩;clear hb2))
  go_loopg [1, 6, 7] k (fun kq v1 v6 v7 w' => ∃ (i : Int) (li : List ByteArray) (b : Bool), v7 = .int .i64 i ∧ v6 = .bool b ∧ Aside0 (Kd.R Kd.string 9 w' w0.heap.size (fun _ => True) v1 li) ∧ Aside0 (spec_l11Vars.l0 kq l i li b = some (rl, rb)) ∧ Aside0 (kq ≤ k) ∧ Aside0 (Below w0.heap.size w0 w') ∧ Aside0 (KT [9] w w') ∧ Aside0 (w'.heap[w.heap.size]? = some (.cells #[.string nm, .string tx, .bool lf, .slice A l.length c] 53 (0, 0))))
  case atStart => exact ⟨0, list, true, rfl, rfl, HL2, H', ⟨Nat.le_refl _⟩, HB2, HK2, HX⟩
  case round =>
   clear H' HB2 HL2 HK2 HX HB HL HT
   obtain ⟨i, li, b, rfl, rfl, HL, HA, HK1, HB, HK, HX⟩ := hrel
   have hL := HL.out
   obtain ⟨Ai, ci, rfl, -, -⟩ := Kd.R_reads hL
   clear hL
   have hx3 : wr.cell? ⟨w.heap.size, 3, none⟩ = some (.slice A l.length c) := (blk_cell HX.out 3).trans rfl
   cases gk with
   | zero => exact absurd HA.out (by simp [spec_l11Vars.l0])
   | succ k1 =>
    have H := HA.out
    clear HA
    simp only [spec_l11Vars.l0] at H
    by_cases c5 : i < (l.length : Int)
    ·rw [if_pos c5] at H
     have c5b : decide (i < (l.length : Int)) = true := decide_eq_true c5
     cases b with
     | true =>
      rw [if_pos rfl] at H
      by_cases c6 : 0 ≤ i
      ·rw [if_pos c6] at H
       obtain ⟨⟨l2, b2⟩, ht, H⟩ := Option.bind_eq_some_iff.mp H
       have HT2 := Aside0.mk ht
       have H' := Aside0.mk H
       clear ht H
       obtain ⟨ad, A3, c3, e, hx0, hx1, hx2, hx3', hl3, hi3⟩ := at_T53 HP.out i c6 c5
       cases e
       replace hx0 := (HB.out.cell (World.block_lt_of_cell? w0 _ hx0)).trans hx0
       replace hx1 := (HB.out.cell (World.block_lt_of_cell? w0 _ hx1)).trans hx1
       replace hx2 := (HB.out.cell (World.block_lt_of_cell? w0 _ hx2)).trans hx2
       replace hx3' := (HB.out.cell (World.block_lt_of_cell? w0 _ hx3')).trans hx3'
       have HF3 := Aside0.mk hi3
       have HC3 := Aside0.mk hl3
       have p0 := eq_true c6
       have p1 := eq_true c5
       clear hi3 hl3 c5 c6
       go_wp2_with (first|(go_at_call 115;(with_reducible refine (ih k1 (by have := HK1.out;omega) _ _ _ _ _ _ _ li l2 b2 w0 _ HF3.out HC3.out HB.out HL.out HT2.out).mono ?_);rintro e w5 ⟨v5, rfl, ho5, hb5, hk5⟩;have HL5 := Aside0.mk ho5;have HB5 := Aside0.mk hb5;have HK5 := Aside0.mk (HK.out.trans hk5);have HX5 := Aside0.mk (hk5.blk HX.out (by decide));clear ho5 hb5 hk5))
       go_roundg k1
       case measure => have := HK1.out;omega
       case rel => exact ⟨wrap64 (i + 1), l2, b2, rfl, rfl, HL5, H', ⟨by have := HK1.out;omega⟩, HB5, HK5, HX5⟩
      ·rw [if_neg c6] at H
       exact absurd H (by simp)
     | false =>
      rw [if_neg (by simp)] at H
      simp only [Option.some.injEq, Prod.mk.injEq] at H
      obtain ⟨rfl, rfl⟩ := H
      clear c5
      go_wp2
      go_ret2
      exact ⟨_, rfl, HL.out, HB.out, HK.out⟩
    ·rw [if_neg c5] at H
     have c5b : decide (i < (l.length : Int)) = false := decide_eq_false c5
     simp only [Option.some.injEq, Prod.mk.injEq] at H
     obtain ⟨rfl, rfl⟩ := H
     clear c5
     go_wp2
     go_ret2
     exact ⟨_, rfl, HL.out, HB.out, HK.out⟩
end Go.Proofs.Ytgdecbliegelmaa.Q

/- The walks of spec.l11Pattern, spec.Places. -/
namespace Go.Proofs.Ytgdecbliegelmaa.Q
open Go.RowKit Go.Proofs.YtgdecbliegelmaaW.PrintWords Go.Proofs.YtgdecbliegelmaaW.PrintLast Go.Proofs.YtgdecbliegelmaaW.PrintMore
attribute [local go_sem] max2_int min2_int max_two min_two max_three min_three max_four min_four
set_option linter.unusedVariables false
set_option linter.unusedSimpArgs false
theorem R_str_new {w W : World} (h : w.heap.size ≤ W.heap.size) : Kd.string.R 9 (W.alloc (.cells #[] 9)) w.heap.size (fun _ => True) (.slice (some ⟨W.heap.size, 0, none⟩) 0 0) [] :=
 ⟨fun _ _ => trivial, [], World.ownsRow_lit (base := w.heap.size) (e := 9) (size := 1) W #[] 0 h (Nat.zero_le _) rfl, Reps.none _ _⟩
theorem PathF_nil {w : World} {ok : Nat → Prop} {A : Option Addr} : Kd.F (Kd.int .i64) w ok A ([] : List Int).length [] := fun _ _ => ⟨rfl, by decide, fun h => absurd h (by decide)⟩
theorem PathF.nil (w : World) (ok : Nat → Prop) (A : Option Addr) (c : Nat) : PathF w ok (.slice A 0 c) [] := ⟨A, c, rfl, Nat.zero_le _, PathF_nil⟩
def spec_l11Pattern.f (k : Nat) (nm tx : ByteArray) (lf : Bool) (l : List S53) : Option Bool := (spec_TreeOK.f k nm tx lf l).bind fun t => if t = true then ((spec_l11Vars.f k nm tx lf l []).bind fun r => some r.2) else some false
theorem spec_l11Pattern.mono : ∀ a0 a1 a2 a3 k, LeO (spec_l11Pattern.f k a0 a1 a2 a3) (spec_l11Pattern.f (k + 1) a0 a1 a2 a3) := by
 intro a0 a1 a2 a3 k
 unfold spec_l11Pattern.f
 refine LeO.bind (spec_TreeOK.mono _ _ _ _ _) (fun t => ?_)
 exact LeO.ite (LeO.bind (spec_l11Vars.mono _ _ _ _ _ _) (fun _ => LeO.refl _)) (LeO.refl _)
set_option maxHeartbeats 8000000 in
set_option maxRecDepth 100000 in
theorem spec_l11Pattern.calls (k : Nat) (nm tx : ByteArray) (lf : Bool) (A : Option Addr) (c : Nat) (l : List S53) (r : Bool) (w : World) (hp : Kd.C k53 w A l.length l) (hc : l.length ≤ c) (h : spec_l11Pattern.f k nm tx lf l = some r) :
  Calls Try.prog 85 #[.agg #[.string nm, .string tx, .bool lf, .slice A l.length c]] w fun e w' => e = .returned (.bool r) ∧ Below w.heap.size w w' := by
 have hu53 := Try.underlying53
 unfold spec_l11Pattern.f at h
 have HP := Aside0.mk hp
 have HC := Aside0.mk hc
 have HB0 : Aside0 (Below w.heap.size w (w.alloc (.cells #[.string nm, .string tx, .bool lf, .slice A l.length c] 53))) := ⟨below_alloc (Below.refl _ _) _⟩
 have HX0 := Aside0.mk (blk_new w (.cells #[.string nm, .string tx, .bool lf, .slice A l.length c] 53))
 clear hp hc
 obtain ⟨t, ht, h⟩ := Option.bind_eq_some_iff.mp h
 have HT := Aside0.mk ht
 clear ht
 cases t with
 | false =>
  simp only [Bool.false_eq_true, if_false, Option.some.injEq] at h
  obtain rfl := h
  go_enter Try.func85, Try.ntmps85
  go_wp2_with (first|(go_at_call 73;(with_reducible refine (spec_TreeOK.calls k nm tx lf A c l false _ (Kd.C_below HP.out HB0.out) HC.out HT.out).mono ?_);rintro e w2 ⟨rfl, hb2⟩;have HB := Aside0.mk (below_step HB0.out hb2);clear hb2))
  go_ret
  exact ⟨rfl, HB.out⟩
 | true =>
  simp only [if_true] at h
  obtain ⟨⟨rl, b⟩, hv, h⟩ := Option.bind_eq_some_iff.mp h
  simp only [Option.some.injEq] at h
  obtain rfl := h
  have HV := Aside0.mk hv
  clear hv
  go_enter Try.func85, Try.ntmps85
  go_wp2_with (first
   | (go_at_call 73;(with_reducible refine (spec_TreeOK.calls k nm tx lf A c l true _ (Kd.C_below HP.out HB0.out) HC.out HT.out).mono ?_);rintro e w2 ⟨rfl, hb2⟩;have HB := Aside0.mk (below_step HB0.out hb2);have HX := Aside0.mk (blk_below HX0.out hb2);have hx0 : w2.cell? ⟨w.heap.size, 0, none⟩ = some (.string nm) := (blk_cell HX.out 0).trans rfl;have hx1 : w2.cell? ⟨w.heap.size, 1, none⟩ = some (.string tx) := (blk_cell HX.out 1).trans rfl;have hx2 : w2.cell? ⟨w.heap.size, 2, none⟩ = some (.bool lf) := (blk_cell HX.out 2).trans rfl;have hx3 : w2.cell? ⟨w.heap.size, 3, none⟩ = some (.slice A l.length c) := (blk_cell HX.out 3).trans rfl;clear hb2)
   | (go_at_call 115;(with_reducible refine (spec_l11Vars.calls k nm tx lf A c l _ [] rl b w _ HP.out HC.out (below_alloc HB.out _) (R_str_new HB.out.size) HV.out).mono ?_);rintro e w3 ⟨v3, rfl, ho3, hb3, hk3⟩;have HB3 := Aside0.mk hb3;clear ho3 hb3 hk3))
  go_ret
  exact ⟨rfl, HB3.out⟩
def spec_Places.f (k : Nat) (nm tx : ByteArray) (lf : Bool) (l : List S53) (nm2 tx2 : ByteArray) (lf2 : Bool) (l2 : List S53) : Option (List (List Int) × Int) := (spec_l11Pattern.f k nm tx lf l).bind fun t => if t = true then ((spec_TreeOK.f k nm2 tx2 lf2 l2).bind fun t2 => if t2 = true then ((spec_l11Places.f k nm tx lf l nm2 tx2 lf2 l2 []).bind fun r => some (r, 0)) else some ([], 1)) else some ([], 1)
theorem spec_Places.mono : ∀ a0 a1 a2 a3 a4 a5 a6 a7 k, LeO (spec_Places.f k a0 a1 a2 a3 a4 a5 a6 a7) (spec_Places.f (k + 1) a0 a1 a2 a3 a4 a5 a6 a7) := by
 intro a0 a1 a2 a3 a4 a5 a6 a7 k
 unfold spec_Places.f
 refine LeO.bind (spec_l11Pattern.mono _ _ _ _ _) (fun t => LeO.ite (LeO.bind (spec_TreeOK.mono _ _ _ _ _) (fun t => LeO.ite (LeO.bind (spec_l11Places.mono _ _ _ _ _ _ _ _ _ _) (fun _ => LeO.refl _)) (LeO.refl _))) (LeO.refl _))
set_option maxHeartbeats 8000000 in
set_option maxRecDepth 100000 in
theorem spec_Places.calls (k : Nat) (nm tx : ByteArray) (lf : Bool) (A : Option Addr) (c : Nat) (l : List S53) (nm2 tx2 : ByteArray) (lf2 : Bool) (A2 : Option Addr) (c2 : Nat) (l2 : List S53) (r1 : List (List Int)) (r2 : Int) (w : World) (hp : Kd.C k53 w A l.length l) (hc : l.length ≤ c) (hp2 : Kd.C k53 w A2 l2.length l2) (hc2 : l2.length ≤ c2) (h : spec_Places.f k nm tx lf l nm2 tx2 lf2 l2 = some (r1, r2)) :
  Calls Try.prog 47 #[.agg #[.string nm, .string tx, .bool lf, .slice A l.length c], .agg #[.string nm2, .string tx2, .bool lf2, .slice A2 l2.length c2]] w fun e w' => ∃ v' : Value, e = .returned (.tuple #[v', .int .i64 r2]) ∧ Kd.N kII 62 w' w.heap.size (fun _ => True) v' r1 ∧ Below w.heap.size w w' := by
 have hu53 := Try.underlying53
 unfold spec_Places.f at h
 have HP := Aside0.mk hp
 have HC := Aside0.mk hc
 have HP2 := Aside0.mk hp2
 have HC2 := Aside0.mk hc2
 have HB0 : Aside0 (Below w.heap.size w ((w.alloc (.cells #[.string nm, .string tx, .bool lf, .slice A l.length c] 53)).alloc (.cells #[.string nm2, .string tx2, .bool lf2, .slice A2 l2.length c2] 53))) := ⟨below_alloc (below_alloc (Below.refl _ _) _) _⟩
 have HX1 : Aside0 (((w.alloc (.cells #[.string nm, .string tx, .bool lf, .slice A l.length c] 53)).alloc (.cells #[.string nm2, .string tx2, .bool lf2, .slice A2 l2.length c2] 53)).heap[w.heap.size]? = some (.cells #[.string nm, .string tx, .bool lf, .slice A l.length c] 53 (0, 0))) := ⟨blk_alloc (blk_new _ _) _⟩
 have HX2 : Aside0 (((w.alloc (.cells #[.string nm, .string tx, .bool lf, .slice A l.length c] 53)).alloc (.cells #[.string nm2, .string tx2, .bool lf2, .slice A2 l2.length c2] 53)).heap[w.heap.size + 1]? = some (.cells #[.string nm2, .string tx2, .bool lf2, .slice A2 l2.length c2] 53 (0, 0))) := ⟨by simpa using blk_new (w.alloc (.cells #[.string nm, .string tx, .bool lf, .slice A l.length c] 53)) (.cells #[.string nm2, .string tx2, .bool lf2, .slice A2 l2.length c2] 53)⟩
 clear hp hc hp2 hc2
 obtain ⟨t, ht, h⟩ := Option.bind_eq_some_iff.mp h
 have HT := Aside0.mk ht
 clear ht
 cases t with
 | false =>
  simp only [Bool.false_eq_true, if_false, Option.some.injEq, Prod.mk.injEq] at h
  obtain ⟨rfl, rfl⟩ := h
  go_enter Try.func47, Try.ntmps47
  go_wp2_with (first|(go_at_call 85;(with_reducible refine (spec_l11Pattern.calls k nm tx lf A c l false _ (Kd.C_below HP.out HB0.out) HC.out HT.out).mono ?_);rintro e w2 ⟨rfl, hb2⟩;have HB := Aside0.mk (below_step HB0.out hb2);clear hb2))
  go_ret2
  exact ⟨_, rfl, N_emptyOk HB.out.size trivial, below_alloc HB.out _⟩
 | true =>
  simp only [if_true] at h
  obtain ⟨t2, ht2, h⟩ := Option.bind_eq_some_iff.mp h
  have HT2 := Aside0.mk ht2
  clear ht2
  cases t2 with
  | false =>
   simp only [Bool.false_eq_true, if_false, Option.some.injEq, Prod.mk.injEq] at h
   obtain ⟨rfl, rfl⟩ := h
   go_enter Try.func47, Try.ntmps47
   go_wp2_with (first
    | (go_at_call 85;(with_reducible refine (spec_l11Pattern.calls k nm tx lf A c l true _ (Kd.C_below HP.out HB0.out) HC.out HT.out).mono ?_);rintro e w2 ⟨rfl, hb2⟩;have HB := Aside0.mk (below_step HB0.out hb2);have HY2 := Aside0.mk (blk_below HX2.out hb2);have hx20 : w2.cell? ⟨w.heap.size + 1, 0, none⟩ = some (.string nm2) := (blk_cell HY2.out 0).trans rfl;have hx21 : w2.cell? ⟨w.heap.size + 1, 1, none⟩ = some (.string tx2) := (blk_cell HY2.out 1).trans rfl;have hx22 : w2.cell? ⟨w.heap.size + 1, 2, none⟩ = some (.bool lf2) := (blk_cell HY2.out 2).trans rfl;have hx23 : w2.cell? ⟨w.heap.size + 1, 3, none⟩ = some (.slice A2 l2.length c2) := (blk_cell HY2.out 3).trans rfl;clear hb2)
    | (go_at_call 73;(with_reducible refine (spec_TreeOK.calls k nm2 tx2 lf2 A2 c2 l2 false _ (Kd.C_below HP2.out HB.out) HC2.out HT2.out).mono ?_);rintro e w3 ⟨rfl, hb3⟩;have HB3 := Aside0.mk (below_step HB.out hb3);clear hb3))
   go_ret2
   exact ⟨_, rfl, N_emptyOk HB3.out.size trivial, below_alloc HB3.out _⟩
  | true =>
   simp only [if_true] at h
   obtain ⟨rl, hv, h⟩ := Option.bind_eq_some_iff.mp h
   simp only [Option.some.injEq, Prod.mk.injEq] at h
   obtain ⟨rfl, rfl⟩ := h
   have HV := Aside0.mk hv
   clear hv
   go_enter Try.func47, Try.ntmps47
   go_wp2_with (first
    | (go_at_call 85;(with_reducible refine (spec_l11Pattern.calls k nm tx lf A c l true _ (Kd.C_below HP.out HB0.out) HC.out HT.out).mono ?_);rintro e w2 ⟨rfl, hb2⟩;have HB := Aside0.mk (below_step HB0.out hb2);have HY1 := Aside0.mk (blk_below HX1.out hb2);have HY2 := Aside0.mk (blk_below HX2.out hb2);have hx20 : w2.cell? ⟨w.heap.size + 1, 0, none⟩ = some (.string nm2) := (blk_cell HY2.out 0).trans rfl;have hx21 : w2.cell? ⟨w.heap.size + 1, 1, none⟩ = some (.string tx2) := (blk_cell HY2.out 1).trans rfl;have hx22 : w2.cell? ⟨w.heap.size + 1, 2, none⟩ = some (.bool lf2) := (blk_cell HY2.out 2).trans rfl;have hx23 : w2.cell? ⟨w.heap.size + 1, 3, none⟩ = some (.slice A2 l2.length c2) := (blk_cell HY2.out 3).trans rfl;clear hb2)
    | (go_at_call 73;(with_reducible refine (spec_TreeOK.calls k nm2 tx2 lf2 A2 c2 l2 true _ (Kd.C_below HP2.out HB.out) HC2.out HT2.out).mono ?_);rintro e w3 ⟨rfl, hb3⟩;have HB3 := Aside0.mk (below_step HB.out hb3);have HZ1 := Aside0.mk (blk_below HY1.out hb3);have HZ2 := Aside0.mk (blk_below HY2.out hb3);clear hx20 hx21 hx22 hx23;have hx10 : w3.cell? ⟨w.heap.size, 0, none⟩ = some (.string nm) := (blk_cell HZ1.out 0).trans rfl;have hx11 : w3.cell? ⟨w.heap.size, 1, none⟩ = some (.string tx) := (blk_cell HZ1.out 1).trans rfl;have hx12 : w3.cell? ⟨w.heap.size, 2, none⟩ = some (.bool lf) := (blk_cell HZ1.out 2).trans rfl;have hx13 : w3.cell? ⟨w.heap.size, 3, none⟩ = some (.slice A l.length c) := (blk_cell HZ1.out 3).trans rfl;have hx20 : w3.cell? ⟨w.heap.size + 1, 0, none⟩ = some (.string nm2) := (blk_cell HZ2.out 0).trans rfl;have hx21 : w3.cell? ⟨w.heap.size + 1, 1, none⟩ = some (.string tx2) := (blk_cell HZ2.out 1).trans rfl;have hx22 : w3.cell? ⟨w.heap.size + 1, 2, none⟩ = some (.bool lf2) := (blk_cell HZ2.out 2).trans rfl;have hx23 : w3.cell? ⟨w.heap.size + 1, 3, none⟩ = some (.slice A2 l2.length c2) := (blk_cell HZ2.out 3).trans rfl;clear hb3)
    | (go_at_call 86;(with_reducible refine (spec_l11Places.calls k nm tx lf A c l nm2 tx2 lf2 A2 c2 l2 _ [] (fun _ => False) rl _ (Kd.C_below HP.out (below_alloc HB3.out _)) HC.out (Kd.C_below HP2.out (below_alloc HB3.out _)) HC2.out (PathF.nil _ _ _ _) HV.out).mono ?_);rintro e w5 ⟨v5, rfl, hn5, hb5⟩;have HN5 := Aside0.mk (Kd.N_lower (Kd.N_mono (ok' := fun _ => True) hn5 (fun _ _ => trivial)) (below_alloc HB3.out _).size);have HB5 := Aside0.mk (below_step (below_alloc HB3.out _) hb5);clear hn5 hb5))
   go_ret2
   exact ⟨_, rfl, HN5.out, HB5.out⟩
end Go.Proofs.Ytgdecbliegelmaa.Q

namespace Go.Proofs.Ytgdecbliegelmaa.Q
open Go.RowKit Go.Proofs.YtgdecbliegelmaaW.PrintWords Go.Proofs.YtgdecbliegelmaaW.PrintLast Go.Proofs.YtgdecbliegelmaaW.PrintMore
attribute [local go_sem] max2_int min2_int max_two min_two max_three min_three max_four min_four   -- for this text's walks alone
set_option linter.unusedVariables false
set_option linter.unusedSimpArgs false
/-! ### impl_isVar: function 118 -/
def impl_isVar.f (a0_0 : ByteArray) (a0_1 : ByteArray) (a0_2 : Bool) (l0_3 : List (S53)) : Option (Bool) := if a0_2 = true then (some (a0_0.toList == ([86, 97, 114] : List UInt8))) else (some false)
set_option maxHeartbeats 8000000 in
set_option maxRecDepth 100000 in
theorem impl_isVar.calls (a0_0 : ByteArray) (a0_1 : ByteArray) (a0_2 : Bool) (A0_3 : Option Addr) (c0_3 : Nat) (l0_3 : List (S53)) (r : Bool) (w : World) (hr0_3 : Kd.C k53 w A0_3 l0_3.length l0_3) (hc0_3 : l0_3.length ≤ c0_3) (h : impl_isVar.f a0_0 a0_1 a0_2 l0_3 = some r) :
  Calls Try.prog 118 #[.agg #[.string a0_0, .string a0_1, .bool a0_2, .slice A0_3 l0_3.length c0_3]] w fun e w' => e = .returned (.bool r) ∧ Below w.heap.size w w' := by
 have hu53 := Try.underlying53
 have HR0_3 := Aside0.mk hr0_3
 have HC0_3 := Aside0.mk hc0_3
 clear hr0_3 hc0_3
 have HB := Aside0.mk (Below.refl w.heap.size w)
 have H : (if a0_2 = true then (some (a0_0.toList == ([86, 97, 114] : List UInt8))) else (some false)) = some r := h
 clear h
 by_cases c2 : a0_2 = true
 ·subst c2
  have H1 : (some (a0_0.toList == ([86, 97, 114] : List UInt8))) = some r := by rw [if_pos rfl] at H;exact H
  clear H
  have H := H1
  clear H1
  obtain rfl := Option.some.inj H
  go_enter Try.func118, Try.ntmps118
  go_wp2_with (first|((with_reducible refine gate_dst (N := 1) rfl ?_);refine box_event ?hg (N := 1) ?hd (cs := #[.string a0_0, .string a0_1, .bool true, .slice A0_3 l0_3.length c0_3]) (t := 53) ?hr ?_;(case hd => rfl);(case hg => rfl);(case hr => first|(go_simp;done)|(go_simp;rfl));intro gb101 hg w3 hbox hb;have n0_ := Aside0.mk (below_step (by repeat (first|(with_reducible first|exact HB.out|apply below_alloc|apply pw_below_drewN|apply below_drew1)|exact HB.out)) hb);have n1_ := Aside0.mk (hbox);have n2_ := Aside0.mk ((by rw [hg];exact (below_size (by repeat (first|(with_reducible first|exact HB.out|apply below_alloc|apply pw_below_drewN|apply below_drew1)|exact HB.out))) : w.heap.size ≤ gb101));have n3_ := Aside0.mk ((by rw [hg];exact (below_size (by repeat (first|(with_reducible first|exact HB.out|apply below_alloc|apply pw_below_drewN|apply below_drew1)|exact HB.out))) : w.heap.size ≤ gb101));clear HB;have HB := n0_;have BK101 := n1_;have GW101 := n2_;have GE101 := n3_;clear n0_ n1_ n2_ n3_;clear hb hbox hg;have hcz4_0 : w3.cell? ⟨gb101, 0, none⟩ = some (.string a0_0) := (blk_cell BK101.out 0).trans rfl;have hcz4_1 : w3.cell? ⟨gb101, 1, none⟩ = some (.string a0_1) := (blk_cell BK101.out 1).trans rfl;have hcz4_2 : w3.cell? ⟨gb101, 2, none⟩ = some (.bool true) := (blk_cell BK101.out 2).trans rfl;have hcz4_3 : w3.cell? ⟨gb101, 3, none⟩ = some (.slice A0_3 l0_3.length c0_3) := (blk_cell BK101.out 3).trans rfl;have hfz4_0 := blk_frozen BK101.out 0;have hfz4_1 := blk_frozen BK101.out 1;have hfz4_2 := blk_frozen BK101.out 2;have hfz4_3 := blk_frozen BK101.out 3))
  go_ret
  exact ⟨by first|rfl|(simp [errW_none, errW_some] <;> rfl)|(simp [*, errW_none, errW_some] <;> rfl), by repeat (first|(with_reducible first|exact HB.out|apply below_alloc|apply pw_below_drewN|apply below_drew1|refine below_set ?_ GE101.out)|exact HB.out)⟩
 ·replace c2 := Bool.eq_false_iff.mpr c2
  subst c2
  have H1 : (some false) = some r := by rw [if_neg (show ¬ (false = true) by decide)] at H;exact H
  clear H
  have H := H1
  clear H1
  obtain rfl := Option.some.inj H
  go_enter Try.func118, Try.ntmps118
  go_wp2_with (first|((with_reducible refine gate_dst (N := 1) rfl ?_);refine box_event ?hg (N := 1) ?hd (cs := #[.string a0_0, .string a0_1, .bool false, .slice A0_3 l0_3.length c0_3]) (t := 53) ?hr ?_;(case hd => rfl);(case hg => rfl);(case hr => first|(go_simp;done)|(go_simp;rfl));intro gb101 hg w5 hbox hb;have n0_ := Aside0.mk (below_step (by repeat (first|(with_reducible first|exact HB.out|apply below_alloc|apply pw_below_drewN|apply below_drew1)|exact HB.out)) hb);have n1_ := Aside0.mk (hbox);have n2_ := Aside0.mk ((by rw [hg];exact (below_size (by repeat (first|(with_reducible first|exact HB.out|apply below_alloc|apply pw_below_drewN|apply below_drew1)|exact HB.out))) : w.heap.size ≤ gb101));have n3_ := Aside0.mk ((by rw [hg];exact (below_size (by repeat (first|(with_reducible first|exact HB.out|apply below_alloc|apply pw_below_drewN|apply below_drew1)|exact HB.out))) : w.heap.size ≤ gb101));clear HB;have HB := n0_;have BK101 := n1_;have GW101 := n2_;have GE101 := n3_;clear n0_ n1_ n2_ n3_;clear hb hbox hg;have hcz6_0 : w5.cell? ⟨gb101, 0, none⟩ = some (.string a0_0) := (blk_cell BK101.out 0).trans rfl;have hcz6_1 : w5.cell? ⟨gb101, 1, none⟩ = some (.string a0_1) := (blk_cell BK101.out 1).trans rfl;have hcz6_2 : w5.cell? ⟨gb101, 2, none⟩ = some (.bool false) := (blk_cell BK101.out 2).trans rfl;have hcz6_3 : w5.cell? ⟨gb101, 3, none⟩ = some (.slice A0_3 l0_3.length c0_3) := (blk_cell BK101.out 3).trans rfl;have hfz6_0 := blk_frozen BK101.out 0;have hfz6_1 := blk_frozen BK101.out 1;have hfz6_2 := blk_frozen BK101.out 2;have hfz6_3 := blk_frozen BK101.out 3))
  go_ret
  exact ⟨by first|rfl|(simp [errW_none, errW_some] <;> rfl)|(simp [*, errW_none, errW_some] <;> rfl), by repeat (first|(with_reducible first|exact HB.out|apply below_alloc|apply pw_below_drewN|apply below_drew1|refine below_set ?_ GE101.out)|exact HB.out)⟩
end Go.Proofs.Ytgdecbliegelmaa.Q

namespace Go.Proofs.Ytgdecbliegelmaa.Q
open Go.RowKit Go.Proofs.YtgdecbliegelmaaW.PrintWords Go.Proofs.YtgdecbliegelmaaW.PrintLast Go.Proofs.YtgdecbliegelmaaW.PrintMore
attribute [local go_sem] max2_int min2_int max_two min_two max_three min_three max_four min_four   -- for this text's walks alone
set_option linter.unusedVariables false
set_option linter.unusedSimpArgs false
/-! ### impl_bound: function 119 -/
def impl_bound.l0 : Nat → ByteArray → List (S151) → Int → Int → Option (ByteArray × ByteArray × Bool × (List (S53)) × Bool)
  | 0, _, _, _, _ => none
  | k + 1, x1, x8, x9, x10 => if x10 < x9 then (if 0 ≤ x10 then (if x10 < (x8.length : Int) then (if ((rd_T151 x8 x10).f0).toList = x1.toList then (some ((rd_T151 x8 x10).f1.f0, (rd_T151 x8 x10).f1.f1, (rd_T151 x8 x10).f1.f2, (rd_T151 x8 x10).f1.f3, true)) else (impl_bound.l0 k x1 x8 x9 (wrap64 (x10 + 1)))) else (none)) else (none)) else (some ((⟨#[]⟩ : ByteArray), (⟨#[]⟩ : ByteArray), false, ([] : List (S53)), false))
def impl_bound.f (k : Nat) (l0 : List (S151)) (a1 : ByteArray) : Option (ByteArray × ByteArray × Bool × (List (S53)) × Bool) := impl_bound.l0 k a1 l0 (l0.length : Int) 0
theorem impl_bound.mono_l : ∀ k, (∀ y0 y1 y2 y3, LeO (impl_bound.l0 k y0 y1 y2 y3) (impl_bound.l0 (k + 1) y0 y1 y2 y3))
 | 0 => fun _ _ _ _ r h => by simp [impl_bound.l0] at h
 | k + 1 => by
  have ih0 := impl_bound.mono_l k
  ·intro y0 y1 y2 y3
   unfold impl_bound.l0
   repeat' first
   | (with_reducible exact ih0 _ _ _ _)
   | (with_reducible exact LeO.refl _)
   | (with_reducible exact LeO.none _)
   | (with_reducible refine LeO.ite ?_ ?_)
   | (with_reducible refine LeO.bind ?_ (fun _ => ?_))
   | exact ih0 _ _ _ _
   | exact LeO.none _
   | refine LeO.ite ?_ ?_
   | refine LeO.bind ?_ (fun _ => ?_)
theorem impl_bound.mono : ∀ a0 a1 k, LeO (impl_bound.f k a0 a1) (impl_bound.f (k + 1) a0 a1) := by
 intro a0 a1 k
 have ih0 := impl_bound.mono_l k
 unfold impl_bound.f
 repeat' first
   | (with_reducible exact ih0 _ _ _ _)
   | (with_reducible exact LeO.refl _)
   | (with_reducible exact LeO.none _)
   | (with_reducible refine LeO.ite ?_ ?_)
   | (with_reducible refine LeO.bind ?_ (fun _ => ?_))
   | exact ih0 _ _ _ _
   | exact LeO.none _
   | refine LeO.ite ?_ ?_
   | refine LeO.bind ?_ (fun _ => ?_)
set_option maxHeartbeats 8000000 in
set_option maxRecDepth 100000 in
theorem impl_bound.calls (k : Nat) (P0_ : Nat → Prop) (A0 : Option Addr) (c0 : Nat) (l0 : List (S151)) (a1 : ByteArray) (r1 : ByteArray) (r2 : ByteArray) (r3 : Bool) (r4 : List (S53)) (r5 : Bool) (w : World) (hs0 : Kd.V k151 151 w w.heap.size (fun k_ => P0_ k_) (.slice A0 l0.length c0) l0) (h : impl_bound.f k l0 a1 = some (r1, r2, r3, r4, r5)) :
  Calls Try.prog 119 #[.slice A0 l0.length c0, .string a1] w fun e w' => ∃ v3_ : Value, e = .returned (.tuple #[.agg #[.string r1, .string r2, .bool r3, v3_], .bool r5]) ∧ Kd.V k53 53 w' w.heap.size (fun k_ => (P0_ k_ ∨ w.heap.size ≤ k_)) v3_ r4 ∧ Below w.heap.size w w' := by
 have hu53 := Try.underlying53
 have hu151 := Try.underlying151
 have HO0 := Aside0.mk (show Kd.V k151 151 w w.heap.size (fun k_ => (P0_ k_ ∨ w.heap.size ≤ k_)) (.slice A0 l0.length c0) l0 from Kd.V_mono hs0 (fun k_ hk => .inl hk))
 have HB := Aside0.mk (Below.refl w.heap.size w)
 have H : (impl_bound.l0 k a1 l0 (l0.length : Int) 0) = some (r1, r2, r3, r4, r5) := h
 clear h
 have H' := Aside0.mk H
 clear H
 go_enter Try.func119, Try.ntmps119
 go_wp2_with (first|((with_reducible refine gate_dst (N := 4) rfl ?_);refine box_event ?hg (N := 4) ?hd (cs := #[.string (⟨#[]⟩ : ByteArray), .string (⟨#[]⟩ : ByteArray), .bool false, .slice none 0 0]) (t := 53) ?hr ?_;(case hd => rfl);(case hg => rfl);(case hr => first|(go_simp;done)|(go_simp;rfl));intro gb101 hg w3 hbox hb;have n0_ := Aside0.mk (Kd.V_below (Kd.V_elderB (by (with_reducible repeat (first|apply Kd.V_alloc|apply Kd.V_drewN|apply Kd.V_drew));exact HO0.out) gb101 (Nat.le_of_eq hg.symm)) hb);have n1_ := Aside0.mk (below_step (by repeat (first|(with_reducible first|exact HB.out|apply below_alloc|apply pw_below_drewN|apply below_drew1)|exact HB.out)) hb);have n2_ := Aside0.mk (hbox);have n3_ := Aside0.mk ((by rw [hg];exact (below_size (by repeat (first|(with_reducible first|exact HB.out|apply below_alloc|apply pw_below_drewN|apply below_drew1)|exact HB.out))) : w.heap.size ≤ gb101));have n4_ := Aside0.mk ((by rw [hg];exact (below_size (by repeat (first|(with_reducible first|exact HB.out|apply below_alloc|apply pw_below_drewN|apply below_drew1)|exact HB.out))) : w.heap.size ≤ gb101));clear HO0;clear HB;have HO0 := n0_;have HB := n1_;have BK101 := n2_;have GW101 := n3_;have GE101 := n4_;clear n0_ n1_ n2_ n3_ n4_;clear hb hbox hg))
 go_loopg [10] k (fun kq v10 w' => ∃ (x10_1 : Int) (x102000_1 : ByteArray) (x102001_1 : ByteArray) (x102002_1 : Bool), v10 = .int .i64 x10_1 ∧ Aside0 (impl_bound.l0 kq a1 l0 (l0.length : Int) x10_1 = some (r1, r2, r3, r4, r5)) ∧ Aside0 (kq ≤ k) ∧ Aside0 (Kd.V k151 151 w' w.heap.size (fun k_ => (P0_ k_ ∨ w.heap.size ≤ k_) ∧ k_ ≠ gb101) (.slice A0 l0.length c0) l0) ∧ Aside0 (w'.heap[gb101]? = some (.cells #[.string x102000_1, .string x102001_1, .bool x102002_1, (.slice none 0 0)] 53 (0, 0))) ∧ Aside0 (Below w.heap.size w w'))
 case atStart => exact ⟨(0), ((⟨#[]⟩ : ByteArray)), ((⟨#[]⟩ : ByteArray)), (false), (by first|rfl|(simp;done)|(simp [*];done)), H', ⟨Nat.le_refl _⟩, ⟨by (with_reducible repeat (first|apply Kd.V_alloc|apply Kd.V_drewN|apply Kd.V_drew));exact HO0.out⟩, ⟨by (with_reducible repeat (first|refine blk_drewN ?_ _|refine blk_drew ?_|refine blk_alloc ?_ _));exact BK101.out⟩, ⟨by repeat (first|(with_reducible first|exact HB.out|apply below_alloc|apply pw_below_drewN|apply below_drew1|refine below_set ?_ GE101.out)|exact HB.out)⟩⟩
 case round =>
  clear H'
  try clear c1
  try clear p2
  obtain ⟨x10_1, x102000_1, x102001_1, x102002_1, rfl, HA, HK1, HO_8, BK101, HB⟩ := hrel
  cases gk with
  | zero => exact absurd HA.out (by simp [impl_bound.l0])
  | succ k1 =>
   have H := HA.out
   clear HA
   simp only [impl_bound.l0] at H
   by_cases c4 : x10_1 < (l0.length : Int)
   ·rw [if_pos c4] at H
    have c4b0 : decide (x10_1 < (l0.length : Int)) = true := decide_eq_true c4
    clear c4
    by_cases c5 : 0 ≤ x10_1
    ·rw [if_pos c5] at H
     have c5b0 : decide (0 ≤ x10_1) = true := decide_eq_true c5
     clear c5
     by_cases c6 : x10_1 < (l0.length : Int)
     ·rw [if_pos c6] at H
      have c6b0 : decide (x10_1 < (l0.length : Int)) = true := decide_eq_true c6
      clear c6
      by_cases c7 : ((rd_T151 l0 x10_1).f0).toList = a1.toList
      ·rw [if_pos c7] at H
       have c7b0 : (((rd_T151 l0 x10_1).f0).toList == a1.toList) = true := beq_iff_eq.mpr c7
       have c7b1 : (((rd_T151 l0 x10_1).f0).toList != a1.toList) = false := bne_eq_false_iff_eq.mpr c7
       clear c7
       simp only [Option.some.injEq, Prod.mk.injEq] at H
       obtain ⟨rfl, rfl, rfl, rfl, rfl⟩ := H
       have p102 : 0 ≤ (x10_1 : Int) := of_decide_eq_true (by first|(with_reducible assumption)|assumption)
       have q102 : x10_1 < (l0.length : Int) := of_decide_eq_true (by first|(with_reducible assumption)|assumption)
       obtain ⟨ad102, A102_4, c102_4, e102, hx102_0, hx102_1, hx102_2, hx102_3, hx102_4, hl102_4, hi102_4⟩ := at_T151 (Kd.V_reads' HO_8.out).2.2 x10_1 p102 q102
       cases e102
       obtain ⟨ce102, hce102, hMe102, hcc102⟩ := Kd.V_get HO_8.out z151 x10_1 p102 (by first|exact q102|exact of_decide_eq_true (by first|(with_reducible assumption)|assumption)|(have e_ := (Kd.V_reads' HO_8.out).1;omega))
       obtain ⟨ua102_4, uc102_4, rfl, ul102_4, ge102_4⟩ := k151_openF hMe102
       have hv102_4 := hcc102 4 _ rfl
       rw [add_field _ _ 4 (by omega)] at hv102_4
       replace hv102_4 := Option.some.inj (hv102_4.symm.trans hx102_4)
       injection hv102_4 with hva_ hvn_ hvc_
       rw [hva_] at ge102_4
       rw [hvc_] at ul102_4
       have HL102_4 := Aside0.mk (show Kd.V k53 53 _ w.heap.size _ _ ((rd_T151 l0 x10_1).f1.f3) from Kd.V_mk ul102_4 ge102_4)
       clear hva_ hvn_ hvc_ ge102_4 ul102_4
       clear hcc102 hce102
       have HR102_4 := Aside0.mk hi102_4
       have HC102_4 := Aside0.mk hl102_4
       clear hi102_4 hl102_4
       replace p102 := eq_true p102
       replace q102 := eq_true q102
       go_wp2_with (first|((with_reducible refine gate_dst (N := 7) rfl ?_);refine box_event ?hg (N := 7) ?hd (cs := #[.string (⟨#[]⟩ : ByteArray), .string (⟨#[]⟩ : ByteArray), .string (⟨#[]⟩ : ByteArray), .bool false, .slice none 0 0]) (t := 151) ?hr ?_;(case hd => rfl);(case hg => rfl);(case hr => first|(go_simp;done)|(go_simp;rfl));intro gb103 hg w8 hbox hb;have n0_ := Aside0.mk (Kd.V_below (Kd.V_elderB (by (with_reducible repeat (first|apply Kd.V_alloc|apply Kd.V_drewN|apply Kd.V_drew));exact HO_8.out) gb103 (Nat.le_of_eq hg.symm)) hb);have n1_ := Aside0.mk (Kd.V_below (Kd.V_elderB (by (with_reducible repeat (first|apply Kd.V_alloc|apply Kd.V_drewN|apply Kd.V_drew));exact HL102_4.out) gb103 (Nat.le_of_eq hg.symm)) hb);have n2_ := Aside0.mk (blk_below (g := gb101) (o := .cells #[.string x102000_1, .string x102001_1, .bool x102002_1, .slice none 0 0] 53 (0, 0)) (by (with_reducible repeat (first|refine blk_drewN ?_ _|refine blk_drew ?_|refine blk_alloc ?_ _));exact BK101.out) hb);have n3_ := Aside0.mk (Kd.C_below (by repeat (first|(with_reducible exact HR102_4.out)|(with_reducible refine Kd.C_alloc ?_ _)|(with_reducible refine Kd.C_drewN ?_ _)|(with_reducible refine Kd.C_drew ?_)|exact HR102_4.out)) hb);have n4_ := Aside0.mk (below_step (by repeat (first|(with_reducible first|exact HB.out|apply below_alloc|apply pw_below_drewN|apply below_drew1|refine below_set ?_ GE101.out)|exact HB.out)) hb);have n5_ := Aside0.mk (hbox);have n6_ := Aside0.mk ((by rw [hg];exact (below_size (by repeat (first|(with_reducible first|exact HB.out|apply below_alloc|apply pw_below_drewN|apply below_drew1|refine below_set ?_ GE101.out)|exact HB.out))) : w.heap.size ≤ gb103));have n7_ := Aside0.mk ((by rw [hg];exact (below_size (by repeat (first|(with_reducible first|exact HB.out|apply below_alloc|apply pw_below_drewN|apply below_drew1|refine below_set ?_ GE101.out)|exact HB.out))) : w.heap.size ≤ gb103));have n8_ := Aside0.mk ((by rw [hg];exact Nat.ne_of_lt (blk_lt (g := gb101) (o := .cells #[.string x102000_1, .string x102001_1, .bool x102002_1, .slice none 0 0] 53 (0, 0)) (by (with_reducible repeat (first|refine blk_drewN ?_ _|refine blk_drew ?_|refine blk_alloc ?_ _));exact BK101.out)) : gb101 ≠ gb103));have n9_ := Aside0.mk ((by rw [hg];exact Nat.ne_of_gt (blk_lt (g := gb101) (o := .cells #[.string x102000_1, .string x102001_1, .bool x102002_1, .slice none 0 0] 53 (0, 0)) (by (with_reducible repeat (first|refine blk_drewN ?_ _|refine blk_drew ?_|refine blk_alloc ?_ _));exact BK101.out)) : gb103 ≠ gb101));clear HO_8;clear HL102_4;clear BK101;clear HR102_4;clear HB;have HO_8 := n0_;have HL102_4 := n1_;have BK101 := n2_;have HR102_4 := n3_;have HB := n4_;have BK103 := n5_;have GW103 := n6_;have GE103 := n7_;have NB101_103 := n8_;have NB103_101 := n9_;clear n0_ n1_ n2_ n3_ n4_ n5_ n6_ n7_ n8_ n9_;clear hb hbox hg;have hnb9 := NB103_101.out;have hnc9 := NB101_103.out;have hcz10_0 : w8.cell? ⟨gb103, 0, none⟩ = some (.string (⟨#[]⟩ : ByteArray)) := (blk_cell BK103.out 0).trans rfl;have hcz10_1 : w8.cell? ⟨gb103, 1, none⟩ = some (.string (⟨#[]⟩ : ByteArray)) := (blk_cell BK103.out 1).trans rfl;have hcz10_2 : w8.cell? ⟨gb103, 2, none⟩ = some (.string (⟨#[]⟩ : ByteArray)) := (blk_cell BK103.out 2).trans rfl;have hcz10_3 : w8.cell? ⟨gb103, 3, none⟩ = some (.bool false) := (blk_cell BK103.out 3).trans rfl;have hcz10_4 : w8.cell? ⟨gb103, 4, none⟩ = some (.slice none 0 0) := (blk_cell BK103.out 4).trans rfl;have hfz10_0 := blk_frozen BK103.out 0;have hfz10_1 := blk_frozen BK103.out 1;have hfz10_2 := blk_frozen BK103.out 2;have hfz10_3 := blk_frozen BK103.out 3;have hfz10_4 := blk_frozen BK103.out 4;have hcz11_0 : w8.cell? ⟨gb101, 0, none⟩ = some (.string x102000_1) := (blk_cell BK101.out 0).trans rfl;have hcz11_1 : w8.cell? ⟨gb101, 1, none⟩ = some (.string x102001_1) := (blk_cell BK101.out 1).trans rfl;have hcz11_2 : w8.cell? ⟨gb101, 2, none⟩ = some (.bool x102002_1) := (blk_cell BK101.out 2).trans rfl;have hcz11_3 : w8.cell? ⟨gb101, 3, none⟩ = some (.slice none 0 0) := (blk_cell BK101.out 3).trans rfl;have hfz11_0 := blk_frozen BK101.out 0;have hfz11_1 := blk_frozen BK101.out 1;have hfz11_2 := blk_frozen BK101.out 2;have hfz11_3 := blk_frozen BK101.out 3))
       refine bodyPost_ret (results_ct rfl _ _ gb101 53 #[.string ((rd_T151 l0 x10_1).f1.f0), .string ((rd_T151 l0 x10_1).f1.f1), .bool ((rd_T151 l0 x10_1).f1.f2), .slice A102_4 ((rd_T151 l0 x10_1).f1.f3).length c102_4] (0, 0) _ rfl (by (with_reducible repeat (first|refine blk_drewN ?_ _|refine blk_drew ?_|refine blk_alloc ?_ _));refine blk_put (cs := #[.string ((rd_T151 l0 x10_1).f1.f0), .string ((rd_T151 l0 x10_1).f1.f1), .bool ((rd_T151 l0 x10_1).f1.f2), .slice none 0 0]) ?_ 3 _ rfl;(with_reducible repeat (first|refine blk_drewN ?_ _|refine blk_drew ?_|refine blk_alloc ?_ _));refine blk_put (cs := #[.string ((rd_T151 l0 x10_1).f1.f0), .string ((rd_T151 l0 x10_1).f1.f1), .bool x102002_1, .slice none 0 0]) ?_ 2 _ rfl;(with_reducible repeat (first|refine blk_drewN ?_ _|refine blk_drew ?_|refine blk_alloc ?_ _));refine blk_put (cs := #[.string ((rd_T151 l0 x10_1).f1.f0), .string x102001_1, .bool x102002_1, .slice none 0 0]) ?_ 1 _ rfl;(with_reducible repeat (first|refine blk_drewN ?_ _|refine blk_drew ?_|refine blk_alloc ?_ _));refine blk_put (cs := #[.string x102000_1, .string x102001_1, .bool x102002_1, .slice none 0 0]) ?_ 0 _ rfl;(with_reducible repeat (first|refine blk_drewN ?_ _|refine blk_drew ?_|refine blk_alloc ?_ _));refine blk_far ?_ NB101_103.out _;(with_reducible repeat (first|refine blk_drewN ?_ _|refine blk_drew ?_|refine blk_alloc ?_ _));refine blk_far ?_ NB101_103.out _;(with_reducible repeat (first|refine blk_drewN ?_ _|refine blk_drew ?_|refine blk_alloc ?_ _));refine blk_far ?_ NB101_103.out _;(with_reducible repeat (first|refine blk_drewN ?_ _|refine blk_drew ?_|refine blk_alloc ?_ _));refine blk_far ?_ NB101_103.out _;(with_reducible repeat (first|refine blk_drewN ?_ _|refine blk_drew ?_|refine blk_alloc ?_ _));refine blk_far ?_ NB101_103.out _;(with_reducible repeat (first|refine blk_drewN ?_ _|refine blk_drew ?_|refine blk_alloc ?_ _));exact BK101.out) Try.underlying53 rfl (by kernel_rfl)) rfl ?_
       exact ⟨_, by first|rfl|(simp [errW_none, errW_some] <;> rfl)|(simp [*, errW_none, errW_some] <;> rfl), by (with_reducible repeat (first|apply Kd.V_alloc|apply Kd.V_drewN|apply Kd.V_drew));exact Kd.V_mono (Kd.V_far (p := ⟨gb101, 3, none⟩) (Kd.V_far (p := ⟨gb101, 2, none⟩) (Kd.V_far (p := ⟨gb101, 1, none⟩) (Kd.V_far (p := ⟨gb101, 0, none⟩) (Kd.V_far (p := ⟨gb103, 4, none⟩) (Kd.V_far (p := ⟨gb103, 3, none⟩) (Kd.V_far (p := ⟨gb103, 2, none⟩) (Kd.V_far (p := ⟨gb103, 1, none⟩) (Kd.V_far (p := ⟨gb103, 0, none⟩) (Kd.V_mono (Kd.V_mono HL102_4.out (fun k_ hk => (⟨hk, hk.2⟩ : _ ∧ k_ ≠ gb103))) (fun k_ hk => (⟨hk, hk.1.1.2⟩ : _ ∧ k_ ≠ gb101))) (fun _ hk => hk.1.2) (.string ((rd_T151 l0 x10_1).f0))) (fun _ hk => hk.1.2) (.string ((rd_T151 l0 x10_1).f1.f0))) (fun _ hk => hk.1.2) (.string ((rd_T151 l0 x10_1).f1.f1))) (fun _ hk => hk.1.2) (.bool ((rd_T151 l0 x10_1).f1.f2))) (fun _ hk => hk.1.2) (.slice A102_4 ((rd_T151 l0 x10_1).f1.f3).length c102_4)) (fun _ hk => hk.2) (.string ((rd_T151 l0 x10_1).f1.f0))) (fun _ hk => hk.2) (.string ((rd_T151 l0 x10_1).f1.f1))) (fun _ hk => hk.2) (.bool ((rd_T151 l0 x10_1).f1.f2))) (fun _ hk => hk.2) (.slice A102_4 ((rd_T151 l0 x10_1).f1.f3).length c102_4)) (fun _ hk => hk.1.1.1.1), by repeat (first|(with_reducible first|exact HB.out|apply below_alloc|apply pw_below_drewN|apply below_drew1|refine below_set ?_ GE101.out|refine below_set ?_ GE103.out)|exact HB.out)⟩
      ·rw [if_neg c7] at H
       have c7b0 : (((rd_T151 l0 x10_1).f0).toList == a1.toList) = false := beq_eq_false_iff_ne.mpr c7
       have c7b1 : (((rd_T151 l0 x10_1).f0).toList != a1.toList) = true := bne_iff_ne.mpr c7
       have H' := Aside0.mk H
       clear H
       have p102 : 0 ≤ (x10_1 : Int) := of_decide_eq_true (by first|(with_reducible assumption)|assumption)
       have q102 : x10_1 < (l0.length : Int) := of_decide_eq_true (by first|(with_reducible assumption)|assumption)
       obtain ⟨ad102, A102_4, c102_4, e102, hx102_0, hx102_1, hx102_2, hx102_3, hx102_4, hl102_4, hi102_4⟩ := at_T151 (Kd.V_reads' HO_8.out).2.2 x10_1 p102 q102
       cases e102
       obtain ⟨ce102, hce102, hMe102, hcc102⟩ := Kd.V_get HO_8.out z151 x10_1 p102 (by first|exact q102|exact of_decide_eq_true (by first|(with_reducible assumption)|assumption)|(have e_ := (Kd.V_reads' HO_8.out).1;omega))
       obtain ⟨ua102_4, uc102_4, rfl, ul102_4, ge102_4⟩ := k151_openF hMe102
       have hv102_4 := hcc102 4 _ rfl
       rw [add_field _ _ 4 (by omega)] at hv102_4
       replace hv102_4 := Option.some.inj (hv102_4.symm.trans hx102_4)
       injection hv102_4 with hva_ hvn_ hvc_
       rw [hva_] at ge102_4
       rw [hvc_] at ul102_4
       have HL102_4 := Aside0.mk (show Kd.V k53 53 _ w.heap.size _ _ ((rd_T151 l0 x10_1).f1.f3) from Kd.V_mk ul102_4 ge102_4)
       clear hva_ hvn_ hvc_ ge102_4 ul102_4
       clear hcc102 hce102
       have HR102_4 := Aside0.mk hi102_4
       have HC102_4 := Aside0.mk hl102_4
       clear hi102_4 hl102_4
       replace p102 := eq_true p102
       replace q102 := eq_true q102
       go_wp2_with (first|((with_reducible refine gate_dst (N := 7) rfl ?_);refine box_event ?hg (N := 7) ?hd (cs := #[.string (⟨#[]⟩ : ByteArray), .string (⟨#[]⟩ : ByteArray), .string (⟨#[]⟩ : ByteArray), .bool false, .slice none 0 0]) (t := 151) ?hr ?_;(case hd => rfl);(case hg => rfl);(case hr => first|(go_simp;done)|(go_simp;rfl));intro gb103 hg w12 hbox hb;have n0_ := Aside0.mk (Kd.V_below (Kd.V_elderB (by (with_reducible repeat (first|apply Kd.V_alloc|apply Kd.V_drewN|apply Kd.V_drew));exact HO_8.out) gb103 (Nat.le_of_eq hg.symm)) hb);have n1_ := Aside0.mk (Kd.V_below (Kd.V_elderB (by (with_reducible repeat (first|apply Kd.V_alloc|apply Kd.V_drewN|apply Kd.V_drew));exact HL102_4.out) gb103 (Nat.le_of_eq hg.symm)) hb);have n2_ := Aside0.mk (blk_below (g := gb101) (o := .cells #[.string x102000_1, .string x102001_1, .bool x102002_1, .slice none 0 0] 53 (0, 0)) (by (with_reducible repeat (first|refine blk_drewN ?_ _|refine blk_drew ?_|refine blk_alloc ?_ _));exact BK101.out) hb);have n3_ := Aside0.mk (Kd.C_below (by repeat (first|(with_reducible exact HR102_4.out)|(with_reducible refine Kd.C_alloc ?_ _)|(with_reducible refine Kd.C_drewN ?_ _)|(with_reducible refine Kd.C_drew ?_)|exact HR102_4.out)) hb);have n4_ := Aside0.mk (below_step (by repeat (first|(with_reducible first|exact HB.out|apply below_alloc|apply pw_below_drewN|apply below_drew1|refine below_set ?_ GE101.out)|exact HB.out)) hb);have n5_ := Aside0.mk (hbox);have n6_ := Aside0.mk ((by rw [hg];exact (below_size (by repeat (first|(with_reducible first|exact HB.out|apply below_alloc|apply pw_below_drewN|apply below_drew1|refine below_set ?_ GE101.out)|exact HB.out))) : w.heap.size ≤ gb103));have n7_ := Aside0.mk ((by rw [hg];exact (below_size (by repeat (first|(with_reducible first|exact HB.out|apply below_alloc|apply pw_below_drewN|apply below_drew1|refine below_set ?_ GE101.out)|exact HB.out))) : w.heap.size ≤ gb103));have n8_ := Aside0.mk ((by rw [hg];exact Nat.ne_of_lt (blk_lt (g := gb101) (o := .cells #[.string x102000_1, .string x102001_1, .bool x102002_1, .slice none 0 0] 53 (0, 0)) (by (with_reducible repeat (first|refine blk_drewN ?_ _|refine blk_drew ?_|refine blk_alloc ?_ _));exact BK101.out)) : gb101 ≠ gb103));have n9_ := Aside0.mk ((by rw [hg];exact Nat.ne_of_gt (blk_lt (g := gb101) (o := .cells #[.string x102000_1, .string x102001_1, .bool x102002_1, .slice none 0 0] 53 (0, 0)) (by (with_reducible repeat (first|refine blk_drewN ?_ _|refine blk_drew ?_|refine blk_alloc ?_ _));exact BK101.out)) : gb103 ≠ gb101));clear HO_8;clear HL102_4;clear BK101;clear HR102_4;clear HB;have HO_8 := n0_;have HL102_4 := n1_;have BK101 := n2_;have HR102_4 := n3_;have HB := n4_;have BK103 := n5_;have GW103 := n6_;have GE103 := n7_;have NB101_103 := n8_;have NB103_101 := n9_;clear n0_ n1_ n2_ n3_ n4_ n5_ n6_ n7_ n8_ n9_;clear hb hbox hg;have hnb13 := NB103_101.out;have hnc13 := NB101_103.out;have hcz14_0 : w12.cell? ⟨gb103, 0, none⟩ = some (.string (⟨#[]⟩ : ByteArray)) := (blk_cell BK103.out 0).trans rfl;have hcz14_1 : w12.cell? ⟨gb103, 1, none⟩ = some (.string (⟨#[]⟩ : ByteArray)) := (blk_cell BK103.out 1).trans rfl;have hcz14_2 : w12.cell? ⟨gb103, 2, none⟩ = some (.string (⟨#[]⟩ : ByteArray)) := (blk_cell BK103.out 2).trans rfl;have hcz14_3 : w12.cell? ⟨gb103, 3, none⟩ = some (.bool false) := (blk_cell BK103.out 3).trans rfl;have hcz14_4 : w12.cell? ⟨gb103, 4, none⟩ = some (.slice none 0 0) := (blk_cell BK103.out 4).trans rfl;have hfz14_0 := blk_frozen BK103.out 0;have hfz14_1 := blk_frozen BK103.out 1;have hfz14_2 := blk_frozen BK103.out 2;have hfz14_3 := blk_frozen BK103.out 3;have hfz14_4 := blk_frozen BK103.out 4))
       go_roundg k1
       case measure => have := HK1.out;omega
       case rel => exact ⟨(wrap64 (x10_1 + 1)), (x102000_1), (x102001_1), (x102002_1), (by first|rfl|(simp;done)|(simp [*];done)), H', ⟨by have := HK1.out;omega⟩, ⟨by (with_reducible repeat (first|apply Kd.V_alloc|apply Kd.V_drewN|apply Kd.V_drew));exact Kd.V_mono (Kd.V_far (p := ⟨gb103, 4, none⟩) (Kd.V_far (p := ⟨gb103, 3, none⟩) (Kd.V_far (p := ⟨gb103, 2, none⟩) (Kd.V_far (p := ⟨gb103, 1, none⟩) (Kd.V_far (p := ⟨gb103, 0, none⟩) (Kd.V_mono HO_8.out (fun k_ hk => (⟨hk, hk.2⟩ : _ ∧ k_ ≠ gb103))) (fun _ hk => hk.2) (.string ((rd_T151 l0 x10_1).f0))) (fun _ hk => hk.2) (.string ((rd_T151 l0 x10_1).f1.f0))) (fun _ hk => hk.2) (.string ((rd_T151 l0 x10_1).f1.f1))) (fun _ hk => hk.2) (.bool ((rd_T151 l0 x10_1).f1.f2))) (fun _ hk => hk.2) (.slice A102_4 ((rd_T151 l0 x10_1).f1.f3).length c102_4)) (fun _ hk => ⟨hk.1.1.1, hk.1.1.2⟩)⟩, ⟨by (with_reducible repeat (first|refine blk_drewN ?_ _|refine blk_drew ?_|refine blk_alloc ?_ _));refine blk_far ?_ NB101_103.out _;(with_reducible repeat (first|refine blk_drewN ?_ _|refine blk_drew ?_|refine blk_alloc ?_ _));refine blk_far ?_ NB101_103.out _;(with_reducible repeat (first|refine blk_drewN ?_ _|refine blk_drew ?_|refine blk_alloc ?_ _));refine blk_far ?_ NB101_103.out _;(with_reducible repeat (first|refine blk_drewN ?_ _|refine blk_drew ?_|refine blk_alloc ?_ _));refine blk_far ?_ NB101_103.out _;(with_reducible repeat (first|refine blk_drewN ?_ _|refine blk_drew ?_|refine blk_alloc ?_ _));refine blk_far ?_ NB101_103.out _;(with_reducible repeat (first|refine blk_drewN ?_ _|refine blk_drew ?_|refine blk_alloc ?_ _));exact BK101.out⟩, ⟨by repeat (first|(with_reducible first|exact HB.out|apply below_alloc|apply pw_below_drewN|apply below_drew1|refine below_set ?_ GE101.out|refine below_set ?_ GE103.out)|exact HB.out)⟩⟩
     ·rw [if_neg c6] at H
      exact absurd H (by simp)
    ·rw [if_neg c5] at H
     exact absurd H (by simp)
   ·rw [if_neg c4] at H
    have c4b0 : decide (x10_1 < (l0.length : Int)) = false := decide_eq_false c4
    clear c4
    simp only [Option.some.injEq, Prod.mk.injEq] at H
    obtain ⟨rfl, rfl, rfl, rfl, rfl⟩ := H
    have hcz15_0 : wr.cell? ⟨gb101, 0, none⟩ = some (.string x102000_1) := (blk_cell BK101.out 0).trans rfl
    have hcz15_1 : wr.cell? ⟨gb101, 1, none⟩ = some (.string x102001_1) := (blk_cell BK101.out 1).trans rfl
    have hcz15_2 : wr.cell? ⟨gb101, 2, none⟩ = some (.bool x102002_1) := (blk_cell BK101.out 2).trans rfl
    have hcz15_3 : wr.cell? ⟨gb101, 3, none⟩ = some (.slice none 0 0) := (blk_cell BK101.out 3).trans rfl
    have hfz15_0 := blk_frozen BK101.out 0
    have hfz15_1 := blk_frozen BK101.out 1
    have hfz15_2 := blk_frozen BK101.out 2
    have hfz15_3 := blk_frozen BK101.out 3
    go_wp2
    refine bodyPost_ret (results_ct rfl _ _ gb101 53 #[.string (⟨#[]⟩ : ByteArray), .string (⟨#[]⟩ : ByteArray), .bool false, .slice none 0 0] (0, 0) _ rfl (by (with_reducible repeat (first|refine blk_drewN ?_ _|refine blk_drew ?_|refine blk_alloc ?_ _));refine blk_put (cs := #[.string (⟨#[]⟩ : ByteArray), .string (⟨#[]⟩ : ByteArray), .bool false, .slice none 0 0]) ?_ 3 _ rfl;(with_reducible repeat (first|refine blk_drewN ?_ _|refine blk_drew ?_|refine blk_alloc ?_ _));refine blk_put (cs := #[.string (⟨#[]⟩ : ByteArray), .string (⟨#[]⟩ : ByteArray), .bool x102002_1, .slice none 0 0]) ?_ 2 _ rfl;(with_reducible repeat (first|refine blk_drewN ?_ _|refine blk_drew ?_|refine blk_alloc ?_ _));refine blk_put (cs := #[.string (⟨#[]⟩ : ByteArray), .string x102001_1, .bool x102002_1, .slice none 0 0]) ?_ 1 _ rfl;(with_reducible repeat (first|refine blk_drewN ?_ _|refine blk_drew ?_|refine blk_alloc ?_ _));refine blk_put (cs := #[.string x102000_1, .string x102001_1, .bool x102002_1, .slice none 0 0]) ?_ 0 _ rfl;(with_reducible repeat (first|refine blk_drewN ?_ _|refine blk_drew ?_|refine blk_alloc ?_ _));exact BK101.out) Try.underlying53 rfl (by kernel_rfl)) rfl ?_
    exact ⟨_, by first|rfl|(simp [errW_none, errW_some] <;> rfl)|(simp [*, errW_none, errW_some] <;> rfl), Kd.V_nil _ _ _ _ _, by repeat (first|(with_reducible first|exact HB.out|apply below_alloc|apply pw_below_drewN|apply below_drew1|refine below_set ?_ GE101.out)|exact HB.out)⟩
end Go.Proofs.Ytgdecbliegelmaa.Q

