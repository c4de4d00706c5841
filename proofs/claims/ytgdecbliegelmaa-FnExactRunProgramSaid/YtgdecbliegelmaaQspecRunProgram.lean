-- Written by wip/myprint.py (this session's) over the kit's print: not the kit's own print.
import Derived.Test.YtgdecbliegelmaaQ0
import Derived.Test.YtgdecbliegelmaaQspecl01Between
import Derived.Test.YtgdecbliegelmaaQspecProgramOK
import Derived.Test.YtgdecbliegelmaaStep
namespace Go.Proofs.Ytgdecbliegelmaa.Q
open Go.RowKit Go.Proofs.YtgdecbliegelmaaW.PrintWords Go.Proofs.YtgdecbliegelmaaW.PrintLast Go.Proofs.YtgdecbliegelmaaW.PrintMore
attribute [local go_sem] max2_int min2_int max_two min_two max_three min_three max_four min_four   -- for this text's walks alone
set_option linter.unusedVariables false
set_option linter.unusedSimpArgs false

/-! ### spec_RunProgram: function 41 -/
-- IMPORT Derived.Test.YtgdecbliegelmaaStep
/-- The rounds of a run. -/
def runL : Nat → List S88 → List Int → Int → Int → Int → List Int → List Int → Int → Option (List Int × Int × Int × Int)
  | 0, _, _, _, _, _, _, _, _ => none
  | k + 1, p, word, fuel, n, pc, pile, told, place =>
    if n = fuel then some (told, 11, place, n)
    else if StepOk p word pc pile told place = true then
      (if (stepF (rd_T88 p pc) word pc pile told place 0).2.2.2.2.2 = true then some ((stepF (rd_T88 p pc) word pc pile told place 0).2.2.1, (stepF (rd_T88 p pc) word pc pile told place 0).2.2.2.2.1, (stepF (rd_T88 p pc) word pc pile told place 0).2.2.2.1, n + 1)
       else runL k p word fuel (n + 1) (stepF (rd_T88 p pc) word pc pile told place 0).1 (stepF (rd_T88 p pc) word pc pile told place 0).2.1 (stepF (rd_T88 p pc) word pc pile told place 0).2.2.1 (stepF (rd_T88 p pc) word pc pile told place 0).2.2.2.1)
    else none
theorem runL.mono1 : ∀ (k : Nat) (p : List S88) (word : List Int) (fuel n pc : Int) (pile told : List Int) (place : Int), LeO (runL k p word fuel n pc pile told place) (runL (k + 1) p word fuel n pc pile told place)
  | 0, _, _, _, _, _, _, _, _ => fun r h => by simp [runL] at h
  | k + 1, p, word, fuel, n, pc, pile, told, place => by
    intro r h
    unfold runL at h ⊢
    split at h
    · rename_i c; rw [if_pos c]; exact h
    · rename_i c; rw [if_neg c]
      split at h
      · rename_i c2; rw [if_pos c2]
        split at h
        · rename_i c3; rw [if_pos c3]; exact h
        · rename_i c3; rw [if_neg c3]; exact runL.mono1 k _ _ _ _ _ _ _ _ r h
      · simp at h
def fine0 (t : Bool) (l1 : List Int) (a2 : Int) : Bool := t && (decide ((l1.length : Int) ≤ 200) && (decide (0 ≤ a2) && decide (a2 ≤ 1000000)))
def nonneg (l : List Int) : Bool := l.all fun x => decide (0 ≤ x)
def spec_RunProgram.f (k : Nat) (l0 : List (S88)) (l1 : List Int) (a2 : Int) : Option (List Int × Int × Int × Int) := (spec_ProgramOK.f k l0).bind fun t =>
  if (fine0 t l1 a2 && nonneg l1) = true then runL k l0 l1 a2 0 0 [] [] 0 else some ([], 1, 0, 0)
theorem spec_RunProgram.mono : ∀ a0 a1 a2 k, LeO (spec_RunProgram.f k a0 a1 a2) (spec_RunProgram.f (k + 1) a0 a1 a2) := by
  intro a0 a1 a2 k
  unfold spec_RunProgram.f
  refine LeO.bind (spec_ProgramOK.mono _ _) (fun t => ?_)
  refine LeO.ite (runL.mono1 _ _ _ _ _ _ _ _ _) (LeO.refl _)
theorem fine0_bd {t : Bool} {l1 : List Int} {a2 : Int} : fine0 t l1 a2 = true → 0 ≤ a2 ∧ a2 ≤ 1000000 := by
  unfold fine0
  simp only [Bool.and_eq_true, decide_eq_true_eq]
  exact fun h => h.2.2
theorem stepF_code {x : S88} {word : List Int} {pc : Int} {pile told : List Int} {place : Int} (h : (stepF x word pc pile told place 0).2.2.2.2.2 = false) : (stepF x word pc pile told place 0).2.2.2.2.1 = 0 := by
  revert h
  unfold stepF
  repeat' split
  all_goals simp
theorem nonneg_take {l : List Int} {i : Nat} (h : i < l.length) : nonneg (l.take (i + 1)) = (nonneg (l.take i) && decide (0 ≤ rd l i)) := by
  unfold nonneg
  have : rd l i = l[i] := by simp [rd, h]
  rw [List.take_succ_eq_append_getElem h, List.all_append, this]; simp
theorem nonneg_false {l : List Int} {i : Nat} (h : nonneg (l.take i) = false) : nonneg l = false := by
  unfold nonneg at *
  rw [List.all_eq_false] at *
  obtain ⟨x, hx, hd⟩ := h
  exact ⟨x, List.mem_of_mem_take hx, hd⟩
theorem R_none_new {w W : World} (h : w.heap.size ≤ W.heap.size) : (Kd.int .i64).R 3 (W.alloc (.cells #[] 3)) w.heap.size (fun _ => True) (.slice (some ⟨W.heap.size, 0, none⟩) 0 0) [] :=
  ⟨fun _ _ => trivial, [], World.ownsRow_lit (base := w.heap.size) (e := 3) (size := 1) W #[] 0 h (Nat.zero_le _) rfl, by constructor <;> simp⟩
theorem RunSt.new {w W : World} {A0 A1 : Option Addr} {c0 c1 : Nat} {p : List S88} {word : List Int} (hB : Below w.heap.size w W) (h0 : Kd.C k88 w A0 p.length p) (h1 : Kd.C (Kd.int .i64) w A1 word.length word) :
    RunSt w (W.alloc (.cells #[.slice A0 p.length c0, .slice A1 word.length c1, .int .i64 0, .slice none 0 0, .slice none 0 0, .int .i64 0, .int .i64 0, .bool false] 109)) W.heap.size p word 0 [] [] 0 0 false :=
  ⟨A0, c0, A1, c1, none, 0, none, 0, blk_new _ _, hB.size, h0, h1, Kd.R_nil _ _ _ _ _, Kd.R_nil _ _ _ _ _, ne_nil _, below_alloc hB _⟩
set_option maxHeartbeats 8000000 in
set_option maxRecDepth 100000 in
theorem spec_RunProgram.calls (k : Nat) (A0 : Option Addr) (c0 : Nat) (l0 : List (S88)) (A1 : Option Addr) (c1 : Nat) (l1 : List Int) (a2 : Int) (r1 : List Int) (r2 : Int) (r3 : Int) (r4 : Int) (w : World) (hr0 : Kd.C k88 w A0 l0.length l0) (hc0 : l0.length ≤ c0) (hr1 : Kd.C (Kd.int .i64) w A1 l1.length l1) (hc1 : l1.length ≤ c1) (h : spec_RunProgram.f k l0 l1 a2 = some (r1, r2, r3, r4)) :
    Calls Try.prog 41 #[.slice A0 l0.length c0, .slice A1 l1.length c1, .int .i64 a2] w fun e w' => ∃ v0_ : Value, e = .returned (.tuple #[v0_, .int .i64 r2, .int .i64 r3, .int .i64 r4]) ∧ Kd.R (Kd.int .i64) 3 w' w.heap.size (fun _ => True) v0_ r1 ∧ Below w.heap.size w w' := by
  have hu88 := Try.underlying88
  have HR0 := Aside0.mk hr0
  have HC0 := Aside0.mk hc0
  have HR1 := Aside0.mk hr1
  have HC1 := Aside0.mk hc1
  have HL1 := Aside0.mk (hr1.2.1)
  clear hr0 hc0 hr1 hc1
  unfold spec_RunProgram.f at h
  obtain ⟨t, ht, h⟩ := Option.bind_eq_some_iff.mp h
  have HT := Aside0.mk ht
  have HH := Aside0.mk h
  clear ht h
  go_enter Try.func41, Try.ntmps41
  go_upto_region 1 with (fail)
  go_cut [10] (fun v10 wc => v10 = .bool (fine0 t l1 a2) ∧ Aside0 (Below w.heap.size w wc))
  case first =>
    cases t with
    | false =>
      go_wp2_with (first | (go_at_call 22; (with_reducible refine (spec_ProgramOK.calls k _ _ l0 false _ HR0.out HC0.out HT.out).mono ?_); rintro e w8 ⟨rfl, hb⟩; have HB := Aside0.mk hb; clear hb))
      go_meet
      case rel => exact ⟨rfl, HB⟩
    | true =>
      have fe : fine0 true l1 a2 = (decide ((l1.length : Int) ≤ 200) && (decide (0 ≤ a2) && decide (a2 ≤ 1000000))) := rfl
      by_cases c1_ : (l1.length : Int) ≤ 200
      · have b1 : decide ((l1.length : Int) ≤ 200) = true := decide_eq_true c1_
        by_cases c2_ : 0 ≤ a2
        · have hbt : spec_l01Between.f a2 0 1000000 = some (decide (a2 ≤ 1000000)) := by unfold spec_l01Between.f; rw [if_pos (by omega)]
          have b2 : decide (0 ≤ a2) = true := decide_eq_true c2_
          have HF : Aside0 (fine0 true l1 a2 = decide (a2 ≤ 1000000)) := ⟨by rw [fe, b1, b2]; rfl⟩
          have HBT := Aside0.mk hbt
          clear c1_ c2_ b2 fe hbt
          generalize decide (a2 ≤ 1000000) = z at HF HBT
          go_wp2_with (first | (go_at_call 22; (with_reducible refine (spec_ProgramOK.calls k _ _ l0 true _ HR0.out HC0.out HT.out).mono ?_); rintro e w8 ⟨rfl, hb⟩; have HB := Aside0.mk hb; clear hb) | (go_at_call 63; (with_reducible refine (spec_l01Between.calls _ _ _ z _ HBT.out).mono ?_); rintro e w9 ⟨rfl, ⟨nd, rfl⟩⟩))
          go_meet
          case rel => exact ⟨by rw [HF.out], ⟨pw_below_drewN HB.out _⟩⟩
        · have hbt : spec_l01Between.f a2 0 1000000 = some false := by unfold spec_l01Between.f; rw [if_neg (by omega)]
          have b2 : decide (0 ≤ a2) = false := decide_eq_false c2_
          have HF : Aside0 (fine0 true l1 a2 = false) := ⟨by rw [fe, b1, b2]; rfl⟩
          have HBT := Aside0.mk hbt
          clear c1_ c2_ b2 fe hbt
          go_wp2_with (first | (go_at_call 22; (with_reducible refine (spec_ProgramOK.calls k _ _ l0 true _ HR0.out HC0.out HT.out).mono ?_); rintro e w8 ⟨rfl, hb⟩; have HB := Aside0.mk hb; clear hb) | (go_at_call 63; (with_reducible refine (spec_l01Between.calls _ _ _ false _ HBT.out).mono ?_); rintro e w9 ⟨rfl, ⟨nd, rfl⟩⟩))
          go_meet
          case rel => exact ⟨by rw [HF.out], ⟨pw_below_drewN HB.out _⟩⟩
      · have b1 : decide ((l1.length : Int) ≤ 200) = false := decide_eq_false c1_
        have b1b : decide (l1.length ≤ 200) = false := decide_eq_false (by omega)
        have HF : Aside0 (fine0 true l1 a2 = false) := ⟨by rw [fe, b1]; rfl⟩
        clear c1_ fe
        go_wp2_with (first | (go_at_call 22; (with_reducible refine (spec_ProgramOK.calls k _ _ l0 true _ HR0.out HC0.out HT.out).mono ?_); rintro e w8 ⟨rfl, hb⟩; have HB := Aside0.mk hb; clear hb))
        go_meet
        case rel => exact ⟨by rw [HF.out], HB⟩
  case rest =>
    obtain ⟨rfl, HB⟩ := hcut
    have HFZ := Aside0.mk (fine0_bd (t := t) (l1 := l1) (a2 := a2))
    generalize hfz : fine0 t l1 a2 = z at HH HFZ ⊢
    clear hfz HT
    go_wp2
    go_loopg [10, 11] l1.length (fun kq v10 v11 w' => ∃ i : Nat, v11 = .int .i64 (i : Int) ∧ v10 = .bool (z && nonneg (l1.take i)) ∧ Aside0 (kq + i = l1.length) ∧ Aside0 (Below w.heap.size w w'))
    case atStart => exact ⟨0, rfl, by simp [nonneg], ⟨by omega⟩, ⟨by exact HB.out⟩⟩
    case round =>
      clear HB
      obtain ⟨i, rfl, rfl, HK, HB⟩ := hrel
      cases hz : (z && nonneg (l1.take i)) with
      | true =>
        have hz1 : z = true := by cases z <;> simp_all
        subst hz1
        have hz2 : nonneg (l1.take i) = true := by simpa using hz
        have HZ := Aside0.mk hz2
        clear hz hz2
        by_cases hi : i < l1.length
        · have hi1 : decide ((i : Int) < (l1.length : Int)) = true := decide_eq_true (by omega)
          have hi1b : decide (i < l1.length) = true := decide_eq_true hi
          have hl := HL1.out
          obtain ⟨ad1, e_, hw0⟩ := Kd.at_int HR1.out (i : Int) (by omega) (by omega)
          cases e_
          replace hw0 := (HB.out.cell (World.block_lt_of_cell? w _ hw0)).trans hw0
          simp only [Int.toNat_natCast] at hw0
          have hW : wrap64 ((i : Int) + 1) = (i : Int) + 1 := by unfold wrap64; omega
          have HN1 := Aside0.mk (nonneg_take hi)
          have p0 : (0 ≤ (i : Int)) = True := eq_true (by omega)
          have p1 : ((i : Int) < (l1.length : Int)) = True := eq_true (by omega)
          have HKE := Aside0.mk (show gk ≠ 0 by have := HK.out; omega)
          clear hi hl
          go_wp2
          repeat (go_quiet (fail); try go_wp2)
          go_roundg (l1.length - i - 1)
          case measure => have := HK.out; have := HKE.out; omega
          case rel => exact ⟨i + 1, by go_num, by rw [HN1.out, HZ.out]; first | rfl | simp, ⟨by have := HK.out; have := HKE.out; omega⟩, ⟨by first | exact HB.out | exact pw_below_drewN HB.out _⟩⟩
        · have hi0 : i = l1.length := by have := HK.out; omega
          subst hi0
          have hi1b : decide (l1.length < l1.length) = false := decide_eq_false (by omega)
          rw [List.take_length] at HZ
          have HH2 : Aside0 (runL k l0 l1 a2 0 0 [] [] 0 = some (r1, r2, r3, r4)) := ⟨by have h := HH.out; rw [HZ.out] at h; exact h⟩
          clear hi HH HK
          have HNW := Aside0.mk (RunSt.new (c0 := c0) (c1 := c1) HB.out HR0.out HR1.out)
          go_wp2
          generalize wr.alloc (.cells #[.slice A0 l0.length c0, .slice A1 l1.length c1, .int .i64 0, .slice none 0 0, .slice none 0 0, .int .i64 0, .int .i64 0, .bool false] 109) = W1 at HNW ⊢
          generalize wr.heap.size = g at HNW ⊢
          clear HB
          go_loopg [13] k (fun kq v13 w' => ∃ (n pc : Int) (pile told : List Int) (place code : Int) (en : Bool), v13 = .int .i64 n ∧ Aside0 (RunSt w w' g l0 l1 pc pile told place code en) ∧ Aside0 (if en = true then (told, code, place, n) = (r1, r2, r3, r4) else code = 0 ∧ 0 ≤ n ∧ n ≤ a2 ∧ a2 ≤ 1000000 ∧ runL kq l0 l1 a2 n pc pile told place = some (r1, r2, r3, r4)))
          case atStart => exact ⟨0, 0, [], [], 0, 0, false, rfl, ⟨HNW.out⟩, ⟨by rw [if_neg (by decide)]; exact ⟨rfl, by omega, (HFZ.out (by first | rfl | trivial)).1, (HFZ.out (by first | rfl | trivial)).2, HH2.out⟩⟩⟩
          case round =>
            clear HNW HH2 HZ
            obtain ⟨n, pc, pile, told, place, code, en, rfl, HI, HE⟩ := hrel
            have HI1 := HI.out
            obtain ⟨A0', c0', A1', c1', A3, c3, A4, c4, hg, hge, h0, h1_, h3, h4, hn, hB⟩ := HI1
            have hz7 : wr.cell? ⟨g, 7, none⟩ = some (.bool en) := (blk_cell hg 7).trans rfl
            have hz4 : wr.cell? ⟨g, 4, none⟩ = some (.slice A4 told.length c4) := (blk_cell hg 4).trans rfl
            have hz5 : wr.cell? ⟨g, 5, none⟩ = some (.int .i64 place) := (blk_cell hg 5).trans rfl
            have hz6 : wr.cell? ⟨g, 6, none⟩ = some (.int .i64 code) := (blk_cell hg 6).trans rfl
            have H4 := Aside0.mk h4
            have HB := Aside0.mk hB
            clear hg hge h0 h1_ h3 h4 hn hB
            cases en with
            | true =>
              have hE := HE.out
              rw [if_pos rfl] at hE
              simp only [Prod.mk.injEq] at hE
              obtain ⟨rfl, rfl, rfl, rfl⟩ := hE
              clear HE
              go_wp2
              repeat (go_quiet (fail); try go_wp2)
              refine bodyPost_ret (results_list (rs := [.tmp 6, .tmp 7, .tmp 8, .tmp 9]) rfl (by simp) (.tmp (.tmp (.tmp (.tmp .nil))))) rfl ?_
              exact ⟨_, rfl, Kd.R_mono (Kd.R_drewN H4.out _) (fun _ _ => trivial), pw_below_drewN HB.out _⟩
            | false =>
              have hE := HE.out
              rw [if_neg (by decide)] at hE
              obtain ⟨rfl, hn0, hn1, hn2, hE⟩ := hE
              clear HE
              cases gk with
              | zero => exact absurd hE (by simp [runL])
              | succ k1 =>
              unfold runL at hE
              by_cases c1_ : n = a2
              · rw [if_pos c1_] at hE
                simp only [Option.some.injEq, Prod.mk.injEq] at hE
                obtain ⟨rfl, rfl, rfl, rfl⟩ := hE
                have b1 : (n == a2) = true := beq_iff_eq.mpr c1_
                clear c1_ hz4 hz5 hz6 H4 HB hn0 hn1
                go_wp2_with (first | (go_at_call 83; (with_reducible refine (spec_l17Run_stop.callsR g l0 l1 pc pile told place 0 11 false w _ HI.out).mono ?_); rintro e w5 ⟨rfl, hS⟩; obtain ⟨A0', c0', A1', c1', A3, c3, A4, c4, hg, hge, h0, h1_, h3, h4, hn, hB⟩ := hS; have hz4 : w5.cell? ⟨g, 4, none⟩ = some (.slice A4 told.length c4) := (blk_cell hg 4).trans rfl; have hz5 : w5.cell? ⟨g, 5, none⟩ = some (.int .i64 place) := (blk_cell hg 5).trans rfl; have hz6 : w5.cell? ⟨g, 6, none⟩ = some (.int .i64 11) := (blk_cell hg 6).trans rfl; have H4 := Aside0.mk h4; have HB := Aside0.mk hB; clear hg hge h0 h1_ h3 h4 hn hB))
                repeat (go_quiet (fail); try go_wp2)
                refine bodyPost_ret (results_list (rs := [.tmp 6, .tmp 7, .tmp 8, .tmp 9]) rfl (by simp) (.tmp (.tmp (.tmp (.tmp .nil))))) rfl ?_
                exact ⟨_, rfl, Kd.R_mono (Kd.R_drewN H4.out _) (fun _ _ => trivial), pw_below_drewN HB.out _⟩
              · rw [if_neg c1_] at hE
                have b1 : (n == a2) = false := beq_eq_false_iff_ne.mpr c1_
                have hW : wrap64 (n + 1) = n + 1 := by unfold wrap64; omega
                by_cases c2_ : StepOk l0 l1 pc pile told place = true
                · rw [if_pos c2_] at hE
                  have HE := Aside0.mk hE
                  have HOK := Aside0.mk c2_
                  have HN0 := Aside0.mk hn0
                  have HN1 := Aside0.mk hn1
                  have HN2 := Aside0.mk hn2
                  have HC := Aside0.mk c1_
                  clear c1_ c2_ hE hz4 hz5 hz6 H4 HB hn0 hn1
                  go_wp2_with (first | (go_at_call 84; (with_reducible refine (spec_l17Run_step.calls g l0 l1 pc pile told place 0 w _ HI.out HOK.out).mono ?_); rintro e w5 ⟨rfl, hS⟩; have HS := Aside0.mk hS; clear hS))
                  go_roundg k1
                  case measure => omega
                  case rel => exact ⟨n + 1, _, _, _, _, _, _, rfl, HS, ⟨by
                    have h1 := HE.out
                    by_cases he : (stepF (rd_T88 l0 pc) l1 pc pile told place 0).2.2.2.2.2 = true
                    · rw [if_pos he] at h1 ⊢; exact Option.some.inj h1
                    · rw [if_neg he] at h1 ⊢; exact ⟨stepF_code (by simpa using he), by have := HN0.out; omega, by have := HN1.out; have := HC.out; omega, HN2.out, h1⟩⟩⟩
                · rw [if_neg c2_] at hE; exact absurd hE (by simp)
      | false =>
        have HZ := Aside0.mk hz
        have HF1 : Aside0 ((r1, r2, r3, r4) = ([], 1, 0, 0)) := ⟨by
          have h := HH.out
          have : (z && nonneg l1) = false := by
            cases z with
            | false => rfl
            | true => exact nonneg_false (by simpa using hz)
          rw [this] at h
          simpa using h.symm⟩
        clear hz HH
        go_wp2
        all_goals
          refine bodyPost_ret (results_list (rs := [.tmp 6, .tmp 7, .tmp 8, .tmp 9]) rfl (by simp) (.tmp (.tmp (.tmp (.tmp .nil))))) rfl ?_
          have hF := HF1.out
          simp only [Prod.mk.injEq] at hF
          obtain ⟨rfl, rfl, rfl, rfl⟩ := hF
          exact ⟨_, rfl, R_none_new HB.out.size, below_alloc HB.out _⟩


end Go.Proofs.Ytgdecbliegelmaa.Q
