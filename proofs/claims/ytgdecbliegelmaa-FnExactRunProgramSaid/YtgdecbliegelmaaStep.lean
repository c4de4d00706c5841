/- The walk of a run's step (spec.l17Run): with its two piles of its own. -/
import Derived.Test.YtgdecbliegelmaaQ0
import Derived.Test.YtgdecbliegelmaaQspecl17Runstop
namespace Go.Proofs.Ytgdecbliegelmaa.Q
open Go.RowKit Go.Proofs.YtgdecbliegelmaaW.PrintWords Go.Proofs.YtgdecbliegelmaaW.PrintLast Go.Proofs.YtgdecbliegelmaaW.PrintMore
attribute [local go_sem] max2_int min2_int max_two min_two max_three min_three max_four min_four
set_option linter.unusedVariables false
set_option linter.unusedSimpArgs false
/-- A run at block g of W: the program and the word came in by w0, the two piles are the run's own. -/
def RunSt (w0 W : World) (g : Nat) (p : List S88) (word : List Int) (pc : Int) (pile told : List Int) (place code : Int) (en : Bool) : Prop :=
  ∃ A0 c0 A1 c1 A3 c3 A4 c4, W.heap[g]? = some (.cells #[.slice A0 p.length c0, .slice A1 word.length c1, .int .i64 pc, .slice A3 pile.length c3, .slice A4 told.length c4, .int .i64 place, .int .i64 code, .bool en] 109 (0, 0)) ∧ w0.heap.size ≤ g ∧ Kd.C k88 w0 A0 p.length p ∧ Kd.C (Kd.int .i64) w0 A1 word.length word
    ∧ (Kd.int .i64).R 3 W w0.heap.size (fun k => k ≠ g) (.slice A3 pile.length c3) pile ∧ (Kd.int .i64).R 3 W w0.heap.size (fun k => k ≠ g) (.slice A4 told.length c4) told ∧ NeRow (.slice A3 pile.length c3) (.slice A4 told.length c4) ∧ Below w0.heap.size w0 W
section
variable {w0 W W1 : World} {g : Nat} {p : List S88} {word : List Int} {pc : Int} {pile told : List Int} {place code : Int} {en : Bool}
theorem RunSt.below (h : RunSt w0 W g p word pc pile told place code en) (hb : Below W.heap.size W W1) : RunSt w0 W1 g p word pc pile told place code en := by
  obtain ⟨A0, c0, A1, c1, A3, c3, A4, c4, hg, hge, h0, h1, h3, h4, hn, hB⟩ := h
  exact ⟨A0, c0, A1, c1, A3, c3, A4, c4, blk_below hg hb, hge, h0, h1, Kd.R_below h3 hb, Kd.R_below h4 hb, hn, below_step hB hb⟩
theorem RunSt.drewN (h : RunSt w0 W g p word pc pile told place code en) (m : Nat) : RunSt w0 (W.drewN m) g p word pc pile told place code en := h.below (pw_below_drewN (Below.refl _ _) m)
theorem RunSt.toBelow (h : RunSt w0 W g p word pc pile told place code en) : Below w0.heap.size w0 W := by
  obtain ⟨A0, c0, A1, c1, A3, c3, A4, c4, hg, hge, h0, h1, h3, h4, hn, hB⟩ := h
  exact hB
theorem RunSt.lt (h : RunSt w0 W g p word pc pile told place code en) : g < W.heap.size := by
  obtain ⟨A0, c0, A1, c1, A3, c3, A4, c4, hg, hge, h0, h1, h3, h4, hn, hB⟩ := h
  exact blk_lt hg
theorem RunSt.set_2 (h : RunSt w0 W g p word pc pile told place code en) (x : Int) : RunSt w0 (W.setCell ⟨g, 2, none⟩ (.int .i64 x)) g p word x pile told place code en := by
  obtain ⟨A0, c0, A1, c1, A3, c3, A4, c4, hg, hge, h0, h1, h3, h4, hn, hB⟩ := h
  exact ⟨A0, c0, A1, c1, A3, c3, A4, c4, blk_put hg 2 _ rfl, hge, h0, h1, Kd.R_far h3 (fun _ hk => hk) _, Kd.R_far h4 (fun _ hk => hk) _, hn, below_set hB hge⟩
theorem RunSt.set_5 (h : RunSt w0 W g p word pc pile told place code en) (x : Int) : RunSt w0 (W.setCell ⟨g, 5, none⟩ (.int .i64 x)) g p word pc pile told x code en := by
  obtain ⟨A0, c0, A1, c1, A3, c3, A4, c4, hg, hge, h0, h1, h3, h4, hn, hB⟩ := h
  exact ⟨A0, c0, A1, c1, A3, c3, A4, c4, blk_put hg 5 _ rfl, hge, h0, h1, Kd.R_far h3 (fun _ hk => hk) _, Kd.R_far h4 (fun _ hk => hk) _, hn, below_set hB hge⟩
theorem RunSt.set_6 (h : RunSt w0 W g p word pc pile told place code en) (x : Int) : RunSt w0 (W.setCell ⟨g, 6, none⟩ (.int .i64 x)) g p word pc pile told place x en := by
  obtain ⟨A0, c0, A1, c1, A3, c3, A4, c4, hg, hge, h0, h1, h3, h4, hn, hB⟩ := h
  exact ⟨A0, c0, A1, c1, A3, c3, A4, c4, blk_put hg 6 _ rfl, hge, h0, h1, Kd.R_far h3 (fun _ hk => hk) _, Kd.R_far h4 (fun _ hk => hk) _, hn, below_set hB hge⟩
theorem RunSt.set_7 (h : RunSt w0 W g p word pc pile told place code en) (x : Bool) : RunSt w0 (W.setCell ⟨g, 7, none⟩ (.bool x)) g p word pc pile told place code x := by
  obtain ⟨A0, c0, A1, c1, A3, c3, A4, c4, hg, hge, h0, h1, h3, h4, hn, hB⟩ := h
  exact ⟨A0, c0, A1, c1, A3, c3, A4, c4, blk_put hg 7 _ rfl, hge, h0, h1, Kd.R_far h3 (fun _ hk => hk) _, Kd.R_far h4 (fun _ hk => hk) _, hn, below_set hB hge⟩
theorem RunSt.boxed (h : RunSt w0 W g p word pc pile told place code en) (a b c : Int) :
    RunSt w0 ((((W.alloc (.cells #[.int .i64 0, .int .i64 0, .int .i64 0] 88)).setCell ⟨W.heap.size, 0, none⟩ (.int .i64 a)).setCell ⟨W.heap.size, 1, none⟩ (.int .i64 b)).setCell ⟨W.heap.size, 2, none⟩ (.int .i64 c)) g p word pc pile told place code en
    ∧ ((((W.alloc (.cells #[.int .i64 0, .int .i64 0, .int .i64 0] 88)).setCell ⟨W.heap.size, 0, none⟩ (.int .i64 a)).setCell ⟨W.heap.size, 1, none⟩ (.int .i64 b)).setCell ⟨W.heap.size, 2, none⟩ (.int .i64 c)).heap[W.heap.size]? = some (.cells #[.int .i64 a, .int .i64 b, .int .i64 c] 88 (0, 0)) := by
  refine ⟨h.below ((((((Below.refl _ _).alloc (Nat.le_refl _) _).setCell (Nat.le_refl _) _).setCell (Nat.le_refl _) _).setCell (Nat.le_refl _) _)), ?_⟩
  exact blk_put (blk_put (blk_put (blk_new W _) 0 _ rfl) 1 _ rfl) 2 _ rfl
theorem RunSt.cut_ {A0 A1 A3 A4 : Option Addr} {c0 c1 c3 c4 : Nat} (hg : W.heap[g]? = some (.cells #[.slice A0 p.length c0, .slice A1 word.length c1, .int .i64 pc, .slice A3 pile.length c3, .slice A4 told.length c4, .int .i64 place, .int .i64 code, .bool en] 109 (0, 0))) (hge : w0.heap.size ≤ g) (h0 : Kd.C k88 w0 A0 p.length p) (h1 : Kd.C (Kd.int .i64) w0 A1 word.length word)
    (h3 : (Kd.int .i64).R 3 W w0.heap.size (fun k => k ≠ g) (.slice A3 pile.length c3) pile) (h4 : (Kd.int .i64).R 3 W w0.heap.size (fun k => k ≠ g) (.slice A4 told.length c4) told) (hn : NeRow (.slice A3 pile.length c3) (.slice A4 told.length c4)) (hB : Below w0.heap.size w0 W) {m : Nat} (hm : m ≤ pile.length) : RunSt w0 (W.setCell ⟨g, 3, none⟩ (.slice A3 m c3)) g p word pc (pile.take m) told place code en := by
  have hl : (pile.take m).length = m := by rw [List.length_take]; omega
  refine ⟨A0, c0, A1, c1, A3, c3, A4, c4, ?_, hge, h0, h1, ?_, Kd.R_far h4 (fun _ hk => hk) _, ?_, below_set hB hge⟩
  · exact blk_put hg 3 _ (by rw [hl]; rfl)
  · rw [hl]; exact Kd.R_take (Kd.R_far h3 (fun _ hk => hk) _) hm
  · intro k hk; exact hn k (by cases A3 <;> (simp [Value.ownBlock] at hk ⊢; try exact hk))
end
/-- What a step makes of a run. -/
def stepF (x : S88) (word : List Int) (pc : Int) (pile told : List Int) (place code : Int) : Int × List Int × List Int × Int × Int × Bool :=
  if x.f0 = 1 then (if (pile.length : Int) = 10000 then (pc + 1, pile, told, place, 3, true) else (pc + 1, pile ++ [x.f1], told, place, code, false))
  else if x.f0 = 2 then (if (pile.length : Int) ≤ x.f1 then (pc + 1, pile, told, place, 4, true) else (pc + 1, pile.take ((pile.length : Int) - x.f1).toNat, told, place, code, false))
  else if x.f0 = 3 then (if (told.length : Int) = 10000 then (pc + 1, pile, told, place, 3, true) else (pc + 1, pile, told ++ [x.f1], place, code, false))
  else if x.f0 = 4 then (if place = (word.length : Int) then (pc + 1, pile, told, place, 2, true) else (pc + 1, pile, told, place + 1, code, false))
  else if x.f0 = 5 then (x.f2, pile, told, place, code, false)
  else if x.f0 = 6 then (if place < (word.length : Int) ∧ rd word place = x.f1 then (x.f2, pile, told, place, code, false) else (pc + 1, pile, told, place, code, false))
  else if x.f0 = 7 then (if place = (word.length : Int) then (x.f2, pile, told, place, code, false) else (pc + 1, pile, told, place, code, false))
  else if x.f0 = 8 then (if 0 < (pile.length : Int) ∧ rd pile ((pile.length : Int) - 1) = x.f1 then (x.f2, pile, told, place, code, false) else (pc + 1, pile, told, place, code, false))
  else if x.f0 = 9 then (pc + 1, pile, told, place, 0, true)
  else if x.f0 = 10 then (pc + 1, pile, told, place, x.f1, true)
  else (pc + 1, pile, told, place, code, false)
/-- What a run's numbers keep to. -/
def StepOk (p : List S88) (word : List Int) (pc : Int) (pile told : List Int) (place : Int) : Bool := decide (0 ≤ pc ∧ pc < (p.length : Int) ∧ p.length ≤ 50000 ∧ pile.length ≤ 10000 ∧ told.length ≤ 10000 ∧ 0 ≤ place ∧ place ≤ (word.length : Int) ∧ word.length ≤ 200 ∧ 0 ≤ (rd_T88 p pc).f1 ∧ (rd_T88 p pc).f1 ≤ 1000 ∧ 1 ≤ (rd_T88 p pc).f0 ∧ (rd_T88 p pc).f0 ≤ 10)
set_option maxHeartbeats 4000000 in
set_option maxRecDepth 100000 in
theorem spec_l17Run_stop.callsR (g : Nat) (p : List S88) (word : List Int) (pc : Int) (pile told : List Int) (place code a1 : Int) (en : Bool) (w0 w : World) (hI : RunSt w0 w g p word pc pile told place code en) :
    Calls Try.prog 83 #[.pointer (some ⟨g, 0, none⟩), .int .i64 a1] w fun e w' => e = .returned (.tuple #[]) ∧ RunSt w0 w' g p word pc pile told place a1 true := by
  have HI := Aside0.mk hI
  obtain ⟨A0, c0, A1, c1, A3, c3, A4, c4, hg, hge, h0, h1_, h3, h4, hn, hB⟩ := hI
  have hz6 : w.cell? ⟨g, 6, none⟩ = some (.int .i64 code) := (blk_cell hg 6).trans rfl
  have hz7 : w.cell? ⟨g, 7, none⟩ = some (.bool en) := (blk_cell hg 7).trans rfl
  have hf6 := blk_frozen hg 6
  have hf7 := blk_frozen hg 7
  clear hg hge h0 h1_ h3 h4 hn hB
  go_enter Try.func83, Try.ntmps83
  go_wp2
  first | go_end0 | ((try simp only [Exit.inBlock, Exit.then]); refine bodyPost_ret (results_none rfl _ _ _) rfl ?_)
  exact ⟨rfl, (HI.out.set_6 a1).set_7 true⟩
section
variable {w0 W w5 : World} {g : Nat} {p : List S88} {word : List Int} {pc : Int} {pile told : List Int} {place code : Int} {en : Bool}
theorem RunSt.push_pile {A0 A1 A3 A4 : Option Addr} {c0 c1 c3 c4 : Nat} {x : Int} {v1 : Value} (hg : W.heap[g]? = some (.cells #[.slice A0 p.length c0, .slice A1 word.length c1, .int .i64 pc, .slice A3 pile.length c3, .slice A4 told.length c4, .int .i64 place, .int .i64 code, .bool en] 109 (0, 0))) (hge : w0.heap.size ≤ g) (h0 : Kd.C k88 w0 A0 p.length p) (h1 : Kd.C (Kd.int .i64) w0 A1 word.length word)
    (h3 : (Kd.int .i64).R 3 W w0.heap.size (fun k => k ≠ g) (.slice A3 pile.length c3) pile) (h4 : (Kd.int .i64).R 3 W w0.heap.size (fun k => k ≠ g) (.slice A4 told.length c4) told) (hn : NeRow (.slice A3 pile.length c3) (.slice A4 told.length c4))
    (ho1 : (Kd.int .i64).R 3 w5 w0.heap.size (fun k => k ≠ g) v1 (pile ++ [x])) (hb1 : Below w0.heap.size w0 w5) (hg1 : W.grownBy w5 (Value.slice A3 pile.length c3).ownBlock ) (hat : v1.ownBlock = (Value.slice A3 pile.length c3).ownBlock ∨ ∃ b, v1.ownBlock = some b ∧ W.heap.size ≤ b) :
    (∃ cs u, w5.heap[g]? = some (.cells cs 109 (0, 0)) ∧ w5.cell? ⟨g, 3, none⟩ = some u) ∧ RunSt w0 (w5.setCell ⟨g, 3, none⟩ v1) g p word pc (pile ++ [x]) told place code en := by
  have hg5 := blk_grown hg hg1 (fun e => (h3.1 g e.symm) rfl)
  have h45 := Kd.R_grown2 h4 rfl hg1 (fun k hk e => hn k hk e.symm)
  obtain ⟨A5, c5, rfl, hl5, -⟩ := Kd.R_reads ho1
  refine ⟨⟨_, _, hg5, (blk_cell hg5 3).trans rfl⟩, A0, c0, A1, c1, A5, c5, A4, c4, blk_put hg5 3 _ rfl, hge, h0, h1, Kd.R_far ho1 (fun _ hk => hk) _, Kd.R_far h45 (fun _ hk => hk) _, ?_, below_set hb1 hge⟩
  intro k hk hk4
  rcases hat with hat | ⟨b, hb, hle⟩
  · exact hn k (hat ▸ hk) hk4
  · have := Kd.R_lt h4 k hk4
    rw [hb] at hk; injection hk with hk; omega
theorem RunSt.push_told {A0 A1 A3 A4 : Option Addr} {c0 c1 c3 c4 : Nat} {x : Int} {v1 : Value} (hg : W.heap[g]? = some (.cells #[.slice A0 p.length c0, .slice A1 word.length c1, .int .i64 pc, .slice A3 pile.length c3, .slice A4 told.length c4, .int .i64 place, .int .i64 code, .bool en] 109 (0, 0))) (hge : w0.heap.size ≤ g) (h0 : Kd.C k88 w0 A0 p.length p) (h1 : Kd.C (Kd.int .i64) w0 A1 word.length word)
    (h3 : (Kd.int .i64).R 3 W w0.heap.size (fun k => k ≠ g) (.slice A3 pile.length c3) pile) (h4 : (Kd.int .i64).R 3 W w0.heap.size (fun k => k ≠ g) (.slice A4 told.length c4) told) (hn : NeRow (.slice A3 pile.length c3) (.slice A4 told.length c4))
    (ho1 : (Kd.int .i64).R 3 w5 w0.heap.size (fun k => k ≠ g) v1 (told ++ [x])) (hb1 : Below w0.heap.size w0 w5) (hg1 : W.grownBy w5 (Value.slice A4 told.length c4).ownBlock ) (hat : v1.ownBlock = (Value.slice A4 told.length c4).ownBlock ∨ ∃ b, v1.ownBlock = some b ∧ W.heap.size ≤ b) :
    (∃ cs u, w5.heap[g]? = some (.cells cs 109 (0, 0)) ∧ w5.cell? ⟨g, 4, none⟩ = some u) ∧ RunSt w0 (w5.setCell ⟨g, 4, none⟩ v1) g p word pc pile (told ++ [x]) place code en := by
  have hg5 := blk_grown hg hg1 (fun e => (h4.1 g e.symm) rfl)
  have h35 := Kd.R_grown2 h3 rfl hg1 (fun k hk e => hn k e.symm hk)
  obtain ⟨A5, c5, rfl, hl5, -⟩ := Kd.R_reads ho1
  refine ⟨⟨_, _, hg5, (blk_cell hg5 4).trans rfl⟩, A0, c0, A1, c1, A3, c3, A5, c5, blk_put hg5 4 _ rfl, hge, h0, h1, Kd.R_far h35 (fun _ hk => hk) _, Kd.R_far ho1 (fun _ hk => hk) _, ?_, below_set hb1 hge⟩
  intro k hk hk4
  rcases hat with hat | ⟨b, hb, hle⟩
  · exact hn k hk (hat ▸ hk4)
  · have := Kd.R_lt h3 k hk
    rw [hb] at hk4; injection hk4 with hk4; omega
end
set_option maxHeartbeats 40000000 in
set_option maxRecDepth 100000 in
theorem spec_l17Run_step.walk (g : Nat) (p : List S88) (word : List Int) (pc : Int) (pile told : List Int) (place code : Int) (w0 w : World) (r1 : Int) (r2 r3 : List Int) (r4 r5 : Int) (r6 : Bool) (hI : RunSt w0 w g p word pc pile told place code false) (hok : StepOk p word pc pile told place = true) (hS : stepF (rd_T88 p pc) word pc pile told place code = (r1, r2, r3, r4, r5, r6)) :
    Calls Try.prog 84 #[.pointer (some ⟨g, 0, none⟩)] w fun e w' => e = .returned (.tuple #[]) ∧ RunSt w0 w' g p word r1 r2 r3 r4 r5 r6 := by
  have hu88 := Try.underlying88
  obtain ⟨q0, q1, q2, q3, q4, q5, q6, q7, q8, q9, qa, qb⟩ := of_decide_eq_true hok
  have HQ := Aside0.mk (And.intro qa qb)
  have HS_ := Aside0.mk hS
  clear hS qa qb
  have HI2 : Aside0 (RunSt w0 w.drew g p word pc pile told place code false) := ⟨hI.below (below_drew (Below.refl _ _))⟩
  obtain ⟨A0, c0, A1, c1, A3, c3, A4, c4, hg, hge, h0, h1_, h3, h4, hn, hB⟩ := hI
  obtain ⟨ad, e, hx0, hx1, hx2⟩ := at_T88 h0 pc q0 q1
  cases e
  replace hx0 := (hB.cell (World.block_lt_of_cell? w0 _ hx0)).trans hx0
  replace hx1 := (hB.cell (World.block_lt_of_cell? w0 _ hx1)).trans hx1
  replace hx2 := (hB.cell (World.block_lt_of_cell? w0 _ hx2)).trans hx2
  have hz0 : w.cell? ⟨g, 0, none⟩ = some (.slice (some ad) p.length c0) := (blk_cell hg 0).trans rfl
  have hz2 : w.cell? ⟨g, 2, none⟩ = some (.int .i64 pc) := (blk_cell hg 2).trans rfl
  clear hn h3 h4 hB hg h0 h1_ hge
  have d0 : decide (0 ≤ pc) = true := decide_eq_true q0
  have d1 : decide (pc < (p.length : Int)) = true := decide_eq_true q1
  go_enter Try.func84, Try.ntmps84
  go_wp2
  refine start_ (n := 12) (S := fun w' => w'.cell? ⟨g, 0, none⟩ = some (.slice (some ad) p.length c0) ∧ w'.cell? ⟨g, 2, none⟩ = some (.int .i64 pc) ∧ w'.cell? (ad.add (pc.toNat * 3)) = some (.int .i64 (rd_T88 p pc).f0) ∧ w'.cell? ⟨(ad.add (pc.toNat * 3)).block, (ad.add (pc.toNat * 3)).off + 1, none⟩ = some (.int .i64 (rd_T88 p pc).f1) ∧ w'.cell? ⟨(ad.add (pc.toNat * 3)).block, (ad.add (pc.toNat * 3)).off + 2, none⟩ = some (.int .i64 (rd_T88 p pc).f2)) (ds := [11]) #[false, false, false, false, false, false, false, false, false, false, false, false] (by kernel_rfl) rfl rfl ⟨hz0, hz2, hx0, hx1, hx2⟩ (fun hHeld => ?_)
  generalize w.drew = w2 at HI2 hHeld ⊢
  refine pure_ (i := 0) (N := some 4) (v := ?_) (a' := ?_) #[true, false, false, false, false, false, false, false, false, false, false, false] rfl rfl (by kernel_rfl) (fun _ _ _ h => h) (Or.inl ⟨by rfl, ?_⟩) ?_ ?_
  rotate_left
  · intro w'
    go_simp
    with_reducible rfl
  rotate_left
  · simp only [Act.put, List.setIfInBounds_toArray, List.set_cons_zero, List.set_cons_succ, i64_w, i32_w]
    rfl
  refine pure_ (i := 1) (N := some 5) (v := ?_) (a' := ?_) #[true, true, false, false, false, false, false, false, false, false, false, false] rfl rfl (by kernel_rfl) (fun _ _ _ h => h) (Or.inl ⟨by rfl, ?_⟩) ?_ ?_
  rotate_left
  · intro w'
    go_simp
    with_reducible rfl
  rotate_left
  · simp only [Act.put, List.setIfInBounds_toArray, List.set_cons_zero, List.set_cons_succ, i64_w, i32_w]
    rfl
  refine pure_ (i := 2) (N := some 6) (v := ?_) (a' := ?_) #[true, true, true, false, false, false, false, false, false, false, false, false] rfl rfl (by kernel_rfl) (fun _ _ _ h => h) (Or.inl ⟨by rfl, ?_⟩) ?_ ?_
  rotate_left
  · intro w'
    go_simp
    with_reducible rfl
  rotate_left
  · simp only [Act.put, List.setIfInBounds_toArray, List.set_cons_zero, List.set_cons_succ, i64_w, i32_w]
    rfl
  refine pure_ (i := 4) (N := some 8) (v := ?_) (a' := ?_) #[true, true, true, false, true, false, false, false, false, false, false, false] rfl rfl (by kernel_rfl) (fun _ _ _ h => h) (Or.inl ⟨by rfl, ?_⟩) ?_ ?_
  rotate_left
  · intro w'
    go_simp
    with_reducible rfl
  rotate_left
  · simp only [Act.put, List.setIfInBounds_toArray, List.set_cons_zero, List.set_cons_succ, i64_w, i32_w]
    rfl
  refine pure_ (i := 5) (N := some 9) (v := ?_) (a' := ?_) #[true, true, true, false, true, true, false, false, false, false, false, false] rfl rfl (by kernel_rfl) (fun _ _ _ h => h) (Or.inl ⟨by rfl, ?_⟩) ?_ ?_
  rotate_left
  · intro w'
    go_simp
    with_reducible rfl
  rotate_left
  · simp only [Act.put, List.setIfInBounds_toArray, List.set_cons_zero, List.set_cons_succ, i64_w, i32_w]
    rfl
  refine pure_ (i := 6) (N := some 10) (v := ?_) (a' := ?_) #[true, true, true, false, true, true, true, false, false, false, false, false] rfl rfl (by kernel_rfl) (fun _ _ _ h => h) (Or.inl ⟨by rfl, ?_⟩) ?_ ?_
  rotate_left
  · intro w'
    go_simp
    with_reducible rfl
  rotate_left
  · simp only [Act.put, List.setIfInBounds_toArray, List.set_cons_zero, List.set_cons_succ, i64_w, i32_w]
    rfl
  refine take_ (i := 3) (N := some 7) (v := ?_) (a' := ?_) #[true, true, true, true, true, true, true, false, false, false, false, false] rfl rfl (by kernel_rfl) (fun _ _ _ h => h) (Or.inl ⟨by rfl, ?_⟩) hHeld ?_ ?_
  rotate_left
  · rintro w' ⟨s0, s1, s2, s3, s4⟩
    go_simp
    with_reducible rfl
  rotate_left
  · simp only [Act.put, List.setIfInBounds_toArray, List.set_cons_zero, List.set_cons_succ, i64_w, i32_w]
    rfl
  refine take_ (i := 7) (N := some 11) (v := ?_) (a' := ?_) #[true, true, true, true, true, true, true, true, false, false, false, false] rfl rfl (by kernel_rfl) (fun _ _ _ h => h) (Or.inl ⟨by rfl, ?_⟩) hHeld ?_ ?_
  rotate_left
  · rintro w' ⟨s0, s1, s2, s3, s4⟩
    go_simp
    with_reducible rfl
  rotate_left
  · simp only [Act.put, List.setIfInBounds_toArray, List.set_cons_zero, List.set_cons_succ, i64_w, i32_w]
    rfl
  refine pure_ (i := 8) (N := some 12) (v := ?_) (a' := ?_) #[true, true, true, true, true, true, true, true, true, false, false, false] rfl rfl (by kernel_rfl) (fun _ _ _ h => h) (Or.inl ⟨by rfl, ?_⟩) ?_ ?_
  rotate_left
  · intro w'
    go_simp
    with_reducible rfl
  rotate_left
  · simp only [Act.put, List.setIfInBounds_toArray, List.set_cons_zero, List.set_cons_succ, i64_w, i32_w]
    rfl
  refine take_ (i := 9) (N := some 13) (v := ?_) (a' := ?_) #[true, true, true, true, true, true, true, true, true, true, false, false] rfl rfl (by kernel_rfl) (fun _ _ _ h => h) (Or.inl ⟨by rfl, ?_⟩) hHeld ?_ ?_
  rotate_left
  · rintro w' ⟨s0, s1, s2, s3, s4⟩
    go_simp
    with_reducible rfl
  rotate_left
  · simp only [Act.put, List.setIfInBounds_toArray, List.set_cons_zero, List.set_cons_succ, i64_w, i32_w]
    rfl
  refine one_ (i := 10) (N := some 2) #[true, true, true, true, true, true, true, true, true, true, true, false] rfl rfl (by kernel_rfl) (by decide) (fun K hK => ?_)
  refine value_ (w1 := ?_) (v := ?_) (by rfl) rfl ?_ ?_
  rotate_left 2
  · go_simp
    constructor
    · rfl
    · rfl
  refine hK.out _ _ ⟨(Below.cell (Below.alloc (Below.refl _ _) (Nat.le_refl _) _) (World.block_lt_of_cell? _ _ (hHeld.1))).trans (hHeld.1), (Below.cell (Below.alloc (Below.refl _ _) (Nat.le_refl _) _) (World.block_lt_of_cell? _ _ (hHeld.2.1))).trans (hHeld.2.1), (Below.cell (Below.alloc (Below.refl _ _) (Nat.le_refl _) _) (World.block_lt_of_cell? _ _ (hHeld.2.2.1))).trans (hHeld.2.2.1), (Below.cell (Below.alloc (Below.refl _ _) (Nat.le_refl _) _) (World.block_lt_of_cell? _ _ (hHeld.2.2.2.1))).trans (hHeld.2.2.2.1), (Below.cell (Below.alloc (Below.refl _ _) (Nat.le_refl _) _) (World.block_lt_of_cell? _ _ (hHeld.2.2.2.2))).trans (hHeld.2.2.2.2)⟩ (fun hHeld => ?_)
  clear hK K
  refine norm_ (a' := ?_) ?_ ?_
  rotate_left
  · show Act.put _ (some 2) _ = _
    simp only [Act.put, List.setIfInBounds_toArray, List.set_cons_zero, List.set_cons_succ, i64_w, i32_w]
    rfl
  refine last_ (i := 11) (N := none) #[true, true, true, true, true, true, true, true, true, true, true, true] rfl rfl (by kernel_rfl) (by decide) (fun K hK => ?_)
  refine skip_ (w1 := ?_) (by rfl) rfl ?_ ?_
  rotate_left
  · go_simp
    rfl
  refine hK.out _ _ ?_
  clear hK K
  refine done_ (by kernel_rfl) ?_

  have hgx : g < w2.heap.size := HI2.out.lt
  have HI3 := HI2.out.below ((Below.refl _ _).alloc (Nat.le_refl _) (.cells #[.int .i64 (rd_T88 p pc).f0, .int .i64 (rd_T88 p pc).f1, .int .i64 (rd_T88 p pc).f2] 88))
  have hbx := blk_new w2 (.cells #[.int .i64 (rd_T88 p pc).f0, .int .i64 (rd_T88 p pc).f1, .int .i64 (rd_T88 p pc).f2] 88)
  clear hHeld HI2
  generalize w2.alloc (.cells #[.int .i64 (rd_T88 p pc).f0, .int .i64 (rd_T88 p pc).f1, .int .i64 (rd_T88 p pc).f2] 88) = W3 at HI3 hbx ⊢
  generalize w2.heap.size = gx at hgx hbx ⊢
  clear hz0 hz2 hx0 hx1 hx2
  have HI4 := RunSt.set_2 HI3 (pc + 1)
  have hbx4 := blk_far hbx (p := ⟨g, 2, none⟩) (show gx ≠ g by omega) (.int .i64 (pc + 1))
  have hW : wrap64 (pc + 1) = pc + 1 := by unfold wrap64; omega
  clear d0 d1
  obtain ⟨A0, c0, A1, c1, A3, c3, A4, c4, hg, hge, h0, h1_, h3, h4, hn, hB⟩ := HI3
  have hz2 : W3.cell? ⟨g, 2, none⟩ = some (.int .i64 pc) := (blk_cell hg 2).trans rfl
  have hf2 := blk_frozen hg 2
  clear hg hge h0 h1_ h3 h4 hn hB hbx
  go_upto_region 2 with (fail)
  generalize W3.setCell ⟨g, 2, none⟩ (.int .i64 (pc + 1)) = W4 at HI4 hbx4 ⊢
  clear hz2 hf2
  have HI := Aside0.mk HI4
  have HX := Aside0.mk hbx4
  have hy0 : W4.cell? ⟨gx, 0, none⟩ = some (.int .i64 (rd_T88 p pc).f0) := (blk_cell hbx4 0).trans rfl
  have hy1 : W4.cell? ⟨gx, 1, none⟩ = some (.int .i64 (rd_T88 p pc).f1) := (blk_cell hbx4 1).trans rfl
  have hy2 : W4.cell? ⟨gx, 2, none⟩ = some (.int .i64 (rd_T88 p pc).f2) := (blk_cell hbx4 2).trans rfl
  obtain ⟨A0, c0, A1, c1, A3, c3, A4, c4, hg, hge, h0, h1_, h3, h4, hn, hB⟩ := HI4
  have hz1 : W4.cell? ⟨g, 1, none⟩ = some (.slice A1 word.length c1) := (blk_cell hg 1).trans rfl
  have hz2 : W4.cell? ⟨g, 2, none⟩ = some (.int .i64 (pc + 1)) := (blk_cell hg 2).trans rfl
  have hz3 : W4.cell? ⟨g, 3, none⟩ = some (.slice A3 pile.length c3) := (blk_cell hg 3).trans rfl
  have hz4 : W4.cell? ⟨g, 4, none⟩ = some (.slice A4 told.length c4) := (blk_cell hg 4).trans rfl
  have hz5 : W4.cell? ⟨g, 5, none⟩ = some (.int .i64 place) := (blk_cell hg 5).trans rfl
  have hf2 := blk_frozen hg 2
  have hf3 := blk_frozen hg 3
  have hf4 := blk_frozen hg 4
  have hf5 := blk_frozen hg 5
  have HG := Aside0.mk hg
  have HGE := Aside0.mk hge
  have G0 := Aside0.mk h0
  have G1 := Aside0.mk h1_
  have G3 := Aside0.mk h3
  have G4 := Aside0.mk h4
  have HN := Aside0.mk hn
  have HB := Aside0.mk hB
  have HGX := Aside0.mk hgx
  clear hg hge h0 h1_ h3 h4 hn hB hbx4 hgx hW
  have hc : (rd_T88 p pc).f0 = 1 ∨ (rd_T88 p pc).f0 = 2 ∨ (rd_T88 p pc).f0 = 3 ∨ (rd_T88 p pc).f0 = 4 ∨ (rd_T88 p pc).f0 = 5 ∨ (rd_T88 p pc).f0 = 6 ∨ (rd_T88 p pc).f0 = 7 ∨ (rd_T88 p pc).f0 = 8 ∨ (rd_T88 p pc).f0 = 9 ∨ (rd_T88 p pc).f0 = 10 := by have := HQ.out; omega
  rcases hc with h1 | h1 | h1 | h1 | h1 | h1 | h1 | h1 | h1 | h1
  · have H1 := Aside0.mk h1
    have hS := HS_.out
    simp only [stepF, h1, if_true, if_false, Int.reduceEq] at hS
    clear h1 HS_
    by_cases hl : (pile.length : Int) = 10000
    · rw [if_pos hl] at hS
      simp only [Prod.mk.injEq] at hS
      obtain ⟨rfl, rfl, rfl, rfl, rfl, rfl⟩ := hS
      clear HQ
      have e1 : ((rd_T88 p pc).f0 == 1) = true := beq_iff_eq.mpr H1.out
      have f1 : ((pile.length : Int) == 10000) = true := beq_iff_eq.mpr (hl)
      clear hl
      go_wp2_with (first | (go_at_call 83; (with_reducible refine (spec_l17Run_stop.callsR g p word _ pile told place code 3 false w0 _ (HI.out)).mono ?_); rintro e w5 ⟨rfl, hS⟩; have HS := Aside0.mk hS; clear hS))
      first | go_end0 | ((try simp only [Exit.inBlock, Exit.then]); refine bodyPost_ret (results_none rfl _ _ _) rfl ?_)
      exact ⟨rfl, HS.out⟩
    · rw [if_neg hl] at hS
      simp only [Prod.mk.injEq] at hS
      obtain ⟨rfl, rfl, rfl, rfl, rfl, rfl⟩ := hS
      clear HQ
      have e1 : ((rd_T88 p pc).f0 == 1) = true := beq_iff_eq.mpr H1.out
      have f1 : ((pile.length : Int) == 10000) = false := beq_eq_false_iff_ne.mpr (hl)
      clear hl
      go_wp2
      refine start_ (n := 12) (S := fun w' => w'.cell? ⟨g, 3, none⟩ = some (.slice A3 pile.length c3) ∧ w'.cell? ⟨gx, 1, none⟩ = some (.int .i64 (rd_T88 p pc).f1)) (ds := [8, 11]) #[false, false, false, false, false, false, false, false, false, false, false, false] (by kernel_rfl) rfl rfl ⟨hz3, hy1⟩ (fun hHeld => ?_)
      have HG' : Aside0 (W4.drew.heap[g]? = some (.cells #[.slice A0 p.length c0, .slice A1 word.length c1, .int .i64 (pc + 1), .slice A3 pile.length c3, .slice A4 told.length c4, .int .i64 place, .int .i64 code, .bool false] 109 (0, 0))) := ⟨HG.out⟩; have G3' := Aside0.mk (Kd.R_drew G3.out); have G4' := Aside0.mk (Kd.R_drew G4.out); have HB' : Aside0 (Below w0.heap.size w0 W4.drew) := ⟨HB.out.drew⟩; clear HG G3 G4 HB HI HX hz1 hz2 hz3 hz4 hz5 hf2 hf3 hf4 hf5 hy0 hy1 hy2; have HG := HG'; have G3 := G3'; have G4 := G4'; have HB := HB'; clear HG' G3' G4' HB'; generalize W4.drew = W4' at HG G3 G4 HB hHeld ⊢
      refine pure_ (i := 0) (N := some 33) (v := ?_) (a' := ?_) #[true, false, false, false, false, false, false, false, false, false, false, false] rfl rfl (by kernel_rfl) (fun _ _ _ h => h) (Or.inl ⟨by rfl, ?_⟩) ?_ ?_
      rotate_left
      · intro w'
        go_simp
        with_reducible rfl
      rotate_left
      · simp only [Act.put, List.setIfInBounds_toArray, List.set_cons_zero, List.set_cons_succ, i64_w, i32_w]
        rfl
      refine pure_ (i := 1) (N := some 34) (v := ?_) (a' := ?_) #[true, true, false, false, false, false, false, false, false, false, false, false] rfl rfl (by kernel_rfl) (fun _ _ _ h => h) (Or.inl ⟨by rfl, ?_⟩) ?_ ?_
      rotate_left
      · intro w'
        go_simp
        with_reducible rfl
      rotate_left
      · simp only [Act.put, List.setIfInBounds_toArray, List.set_cons_zero, List.set_cons_succ, i64_w, i32_w]
        rfl
      refine pure_ (i := 2) (N := some 35) (v := ?_) (a' := ?_) #[true, true, true, false, false, false, false, false, false, false, false, false] rfl rfl (by kernel_rfl) (fun _ _ _ h => h) (Or.inl ⟨by rfl, ?_⟩) ?_ ?_
      rotate_left
      · intro w'
        go_simp
        with_reducible rfl
      rotate_left
      · simp only [Act.put, List.setIfInBounds_toArray, List.set_cons_zero, List.set_cons_succ, i64_w, i32_w]
        rfl
      refine pure_ (i := 3) (N := some 36) (v := ?_) (a' := ?_) #[true, true, true, true, false, false, false, false, false, false, false, false] rfl rfl (by kernel_rfl) (fun _ _ _ h => h) (Or.inl ⟨by rfl, ?_⟩) ?_ ?_
      rotate_left
      · intro w'
        go_simp
        with_reducible rfl
      rotate_left
      · simp only [Act.put, List.setIfInBounds_toArray, List.set_cons_zero, List.set_cons_succ, i64_w, i32_w]
        rfl
      refine pure_ (i := 5) (N := some 38) (v := ?_) (a' := ?_) #[true, true, true, true, false, true, false, false, false, false, false, false] rfl rfl (by kernel_rfl) (fun _ _ _ h => h) (Or.inl ⟨by rfl, ?_⟩) ?_ ?_
      rotate_left
      · intro w'
        go_simp
        with_reducible rfl
      rotate_left
      · simp only [Act.put, List.setIfInBounds_toArray, List.set_cons_zero, List.set_cons_succ, i64_w, i32_w]
        rfl
      refine take_ (i := 4) (N := some 37) (v := ?_) (a' := ?_) #[true, true, true, true, true, true, false, false, false, false, false, false] rfl rfl (by kernel_rfl) (fun _ _ _ h => h) (Or.inl ⟨by rfl, ?_⟩) hHeld ?_ ?_
      rotate_left
      · rintro w' ⟨s0, s1⟩
        go_simp
        with_reducible rfl
      rotate_left
      · simp only [Act.put, List.setIfInBounds_toArray, List.set_cons_zero, List.set_cons_succ, i64_w, i32_w]
        rfl
      refine take_ (i := 6) (N := some 39) (v := ?_) (a' := ?_) #[true, true, true, true, true, true, true, false, false, false, false, false] rfl rfl (by kernel_rfl) (fun _ _ _ h => h) (Or.inl ⟨by rfl, ?_⟩) hHeld ?_ ?_
      rotate_left
      · rintro w' ⟨s0, s1⟩
        go_simp
        with_reducible rfl
      rotate_left
      · simp only [Act.put, List.setIfInBounds_toArray, List.set_cons_zero, List.set_cons_succ, i64_w, i32_w]
        rfl
      refine one_ (i := 7) (N := some 40) #[true, true, true, true, true, true, true, true, false, false, false, false] rfl rfl (by kernel_rfl) (by decide) (fun K hK => ?_)
      refine value_ (w1 := ?_) (v := ?_) (by rfl) rfl ?_ ?_
      rotate_left 2
      · go_simp
        constructor
        · rfl
        · rfl
      refine hK.out _ _ ⟨(Below.cell (Below.alloc (Below.refl _ _) (Nat.le_refl _) _) (World.block_lt_of_cell? _ _ (hHeld.1))).trans (hHeld.1), (Below.cell (Below.alloc (Below.refl _ _) (Nat.le_refl _) _) (World.block_lt_of_cell? _ _ (hHeld.2))).trans (hHeld.2)⟩ (fun hHeld => ?_)
      clear hK K
      refine norm_ (a' := ?_) ?_ ?_
      rotate_left
      · show Act.put _ (some 40) _ = _
        simp only [Act.put, List.setIfInBounds_toArray, List.set_cons_zero, List.set_cons_succ, i64_w, i32_w]
        rfl
      refine last_ (i := 8) (N := some 41) #[true, true, true, true, true, true, true, true, true, false, false, false] rfl rfl (by kernel_rfl) (by decide) (fun K hK => ?_)
      refine Kd.R_append_step (Kd.int .i64) (w0 := w0) w0.heap.size (by rfl) (.tmp 37) (.tmp 40) 62 3 (.int .i64 0) 8 rfl Try.underlying62 info3 rfl (by decide) (by omega) (.slice A3 pile.length c3) pile (rd_T88 p pc).f1 [.int .i64 (rd_T88 p pc).f1] (fun k => k ≠ g) (fun _ => False) rfl (by first | (go_simp; done) | (go_simp; rfl)) rfl (fun _ hk => hk.elim) ?aF ?aO ?aB ?aS ?aL ?_
      (case aF => exact fun k hk => by have := blk_lt HG.out; omega)
      (case aO => exact G3.out)
      (case aB => exact HB.out)
      (case aS => exact HB.out.size)
      (case aL => omega)
      intro v1 w5 ho1 hb1 hg1 hat1
      have hpp := RunSt.push_pile HG.out HGE.out G0.out G1.out G3.out G4.out HN.out ho1 hb1 hg1 hat1
      obtain ⟨⟨cs5, u5, hg5, hcu5⟩, hR5⟩ := hpp
      obtain ⟨A5, c5, rfl, -, -⟩ := Kd.R_reads ho1
      have hf5' := blk_frozen hg5 3
      rw [show (pile ++ [(rd_T88 p pc).f1]).length = pile.length + 1 from by simp] at hR5
      have HR5 := Aside0.mk hR5
      clear hR5 hg1 hat1 ho1 hb1
      refine hK.out _ _ ?_
      clear hK K
      refine norm_ (a' := ?_) ?_ ?_
      rotate_left
      · show Act.put _ (some 41) _ = _
        simp only [Act.put, List.setIfInBounds_toArray, List.set_cons_zero, List.set_cons_succ, i64_w, i32_w]
        rfl
      refine pure_ (i := 9) (N := some 42) (v := ?_) (a' := ?_) #[true, true, true, true, true, true, true, true, true, true, false, false] rfl rfl (by kernel_rfl) (fun _ _ _ h => h) (Or.inl ⟨by rfl, ?_⟩) ?_ ?_
      rotate_left
      · intro w'
        go_simp
        with_reducible rfl
      rotate_left
      · simp only [Act.put, List.setIfInBounds_toArray, List.set_cons_zero, List.set_cons_succ, i64_w, i32_w]
        rfl
      refine pure_ (i := 10) (N := some 43) (v := ?_) (a' := ?_) #[true, true, true, true, true, true, true, true, true, true, true, false] rfl rfl (by kernel_rfl) (fun _ _ _ h => h) (Or.inl ⟨by rfl, ?_⟩) ?_ ?_
      rotate_left
      · intro w'
        go_simp
        with_reducible rfl
      rotate_left
      · simp only [Act.put, List.setIfInBounds_toArray, List.set_cons_zero, List.set_cons_succ, i64_w, i32_w]
        rfl
      refine last_ (i := 11) (N := none) #[true, true, true, true, true, true, true, true, true, true, true, true] rfl rfl (by kernel_rfl) (by decide) (fun K hK => ?_)
      refine skip_ (w1 := ?_) (by rfl) rfl ?_ ?_
      rotate_left
      · go_simp
        rfl
      refine hK.out _ _ ?_
      clear hK K
      refine done_ (by kernel_rfl) ?_

      go_wp2
      first | go_end0 | ((try simp only [Exit.inBlock, Exit.then]); refine bodyPost_ret (results_none rfl _ _ _) rfl ?_)
      exact ⟨rfl, HR5.out⟩
  · have H1 := Aside0.mk h1
    have hS := HS_.out
    simp only [stepF, h1, if_true, if_false, Int.reduceEq] at hS
    clear h1 HS_
    by_cases hl : (pile.length : Int) ≤ (rd_T88 p pc).f1
    · rw [if_pos hl] at hS
      simp only [Prod.mk.injEq] at hS
      obtain ⟨rfl, rfl, rfl, rfl, rfl, rfl⟩ := hS
      clear HQ
      have e1 : ((rd_T88 p pc).f0 == 1) = false := beq_eq_false_iff_ne.mpr (by have := H1.out; omega)
      have e2 : ((rd_T88 p pc).f0 == 2) = true := beq_iff_eq.mpr H1.out
      have f1 : decide ((pile.length : Int) ≤ (rd_T88 p pc).f1) = true := decide_eq_true (hl)
      clear hl
      go_wp2
      go_quiet (fail)
      go_wp2_with (first | (go_at_call 83; (with_reducible refine (spec_l17Run_stop.callsR g p word _ pile told place code 4 false w0 _ (HI.out.drewN _)).mono ?_); rintro e w5 ⟨rfl, hS⟩; have HS := Aside0.mk hS; clear hS))
      first | go_end0 | ((try simp only [Exit.inBlock, Exit.then]); refine bodyPost_ret (results_none rfl _ _ _) rfl ?_)
      exact ⟨rfl, HS.out⟩
    · rw [if_neg hl] at hS
      simp only [Prod.mk.injEq] at hS
      obtain ⟨rfl, rfl, rfl, rfl, rfl, rfl⟩ := hS
      clear HQ
      have e1 : ((rd_T88 p pc).f0 == 1) = false := beq_eq_false_iff_ne.mpr (by have := H1.out; omega)
      have e2 : ((rd_T88 p pc).f0 == 2) = true := beq_iff_eq.mpr H1.out
      have f1 : decide ((pile.length : Int) ≤ (rd_T88 p pc).f1) = false := decide_eq_false (by omega)
      obtain ⟨ji, hji⟩ : ∃ j_ : Int, (pile.length : Int) - (rd_T88 p pc).f1 = j_ := ⟨_, rfl⟩
      have hjw : wrap64 ((pile.length : Int) - (rd_T88 p pc).f1) = ji := by rw [← hji]; unfold wrap64; omega
      have hjw2 : (IntKind.i64.wrap ((pile.length : Int) - (rd_T88 p pc).f1)) = ji := (i64_w _).trans hjw
      have hj0 : 0 ≤ ji := by omega
      have hj1 : ji ≤ (pile.length : Int) := by omega
      have hcap := (Kd.R_reads' G3.out).2.1
      have k0 := eq_true hj0
      have k1 : decide (0 ≤ ji) = true := decide_eq_true hj0
      have k2 := eq_true hj1
      have k3 : (ji ≤ (c3 : Int)) = True := eq_true (by omega)
      have k4 : (ji.toNat ≤ c3) = True := eq_true (by omega)
      have k5 : (c3 < ji.toNat) = False := eq_false (by omega)
      have k6 : ((c3 : Int) < ji) = False := eq_false (by omega)
      have k7 : (ji < 0) = False := eq_false (by omega)
      have HJ := Aside0.mk hji
      have HJ1 := Aside0.mk hj1
      have HCAP := Aside0.mk hcap
      clear hl hji hj0 hj1 hcap
      go_wp2
      go_quiet (fail)
      go_wp2
      refine start_ (n := 17) (S := fun w' => w'.cell? ⟨g, 3, none⟩ = some (.slice A3 pile.length c3) ∧ w'.cell? ⟨gx, 1, none⟩ = some (.int .i64 (rd_T88 p pc).f1)) (ds := [16]) #[false, false, false, false, false, false, false, false, false, false, false, false, false, false, false, false, false] (by kernel_rfl) rfl rfl ⟨hz3, hy1⟩ (fun hHeld => ?_)
      refine pure_ (i := 0) (N := some 56) (v := ?_) (a' := ?_) #[true, false, false, false, false, false, false, false, false, false, false, false, false, false, false, false, false] rfl rfl (by kernel_rfl) (fun _ _ _ h => h) (Or.inl ⟨by rfl, ?_⟩) ?_ ?_
      rotate_left
      · intro w'
        go_simp
        with_reducible rfl
      rotate_left
      · simp only [Act.put, List.setIfInBounds_toArray, List.set_cons_zero, List.set_cons_succ, i64_w, i32_w]
        rfl
      refine pure_ (i := 1) (N := some 57) (v := ?_) (a' := ?_) #[true, true, false, false, false, false, false, false, false, false, false, false, false, false, false, false, false] rfl rfl (by kernel_rfl) (fun _ _ _ h => h) (Or.inl ⟨by rfl, ?_⟩) ?_ ?_
      rotate_left
      · intro w'
        go_simp
        with_reducible rfl
      rotate_left
      · simp only [Act.put, List.setIfInBounds_toArray, List.set_cons_zero, List.set_cons_succ, i64_w, i32_w]
        rfl
      refine pure_ (i := 2) (N := some 58) (v := ?_) (a' := ?_) #[true, true, true, false, false, false, false, false, false, false, false, false, false, false, false, false, false] rfl rfl (by kernel_rfl) (fun _ _ _ h => h) (Or.inl ⟨by rfl, ?_⟩) ?_ ?_
      rotate_left
      · intro w'
        go_simp
        with_reducible rfl
      rotate_left
      · simp only [Act.put, List.setIfInBounds_toArray, List.set_cons_zero, List.set_cons_succ, i64_w, i32_w]
        rfl
      refine pure_ (i := 3) (N := some 59) (v := ?_) (a' := ?_) #[true, true, true, true, false, false, false, false, false, false, false, false, false, false, false, false, false] rfl rfl (by kernel_rfl) (fun _ _ _ h => h) (Or.inl ⟨by rfl, ?_⟩) ?_ ?_
      rotate_left
      · intro w'
        go_simp
        with_reducible rfl
      rotate_left
      · simp only [Act.put, List.setIfInBounds_toArray, List.set_cons_zero, List.set_cons_succ, i64_w, i32_w]
        rfl
      refine pure_ (i := 5) (N := some 61) (v := ?_) (a' := ?_) #[true, true, true, true, false, true, false, false, false, false, false, false, false, false, false, false, false] rfl rfl (by kernel_rfl) (fun _ _ _ h => h) (Or.inl ⟨by rfl, ?_⟩) ?_ ?_
      rotate_left
      · intro w'
        go_simp
        with_reducible rfl
      rotate_left
      · simp only [Act.put, List.setIfInBounds_toArray, List.set_cons_zero, List.set_cons_succ, i64_w, i32_w]
        rfl
      refine pure_ (i := 6) (N := some 62) (v := ?_) (a' := ?_) #[true, true, true, true, false, true, true, false, false, false, false, false, false, false, false, false, false] rfl rfl (by kernel_rfl) (fun _ _ _ h => h) (Or.inl ⟨by rfl, ?_⟩) ?_ ?_
      rotate_left
      · intro w'
        go_simp
        with_reducible rfl
      rotate_left
      · simp only [Act.put, List.setIfInBounds_toArray, List.set_cons_zero, List.set_cons_succ, i64_w, i32_w]
        rfl
      refine pure_ (i := 7) (N := some 63) (v := ?_) (a' := ?_) #[true, true, true, true, false, true, true, true, false, false, false, false, false, false, false, false, false] rfl rfl (by kernel_rfl) (fun _ _ _ h => h) (Or.inl ⟨by rfl, ?_⟩) ?_ ?_
      rotate_left
      · intro w'
        go_simp
        with_reducible rfl
      rotate_left
      · simp only [Act.put, List.setIfInBounds_toArray, List.set_cons_zero, List.set_cons_succ, i64_w, i32_w]
        rfl
      refine pure_ (i := 10) (N := some 66) (v := ?_) (a' := ?_) #[true, true, true, true, false, true, true, true, false, false, true, false, false, false, false, false, false] rfl rfl (by kernel_rfl) (fun _ _ _ h => h) (Or.inl ⟨by rfl, ?_⟩) ?_ ?_
      rotate_left
      · intro w'
        go_simp
        with_reducible rfl
      rotate_left
      · simp only [Act.put, List.setIfInBounds_toArray, List.set_cons_zero, List.set_cons_succ, i64_w, i32_w]
        rfl
      refine take_ (i := 4) (N := some 60) (v := ?_) (a' := ?_) #[true, true, true, true, true, true, true, true, false, false, true, false, false, false, false, false, false] rfl rfl (by kernel_rfl) (fun _ _ _ h => h) (Or.inl ⟨by rfl, ?_⟩) hHeld ?_ ?_
      rotate_left
      · rintro w' ⟨s0, s1⟩
        go_simp
        with_reducible rfl
      rotate_left
      · simp only [Act.put, List.setIfInBounds_toArray, List.set_cons_zero, List.set_cons_succ, i64_w, i32_w]
        rfl
      refine take_ (i := 8) (N := some 64) (v := ?_) (a' := ?_) #[true, true, true, true, true, true, true, true, true, false, true, false, false, false, false, false, false] rfl rfl (by kernel_rfl) (fun _ _ _ h => h) (Or.inl ⟨by rfl, ?_⟩) hHeld ?_ ?_
      rotate_left
      · rintro w' ⟨s0, s1⟩
        go_simp
        with_reducible rfl
      rotate_left
      · simp only [Act.put, List.setIfInBounds_toArray, List.set_cons_zero, List.set_cons_succ, i64_w, i32_w]
        rfl
      refine pure_ (i := 9) (N := some 65) (v := ?_) (a' := ?_) #[true, true, true, true, true, true, true, true, true, true, true, false, false, false, false, false, false] rfl rfl (by kernel_rfl) (fun _ _ _ h => h) (Or.inl ⟨by rfl, ?_⟩) ?_ ?_
      rotate_left
      · intro w'
        go_simp
        with_reducible rfl
      rotate_left
      · simp only [Act.put, List.setIfInBounds_toArray, List.set_cons_zero, List.set_cons_succ, i64_w, i32_w]
        rfl
      refine take_ (i := 11) (N := some 67) (v := ?_) (a' := ?_) #[true, true, true, true, true, true, true, true, true, true, true, true, false, false, false, false, false] rfl rfl (by kernel_rfl) (fun _ _ _ h => h) (Or.inl ⟨by rfl, ?_⟩) hHeld ?_ ?_
      rotate_left
      · rintro w' ⟨s0, s1⟩
        go_simp
        with_reducible rfl
      rotate_left
      · simp only [Act.put, List.setIfInBounds_toArray, List.set_cons_zero, List.set_cons_succ, i64_w, i32_w]
        rfl
      refine pure_ (i := 12) (N := some 68) (v := ?_) (a' := ?_) #[true, true, true, true, true, true, true, true, true, true, true, true, true, false, false, false, false] rfl rfl (by kernel_rfl) (fun _ _ _ h => h) (Or.inl ⟨by rfl, ?_⟩) ?_ ?_
      rotate_left
      · intro w'
        go_simp
        with_reducible rfl
      rotate_left
      · simp only [Act.put, List.setIfInBounds_toArray, List.set_cons_zero, List.set_cons_succ, i64_w, i32_w]
        rfl
      refine pure_ (i := 13) (N := some 69) (v := ?_) (a' := ?_) #[true, true, true, true, true, true, true, true, true, true, true, true, true, true, false, false, false] rfl rfl (by kernel_rfl) (fun _ _ _ h => h) (Or.inl ⟨by rfl, ?_⟩) ?_ ?_
      rotate_left
      · intro w'
        go_simp
        with_reducible rfl
      rotate_left
      · simp only [Act.put, List.setIfInBounds_toArray, List.set_cons_zero, List.set_cons_succ, i64_w, i32_w]
        rfl
      refine pure_ (i := 14) (N := some 70) (v := ?_) (a' := ?_) #[true, true, true, true, true, true, true, true, true, true, true, true, true, true, true, false, false] rfl rfl (by kernel_rfl) (fun _ _ _ h => h) (Or.inl ⟨by rfl, ?_⟩) ?_ ?_
      rotate_left
      · intro w'
        go_simp
        with_reducible rfl
      rotate_left
      · simp only [Act.put, List.setIfInBounds_toArray, List.set_cons_zero, List.set_cons_succ, i64_w, i32_w]
        rfl
      refine pure_ (i := 15) (N := some 71) (v := ?_) (a' := ?_) #[true, true, true, true, true, true, true, true, true, true, true, true, true, true, true, true, false] rfl rfl (by kernel_rfl) (fun _ _ _ h => h) (Or.inl ⟨by rfl, ?_⟩) ?_ ?_
      rotate_left
      · intro w'
        go_simp
        with_reducible rfl
      rotate_left
      · simp only [Act.put, List.setIfInBounds_toArray, List.set_cons_zero, List.set_cons_succ, i64_w, i32_w]
        rfl
      refine last_ (i := 16) (N := none) #[true, true, true, true, true, true, true, true, true, true, true, true, true, true, true, true, true] rfl rfl (by kernel_rfl) (by decide) (fun K hK => ?_)
      refine skip_ (w1 := ?_) (by rfl) rfl ?_ ?_
      rotate_left
      · go_simp
        rfl
      refine hK.out _ _ ?_
      clear hK K
      refine done_ (by kernel_rfl) ?_

      go_wp2
      first | go_end0 | ((try simp only [Exit.inBlock, Exit.then]); refine bodyPost_ret (results_none rfl _ _ _) rfl ?_)
      rw [HJ.out]
      exact ⟨rfl, RunSt.cut_ (W := W4.drewN _) HG.out HGE.out G0.out G1.out (Kd.R_drewN G3.out _) (Kd.R_drewN G4.out _) HN.out (pw_below_drewN HB.out _) (by have := HJ1.out; omega)⟩
  · have H1 := Aside0.mk h1
    have hS := HS_.out
    simp only [stepF, h1, if_true, if_false, Int.reduceEq] at hS
    clear h1 HS_
    by_cases hl : (told.length : Int) = 10000
    · rw [if_pos hl] at hS
      simp only [Prod.mk.injEq] at hS
      obtain ⟨rfl, rfl, rfl, rfl, rfl, rfl⟩ := hS
      clear HQ
      have e1 : ((rd_T88 p pc).f0 == 1) = false := beq_eq_false_iff_ne.mpr (by have := H1.out; omega)
      have e2 : ((rd_T88 p pc).f0 == 2) = false := beq_eq_false_iff_ne.mpr (by have := H1.out; omega)
      have e3 : ((rd_T88 p pc).f0 == 3) = true := beq_iff_eq.mpr H1.out
      have f1 : ((told.length : Int) == 10000) = true := beq_iff_eq.mpr (hl)
      clear hl
      go_wp2_with (first | (go_at_call 83; (with_reducible refine (spec_l17Run_stop.callsR g p word _ pile told place code 3 false w0 _ (HI.out)).mono ?_); rintro e w5 ⟨rfl, hS⟩; have HS := Aside0.mk hS; clear hS))
      first | go_end0 | ((try simp only [Exit.inBlock, Exit.then]); refine bodyPost_ret (results_none rfl _ _ _) rfl ?_)
      exact ⟨rfl, HS.out⟩
    · rw [if_neg hl] at hS
      simp only [Prod.mk.injEq] at hS
      obtain ⟨rfl, rfl, rfl, rfl, rfl, rfl⟩ := hS
      clear HQ
      have e1 : ((rd_T88 p pc).f0 == 1) = false := beq_eq_false_iff_ne.mpr (by have := H1.out; omega)
      have e2 : ((rd_T88 p pc).f0 == 2) = false := beq_eq_false_iff_ne.mpr (by have := H1.out; omega)
      have e3 : ((rd_T88 p pc).f0 == 3) = true := beq_iff_eq.mpr H1.out
      have f1 : ((told.length : Int) == 10000) = false := beq_eq_false_iff_ne.mpr (hl)
      clear hl
      go_wp2
      refine start_ (n := 12) (S := fun w' => w'.cell? ⟨g, 4, none⟩ = some (.slice A4 told.length c4) ∧ w'.cell? ⟨gx, 1, none⟩ = some (.int .i64 (rd_T88 p pc).f1)) (ds := [8, 11]) #[false, false, false, false, false, false, false, false, false, false, false, false] (by kernel_rfl) rfl rfl ⟨hz4, hy1⟩ (fun hHeld => ?_)
      have HG' : Aside0 (W4.drew.heap[g]? = some (.cells #[.slice A0 p.length c0, .slice A1 word.length c1, .int .i64 (pc + 1), .slice A3 pile.length c3, .slice A4 told.length c4, .int .i64 place, .int .i64 code, .bool false] 109 (0, 0))) := ⟨HG.out⟩; have G3' := Aside0.mk (Kd.R_drew G3.out); have G4' := Aside0.mk (Kd.R_drew G4.out); have HB' : Aside0 (Below w0.heap.size w0 W4.drew) := ⟨HB.out.drew⟩; clear HG G3 G4 HB HI HX hz1 hz2 hz3 hz4 hz5 hf2 hf3 hf4 hf5 hy0 hy1 hy2; have HG := HG'; have G3 := G3'; have G4 := G4'; have HB := HB'; clear HG' G3' G4' HB'; generalize W4.drew = W4' at HG G3 G4 HB hHeld ⊢
      refine pure_ (i := 0) (N := some 82) (v := ?_) (a' := ?_) #[true, false, false, false, false, false, false, false, false, false, false, false] rfl rfl (by kernel_rfl) (fun _ _ _ h => h) (Or.inl ⟨by rfl, ?_⟩) ?_ ?_
      rotate_left
      · intro w'
        go_simp
        with_reducible rfl
      rotate_left
      · simp only [Act.put, List.setIfInBounds_toArray, List.set_cons_zero, List.set_cons_succ, i64_w, i32_w]
        rfl
      refine pure_ (i := 1) (N := some 83) (v := ?_) (a' := ?_) #[true, true, false, false, false, false, false, false, false, false, false, false] rfl rfl (by kernel_rfl) (fun _ _ _ h => h) (Or.inl ⟨by rfl, ?_⟩) ?_ ?_
      rotate_left
      · intro w'
        go_simp
        with_reducible rfl
      rotate_left
      · simp only [Act.put, List.setIfInBounds_toArray, List.set_cons_zero, List.set_cons_succ, i64_w, i32_w]
        rfl
      refine pure_ (i := 2) (N := some 84) (v := ?_) (a' := ?_) #[true, true, true, false, false, false, false, false, false, false, false, false] rfl rfl (by kernel_rfl) (fun _ _ _ h => h) (Or.inl ⟨by rfl, ?_⟩) ?_ ?_
      rotate_left
      · intro w'
        go_simp
        with_reducible rfl
      rotate_left
      · simp only [Act.put, List.setIfInBounds_toArray, List.set_cons_zero, List.set_cons_succ, i64_w, i32_w]
        rfl
      refine pure_ (i := 3) (N := some 85) (v := ?_) (a' := ?_) #[true, true, true, true, false, false, false, false, false, false, false, false] rfl rfl (by kernel_rfl) (fun _ _ _ h => h) (Or.inl ⟨by rfl, ?_⟩) ?_ ?_
      rotate_left
      · intro w'
        go_simp
        with_reducible rfl
      rotate_left
      · simp only [Act.put, List.setIfInBounds_toArray, List.set_cons_zero, List.set_cons_succ, i64_w, i32_w]
        rfl
      refine pure_ (i := 5) (N := some 87) (v := ?_) (a' := ?_) #[true, true, true, true, false, true, false, false, false, false, false, false] rfl rfl (by kernel_rfl) (fun _ _ _ h => h) (Or.inl ⟨by rfl, ?_⟩) ?_ ?_
      rotate_left
      · intro w'
        go_simp
        with_reducible rfl
      rotate_left
      · simp only [Act.put, List.setIfInBounds_toArray, List.set_cons_zero, List.set_cons_succ, i64_w, i32_w]
        rfl
      refine take_ (i := 4) (N := some 86) (v := ?_) (a' := ?_) #[true, true, true, true, true, true, false, false, false, false, false, false] rfl rfl (by kernel_rfl) (fun _ _ _ h => h) (Or.inl ⟨by rfl, ?_⟩) hHeld ?_ ?_
      rotate_left
      · rintro w' ⟨s0, s1⟩
        go_simp
        with_reducible rfl
      rotate_left
      · simp only [Act.put, List.setIfInBounds_toArray, List.set_cons_zero, List.set_cons_succ, i64_w, i32_w]
        rfl
      refine take_ (i := 6) (N := some 88) (v := ?_) (a' := ?_) #[true, true, true, true, true, true, true, false, false, false, false, false] rfl rfl (by kernel_rfl) (fun _ _ _ h => h) (Or.inl ⟨by rfl, ?_⟩) hHeld ?_ ?_
      rotate_left
      · rintro w' ⟨s0, s1⟩
        go_simp
        with_reducible rfl
      rotate_left
      · simp only [Act.put, List.setIfInBounds_toArray, List.set_cons_zero, List.set_cons_succ, i64_w, i32_w]
        rfl
      refine one_ (i := 7) (N := some 89) #[true, true, true, true, true, true, true, true, false, false, false, false] rfl rfl (by kernel_rfl) (by decide) (fun K hK => ?_)
      refine value_ (w1 := ?_) (v := ?_) (by rfl) rfl ?_ ?_
      rotate_left 2
      · go_simp
        constructor
        · rfl
        · rfl
      refine hK.out _ _ ⟨(Below.cell (Below.alloc (Below.refl _ _) (Nat.le_refl _) _) (World.block_lt_of_cell? _ _ (hHeld.1))).trans (hHeld.1), (Below.cell (Below.alloc (Below.refl _ _) (Nat.le_refl _) _) (World.block_lt_of_cell? _ _ (hHeld.2))).trans (hHeld.2)⟩ (fun hHeld => ?_)
      clear hK K
      refine norm_ (a' := ?_) ?_ ?_
      rotate_left
      · show Act.put _ (some 89) _ = _
        simp only [Act.put, List.setIfInBounds_toArray, List.set_cons_zero, List.set_cons_succ, i64_w, i32_w]
        rfl
      refine last_ (i := 8) (N := some 90) #[true, true, true, true, true, true, true, true, true, false, false, false] rfl rfl (by kernel_rfl) (by decide) (fun K hK => ?_)
      refine Kd.R_append_step (Kd.int .i64) (w0 := w0) w0.heap.size (by rfl) (.tmp 86) (.tmp 89) 62 3 (.int .i64 0) 8 rfl Try.underlying62 info3 rfl (by decide) (by omega) (.slice A4 told.length c4) told (rd_T88 p pc).f1 [.int .i64 (rd_T88 p pc).f1] (fun k => k ≠ g) (fun _ => False) rfl (by first | (go_simp; done) | (go_simp; rfl)) rfl (fun _ hk => hk.elim) ?aF ?aO ?aB ?aS ?aL ?_
      (case aF => exact fun k hk => by have := blk_lt HG.out; omega)
      (case aO => exact G4.out)
      (case aB => exact HB.out)
      (case aS => exact HB.out.size)
      (case aL => omega)
      intro v1 w5 ho1 hb1 hg1 hat1
      have hpp := RunSt.push_told HG.out HGE.out G0.out G1.out G3.out G4.out HN.out ho1 hb1 hg1 hat1
      obtain ⟨⟨cs5, u5, hg5, hcu5⟩, hR5⟩ := hpp
      obtain ⟨A5, c5, rfl, -, -⟩ := Kd.R_reads ho1
      have hf5' := blk_frozen hg5 4
      rw [show (told ++ [(rd_T88 p pc).f1]).length = told.length + 1 from by simp] at hR5
      have HR5 := Aside0.mk hR5
      clear hR5 hg1 hat1 ho1 hb1
      refine hK.out _ _ ?_
      clear hK K
      refine norm_ (a' := ?_) ?_ ?_
      rotate_left
      · show Act.put _ (some 90) _ = _
        simp only [Act.put, List.setIfInBounds_toArray, List.set_cons_zero, List.set_cons_succ, i64_w, i32_w]
        rfl
      refine pure_ (i := 9) (N := some 91) (v := ?_) (a' := ?_) #[true, true, true, true, true, true, true, true, true, true, false, false] rfl rfl (by kernel_rfl) (fun _ _ _ h => h) (Or.inl ⟨by rfl, ?_⟩) ?_ ?_
      rotate_left
      · intro w'
        go_simp
        with_reducible rfl
      rotate_left
      · simp only [Act.put, List.setIfInBounds_toArray, List.set_cons_zero, List.set_cons_succ, i64_w, i32_w]
        rfl
      refine pure_ (i := 10) (N := some 92) (v := ?_) (a' := ?_) #[true, true, true, true, true, true, true, true, true, true, true, false] rfl rfl (by kernel_rfl) (fun _ _ _ h => h) (Or.inl ⟨by rfl, ?_⟩) ?_ ?_
      rotate_left
      · intro w'
        go_simp
        with_reducible rfl
      rotate_left
      · simp only [Act.put, List.setIfInBounds_toArray, List.set_cons_zero, List.set_cons_succ, i64_w, i32_w]
        rfl
      refine last_ (i := 11) (N := none) #[true, true, true, true, true, true, true, true, true, true, true, true] rfl rfl (by kernel_rfl) (by decide) (fun K hK => ?_)
      refine skip_ (w1 := ?_) (by rfl) rfl ?_ ?_
      rotate_left
      · go_simp
        rfl
      refine hK.out _ _ ?_
      clear hK K
      refine done_ (by kernel_rfl) ?_

      go_wp2
      first | go_end0 | ((try simp only [Exit.inBlock, Exit.then]); refine bodyPost_ret (results_none rfl _ _ _) rfl ?_)
      exact ⟨rfl, HR5.out⟩
  · have H1 := Aside0.mk h1
    have hS := HS_.out
    simp only [stepF, h1, if_true, if_false, Int.reduceEq] at hS
    clear h1 HS_
    by_cases hl : place = (word.length : Int)
    · rw [if_pos hl] at hS
      simp only [Prod.mk.injEq] at hS
      obtain ⟨rfl, rfl, rfl, rfl, rfl, rfl⟩ := hS
      clear HQ
      have e1 : ((rd_T88 p pc).f0 == 1) = false := beq_eq_false_iff_ne.mpr (by have := H1.out; omega)
      have e2 : ((rd_T88 p pc).f0 == 2) = false := beq_eq_false_iff_ne.mpr (by have := H1.out; omega)
      have e3 : ((rd_T88 p pc).f0 == 3) = false := beq_eq_false_iff_ne.mpr (by have := H1.out; omega)
      have e4 : ((rd_T88 p pc).f0 == 4) = true := beq_iff_eq.mpr H1.out
      have f1 : (place == (word.length : Int)) = true := beq_iff_eq.mpr (hl)
      clear hl
      go_wp2
      go_quiet (fail)
      go_wp2_with (first | (go_at_call 83; (with_reducible refine (spec_l17Run_stop.callsR g p word _ pile told place code 2 false w0 _ (HI.out.drewN _)).mono ?_); rintro e w5 ⟨rfl, hS⟩; have HS := Aside0.mk hS; clear hS))
      first | go_end0 | ((try simp only [Exit.inBlock, Exit.then]); refine bodyPost_ret (results_none rfl _ _ _) rfl ?_)
      exact ⟨rfl, HS.out⟩
    · rw [if_neg hl] at hS
      simp only [Prod.mk.injEq] at hS
      obtain ⟨rfl, rfl, rfl, rfl, rfl, rfl⟩ := hS
      clear HQ
      have e1 : ((rd_T88 p pc).f0 == 1) = false := beq_eq_false_iff_ne.mpr (by have := H1.out; omega)
      have e2 : ((rd_T88 p pc).f0 == 2) = false := beq_eq_false_iff_ne.mpr (by have := H1.out; omega)
      have e3 : ((rd_T88 p pc).f0 == 3) = false := beq_eq_false_iff_ne.mpr (by have := H1.out; omega)
      have e4 : ((rd_T88 p pc).f0 == 4) = true := beq_iff_eq.mpr H1.out
      have f1 : (place == (word.length : Int)) = false := beq_eq_false_iff_ne.mpr (hl)
      have hW : wrap64 (place + 1) = place + 1 := by unfold wrap64; omega
      clear hl
      go_wp2
      go_quiet (fail)
      go_wp2
      first | go_end0 | ((try simp only [Exit.inBlock, Exit.then]); refine bodyPost_ret (results_none rfl _ _ _) rfl ?_)
      exact ⟨rfl, (HI.out.drewN _).set_5 _⟩
  · have H1 := Aside0.mk h1
    have hS := HS_.out
    simp only [stepF, h1, if_true, if_false, Int.reduceEq] at hS
    clear h1 HS_
    simp only [Prod.mk.injEq] at hS
    obtain ⟨rfl, rfl, rfl, rfl, rfl, rfl⟩ := hS
    clear HQ
    have e1 : ((rd_T88 p pc).f0 == 1) = false := beq_eq_false_iff_ne.mpr (by have := H1.out; omega)
    have e2 : ((rd_T88 p pc).f0 == 2) = false := beq_eq_false_iff_ne.mpr (by have := H1.out; omega)
    have e3 : ((rd_T88 p pc).f0 == 3) = false := beq_eq_false_iff_ne.mpr (by have := H1.out; omega)
    have e4 : ((rd_T88 p pc).f0 == 4) = false := beq_eq_false_iff_ne.mpr (by have := H1.out; omega)
    have e5 : ((rd_T88 p pc).f0 == 5) = true := beq_iff_eq.mpr H1.out
    go_wp2
    first | go_end0 | ((try simp only [Exit.inBlock, Exit.then]); refine bodyPost_ret (results_none rfl _ _ _) rfl ?_)
    exact ⟨rfl, HI.out.set_2 _⟩
  · have H1 := Aside0.mk h1
    have hS := HS_.out
    simp only [stepF, h1, if_true, if_false, Int.reduceEq] at hS
    clear h1 HS_
    by_cases hl : place < (word.length : Int)
    · by_cases hl2 : rd word place = (rd_T88 p pc).f1
      · rw [if_pos ⟨hl, hl2⟩] at hS
        simp only [Prod.mk.injEq] at hS
        obtain ⟨rfl, rfl, rfl, rfl, rfl, rfl⟩ := hS
        clear HQ
        have e1 : ((rd_T88 p pc).f0 == 1) = false := beq_eq_false_iff_ne.mpr (by have := H1.out; omega)
        have e2 : ((rd_T88 p pc).f0 == 2) = false := beq_eq_false_iff_ne.mpr (by have := H1.out; omega)
        have e3 : ((rd_T88 p pc).f0 == 3) = false := beq_eq_false_iff_ne.mpr (by have := H1.out; omega)
        have e4 : ((rd_T88 p pc).f0 == 4) = false := beq_eq_false_iff_ne.mpr (by have := H1.out; omega)
        have e5 : ((rd_T88 p pc).f0 == 5) = false := beq_eq_false_iff_ne.mpr (by have := H1.out; omega)
        have e6 : ((rd_T88 p pc).f0 == 6) = true := beq_iff_eq.mpr H1.out
        have f1 : decide (place < (word.length : Int)) = true := decide_eq_true (by omega)
        have f2 : (rd word place == (rd_T88 p pc).f1) = true := beq_iff_eq.mpr (by rw [hl2])
        obtain ⟨ad1, e_, hw0⟩ := Kd.at_int G1.out place q5 (by omega)
        cases e_
        replace hw0 := (HB.out.cell (World.block_lt_of_cell? w0 _ hw0)).trans hw0
        have p0 := eq_true q5
        have p1 : (place < (word.length : Int)) = True := eq_true (by omega)
        have p2 : decide (0 ≤ place) = true := decide_eq_true q5
        clear hl hl2
        go_wp2
        go_quiet (fail)
        go_wp2
        first | go_end0 | ((try simp only [Exit.inBlock, Exit.then]); refine bodyPost_ret (results_none rfl _ _ _) rfl ?_)
        exact ⟨rfl, (HI.out.drewN _).set_2 _⟩
      · rw [if_neg (fun h => hl2 h.2)] at hS
        simp only [Prod.mk.injEq] at hS
        obtain ⟨rfl, rfl, rfl, rfl, rfl, rfl⟩ := hS
        clear HQ
        have e1 : ((rd_T88 p pc).f0 == 1) = false := beq_eq_false_iff_ne.mpr (by have := H1.out; omega)
        have e2 : ((rd_T88 p pc).f0 == 2) = false := beq_eq_false_iff_ne.mpr (by have := H1.out; omega)
        have e3 : ((rd_T88 p pc).f0 == 3) = false := beq_eq_false_iff_ne.mpr (by have := H1.out; omega)
        have e4 : ((rd_T88 p pc).f0 == 4) = false := beq_eq_false_iff_ne.mpr (by have := H1.out; omega)
        have e5 : ((rd_T88 p pc).f0 == 5) = false := beq_eq_false_iff_ne.mpr (by have := H1.out; omega)
        have e6 : ((rd_T88 p pc).f0 == 6) = true := beq_iff_eq.mpr H1.out
        have f1 : decide (place < (word.length : Int)) = true := decide_eq_true (by omega)
        have f2 : (rd word place == (rd_T88 p pc).f1) = false := beq_eq_false_iff_ne.mpr (hl2)
        obtain ⟨ad1, e_, hw0⟩ := Kd.at_int G1.out place q5 (by omega)
        cases e_
        replace hw0 := (HB.out.cell (World.block_lt_of_cell? w0 _ hw0)).trans hw0
        have p0 := eq_true q5
        have p1 : (place < (word.length : Int)) = True := eq_true (by omega)
        have p2 : decide (0 ≤ place) = true := decide_eq_true q5
        clear hl hl2
        go_wp2
        go_quiet (fail)
        go_wp2
        first | go_end0 | ((try simp only [Exit.inBlock, Exit.then]); refine bodyPost_ret (results_none rfl _ _ _) rfl ?_)
        exact ⟨rfl, HI.out.drewN _⟩
    · rw [if_neg (fun h => hl h.1)] at hS
      simp only [Prod.mk.injEq] at hS
      obtain ⟨rfl, rfl, rfl, rfl, rfl, rfl⟩ := hS
      clear HQ
      have e1 : ((rd_T88 p pc).f0 == 1) = false := beq_eq_false_iff_ne.mpr (by have := H1.out; omega)
      have e2 : ((rd_T88 p pc).f0 == 2) = false := beq_eq_false_iff_ne.mpr (by have := H1.out; omega)
      have e3 : ((rd_T88 p pc).f0 == 3) = false := beq_eq_false_iff_ne.mpr (by have := H1.out; omega)
      have e4 : ((rd_T88 p pc).f0 == 4) = false := beq_eq_false_iff_ne.mpr (by have := H1.out; omega)
      have e5 : ((rd_T88 p pc).f0 == 5) = false := beq_eq_false_iff_ne.mpr (by have := H1.out; omega)
      have e6 : ((rd_T88 p pc).f0 == 6) = true := beq_iff_eq.mpr H1.out
      have f1 : decide (place < (word.length : Int)) = false := decide_eq_false (by omega)
      clear hl
      go_wp2
      go_quiet (fail)
      go_wp2
      first | go_end0 | ((try simp only [Exit.inBlock, Exit.then]); refine bodyPost_ret (results_none rfl _ _ _) rfl ?_)
      exact ⟨rfl, HI.out.drewN _⟩
  · have H1 := Aside0.mk h1
    have hS := HS_.out
    simp only [stepF, h1, if_true, if_false, Int.reduceEq] at hS
    clear h1 HS_
    by_cases hl : place = (word.length : Int)
    · rw [if_pos hl] at hS
      simp only [Prod.mk.injEq] at hS
      obtain ⟨rfl, rfl, rfl, rfl, rfl, rfl⟩ := hS
      clear HQ
      have e1 : ((rd_T88 p pc).f0 == 1) = false := beq_eq_false_iff_ne.mpr (by have := H1.out; omega)
      have e2 : ((rd_T88 p pc).f0 == 2) = false := beq_eq_false_iff_ne.mpr (by have := H1.out; omega)
      have e3 : ((rd_T88 p pc).f0 == 3) = false := beq_eq_false_iff_ne.mpr (by have := H1.out; omega)
      have e4 : ((rd_T88 p pc).f0 == 4) = false := beq_eq_false_iff_ne.mpr (by have := H1.out; omega)
      have e5 : ((rd_T88 p pc).f0 == 5) = false := beq_eq_false_iff_ne.mpr (by have := H1.out; omega)
      have e6 : ((rd_T88 p pc).f0 == 6) = false := beq_eq_false_iff_ne.mpr (by have := H1.out; omega)
      have e7 : ((rd_T88 p pc).f0 == 7) = true := beq_iff_eq.mpr H1.out
      have f1 : (place == (word.length : Int)) = true := beq_iff_eq.mpr (hl)
      clear hl
      go_wp2
      go_quiet (fail)
      go_wp2
      first | go_end0 | ((try simp only [Exit.inBlock, Exit.then]); refine bodyPost_ret (results_none rfl _ _ _) rfl ?_)
      exact ⟨rfl, (HI.out.drewN _).set_2 _⟩
    · rw [if_neg hl] at hS
      simp only [Prod.mk.injEq] at hS
      obtain ⟨rfl, rfl, rfl, rfl, rfl, rfl⟩ := hS
      clear HQ
      have e1 : ((rd_T88 p pc).f0 == 1) = false := beq_eq_false_iff_ne.mpr (by have := H1.out; omega)
      have e2 : ((rd_T88 p pc).f0 == 2) = false := beq_eq_false_iff_ne.mpr (by have := H1.out; omega)
      have e3 : ((rd_T88 p pc).f0 == 3) = false := beq_eq_false_iff_ne.mpr (by have := H1.out; omega)
      have e4 : ((rd_T88 p pc).f0 == 4) = false := beq_eq_false_iff_ne.mpr (by have := H1.out; omega)
      have e5 : ((rd_T88 p pc).f0 == 5) = false := beq_eq_false_iff_ne.mpr (by have := H1.out; omega)
      have e6 : ((rd_T88 p pc).f0 == 6) = false := beq_eq_false_iff_ne.mpr (by have := H1.out; omega)
      have e7 : ((rd_T88 p pc).f0 == 7) = true := beq_iff_eq.mpr H1.out
      have f1 : (place == (word.length : Int)) = false := beq_eq_false_iff_ne.mpr (hl)
      clear hl
      go_wp2
      go_quiet (fail)
      go_wp2
      first | go_end0 | ((try simp only [Exit.inBlock, Exit.then]); refine bodyPost_ret (results_none rfl _ _ _) rfl ?_)
      exact ⟨rfl, (HI.out.drewN _)⟩
  · have H1 := Aside0.mk h1
    have hS := HS_.out
    simp only [stepF, h1, if_true, if_false, Int.reduceEq] at hS
    clear h1 HS_
    by_cases hl : 0 < (pile.length : Int)
    · by_cases hl2 : rd pile ((pile.length : Int) - 1) = (rd_T88 p pc).f1
      · rw [if_pos ⟨hl, hl2⟩] at hS
        simp only [Prod.mk.injEq] at hS
        obtain ⟨rfl, rfl, rfl, rfl, rfl, rfl⟩ := hS
        clear HQ
        have e1 : ((rd_T88 p pc).f0 == 1) = false := beq_eq_false_iff_ne.mpr (by have := H1.out; omega)
        have e2 : ((rd_T88 p pc).f0 == 2) = false := beq_eq_false_iff_ne.mpr (by have := H1.out; omega)
        have e3 : ((rd_T88 p pc).f0 == 3) = false := beq_eq_false_iff_ne.mpr (by have := H1.out; omega)
        have e4 : ((rd_T88 p pc).f0 == 4) = false := beq_eq_false_iff_ne.mpr (by have := H1.out; omega)
        have e5 : ((rd_T88 p pc).f0 == 5) = false := beq_eq_false_iff_ne.mpr (by have := H1.out; omega)
        have e6 : ((rd_T88 p pc).f0 == 6) = false := beq_eq_false_iff_ne.mpr (by have := H1.out; omega)
        have e7 : ((rd_T88 p pc).f0 == 7) = false := beq_eq_false_iff_ne.mpr (by have := H1.out; omega)
        have e8 : ((rd_T88 p pc).f0 == 8) = true := beq_iff_eq.mpr H1.out
        have f1 : decide (0 < (pile.length : Int)) = true := decide_eq_true (by omega)
        have f2 : (rd pile ((pile.length : Int) - 1) == (rd_T88 p pc).f1) = true := beq_iff_eq.mpr (by rw [hl2])
        obtain ⟨ji, hji⟩ : ∃ j_ : Int, (pile.length : Int) - 1 = j_ := ⟨_, rfl⟩
        have hjw : wrap64 ((pile.length : Int) - 1) = ji := by rw [← hji]; unfold wrap64; omega
        have hjw2 : (IntKind.i64.wrap ((pile.length : Int) - 1)) = ji := (i64_w _).trans hjw
        rw [hji] at f2
        obtain ⟨ad3, e_, hw0⟩ := Kd.at_int (Kd.R_reads' G3.out).2.2 ji (by omega) (by omega)
        cases e_
        have f1b : decide (0 < pile.length) = true := decide_eq_true (by omega)
        have p0 : (0 ≤ ji) = True := eq_true (by omega)
        have p1 : (ji < (pile.length : Int)) = True := eq_true (by omega)
        have p2 : decide (0 ≤ ji) = true := decide_eq_true (by omega)
        clear hji
        clear hl hl2
        go_wp2
        go_quiet (fail)
        go_wp2
        first | go_end0 | ((try simp only [Exit.inBlock, Exit.then]); refine bodyPost_ret (results_none rfl _ _ _) rfl ?_)
        exact ⟨rfl, (HI.out.drewN _).set_2 _⟩
      · rw [if_neg (fun h => hl2 h.2)] at hS
        simp only [Prod.mk.injEq] at hS
        obtain ⟨rfl, rfl, rfl, rfl, rfl, rfl⟩ := hS
        clear HQ
        have e1 : ((rd_T88 p pc).f0 == 1) = false := beq_eq_false_iff_ne.mpr (by have := H1.out; omega)
        have e2 : ((rd_T88 p pc).f0 == 2) = false := beq_eq_false_iff_ne.mpr (by have := H1.out; omega)
        have e3 : ((rd_T88 p pc).f0 == 3) = false := beq_eq_false_iff_ne.mpr (by have := H1.out; omega)
        have e4 : ((rd_T88 p pc).f0 == 4) = false := beq_eq_false_iff_ne.mpr (by have := H1.out; omega)
        have e5 : ((rd_T88 p pc).f0 == 5) = false := beq_eq_false_iff_ne.mpr (by have := H1.out; omega)
        have e6 : ((rd_T88 p pc).f0 == 6) = false := beq_eq_false_iff_ne.mpr (by have := H1.out; omega)
        have e7 : ((rd_T88 p pc).f0 == 7) = false := beq_eq_false_iff_ne.mpr (by have := H1.out; omega)
        have e8 : ((rd_T88 p pc).f0 == 8) = true := beq_iff_eq.mpr H1.out
        have f1 : decide (0 < (pile.length : Int)) = true := decide_eq_true (by omega)
        have f2 : (rd pile ((pile.length : Int) - 1) == (rd_T88 p pc).f1) = false := beq_eq_false_iff_ne.mpr (hl2)
        obtain ⟨ji, hji⟩ : ∃ j_ : Int, (pile.length : Int) - 1 = j_ := ⟨_, rfl⟩
        have hjw : wrap64 ((pile.length : Int) - 1) = ji := by rw [← hji]; unfold wrap64; omega
        have hjw2 : (IntKind.i64.wrap ((pile.length : Int) - 1)) = ji := (i64_w _).trans hjw
        rw [hji] at f2
        obtain ⟨ad3, e_, hw0⟩ := Kd.at_int (Kd.R_reads' G3.out).2.2 ji (by omega) (by omega)
        cases e_
        have f1b : decide (0 < pile.length) = true := decide_eq_true (by omega)
        have p0 : (0 ≤ ji) = True := eq_true (by omega)
        have p1 : (ji < (pile.length : Int)) = True := eq_true (by omega)
        have p2 : decide (0 ≤ ji) = true := decide_eq_true (by omega)
        clear hji
        clear hl hl2
        go_wp2
        go_quiet (fail)
        go_wp2
        first | go_end0 | ((try simp only [Exit.inBlock, Exit.then]); refine bodyPost_ret (results_none rfl _ _ _) rfl ?_)
        exact ⟨rfl, HI.out.drewN _⟩
    · rw [if_neg (fun h => hl h.1)] at hS
      simp only [Prod.mk.injEq] at hS
      obtain ⟨rfl, rfl, rfl, rfl, rfl, rfl⟩ := hS
      clear HQ
      have e1 : ((rd_T88 p pc).f0 == 1) = false := beq_eq_false_iff_ne.mpr (by have := H1.out; omega)
      have e2 : ((rd_T88 p pc).f0 == 2) = false := beq_eq_false_iff_ne.mpr (by have := H1.out; omega)
      have e3 : ((rd_T88 p pc).f0 == 3) = false := beq_eq_false_iff_ne.mpr (by have := H1.out; omega)
      have e4 : ((rd_T88 p pc).f0 == 4) = false := beq_eq_false_iff_ne.mpr (by have := H1.out; omega)
      have e5 : ((rd_T88 p pc).f0 == 5) = false := beq_eq_false_iff_ne.mpr (by have := H1.out; omega)
      have e6 : ((rd_T88 p pc).f0 == 6) = false := beq_eq_false_iff_ne.mpr (by have := H1.out; omega)
      have e7 : ((rd_T88 p pc).f0 == 7) = false := beq_eq_false_iff_ne.mpr (by have := H1.out; omega)
      have e8 : ((rd_T88 p pc).f0 == 8) = true := beq_iff_eq.mpr H1.out
      have f1 : decide (0 < (pile.length : Int)) = false := decide_eq_false (by omega)
      have f1b : decide (0 < pile.length) = false := decide_eq_false (by omega)
      clear hl
      go_wp2
      go_quiet (fail)
      go_wp2
      first | go_end0 | ((try simp only [Exit.inBlock, Exit.then]); refine bodyPost_ret (results_none rfl _ _ _) rfl ?_)
      exact ⟨rfl, HI.out.drewN _⟩
  · have H1 := Aside0.mk h1
    have hS := HS_.out
    simp only [stepF, h1, if_true, if_false, Int.reduceEq] at hS
    clear h1 HS_
    simp only [Prod.mk.injEq] at hS
    obtain ⟨rfl, rfl, rfl, rfl, rfl, rfl⟩ := hS
    clear HQ
    have e1 : ((rd_T88 p pc).f0 == 1) = false := beq_eq_false_iff_ne.mpr (by have := H1.out; omega)
    have e2 : ((rd_T88 p pc).f0 == 2) = false := beq_eq_false_iff_ne.mpr (by have := H1.out; omega)
    have e3 : ((rd_T88 p pc).f0 == 3) = false := beq_eq_false_iff_ne.mpr (by have := H1.out; omega)
    have e4 : ((rd_T88 p pc).f0 == 4) = false := beq_eq_false_iff_ne.mpr (by have := H1.out; omega)
    have e5 : ((rd_T88 p pc).f0 == 5) = false := beq_eq_false_iff_ne.mpr (by have := H1.out; omega)
    have e6 : ((rd_T88 p pc).f0 == 6) = false := beq_eq_false_iff_ne.mpr (by have := H1.out; omega)
    have e7 : ((rd_T88 p pc).f0 == 7) = false := beq_eq_false_iff_ne.mpr (by have := H1.out; omega)
    have e8 : ((rd_T88 p pc).f0 == 8) = false := beq_eq_false_iff_ne.mpr (by have := H1.out; omega)
    have e9 : ((rd_T88 p pc).f0 == 9) = true := beq_iff_eq.mpr H1.out
    go_wp2_with (first | (go_at_call 83; (with_reducible refine (spec_l17Run_stop.callsR g p word _ pile told place code 0 false w0 _ (HI.out)).mono ?_); rintro e w5 ⟨rfl, hS⟩; have HS := Aside0.mk hS; clear hS))
    first | go_end0 | ((try simp only [Exit.inBlock, Exit.then]); refine bodyPost_ret (results_none rfl _ _ _) rfl ?_)
    exact ⟨rfl, HS.out⟩
  · have H1 := Aside0.mk h1
    have hS := HS_.out
    simp only [stepF, h1, if_true, if_false, Int.reduceEq] at hS
    clear h1 HS_
    simp only [Prod.mk.injEq] at hS
    obtain ⟨rfl, rfl, rfl, rfl, rfl, rfl⟩ := hS
    clear HQ
    have e1 : ((rd_T88 p pc).f0 == 1) = false := beq_eq_false_iff_ne.mpr (by have := H1.out; omega)
    have e2 : ((rd_T88 p pc).f0 == 2) = false := beq_eq_false_iff_ne.mpr (by have := H1.out; omega)
    have e3 : ((rd_T88 p pc).f0 == 3) = false := beq_eq_false_iff_ne.mpr (by have := H1.out; omega)
    have e4 : ((rd_T88 p pc).f0 == 4) = false := beq_eq_false_iff_ne.mpr (by have := H1.out; omega)
    have e5 : ((rd_T88 p pc).f0 == 5) = false := beq_eq_false_iff_ne.mpr (by have := H1.out; omega)
    have e6 : ((rd_T88 p pc).f0 == 6) = false := beq_eq_false_iff_ne.mpr (by have := H1.out; omega)
    have e7 : ((rd_T88 p pc).f0 == 7) = false := beq_eq_false_iff_ne.mpr (by have := H1.out; omega)
    have e8 : ((rd_T88 p pc).f0 == 8) = false := beq_eq_false_iff_ne.mpr (by have := H1.out; omega)
    have e9 : ((rd_T88 p pc).f0 == 9) = false := beq_eq_false_iff_ne.mpr (by have := H1.out; omega)
    have e10 : ((rd_T88 p pc).f0 == 10) = true := beq_iff_eq.mpr H1.out
    go_wp2_with (first | (go_at_call 83; (with_reducible refine (spec_l17Run_stop.callsR g p word _ pile told place code (rd_T88 p pc).f1 false w0 _ (HI.out)).mono ?_); rintro e w5 ⟨rfl, hS⟩; have HS := Aside0.mk hS; clear hS))
    first | go_end0 | ((try simp only [Exit.inBlock, Exit.then]); refine bodyPost_ret (results_none rfl _ _ _) rfl ?_)
    exact ⟨rfl, HS.out⟩
theorem spec_l17Run_step.calls (g : Nat) (p : List S88) (word : List Int) (pc : Int) (pile told : List Int) (place code : Int) (w0 w : World) (hI : RunSt w0 w g p word pc pile told place code false) (hok : StepOk p word pc pile told place = true) :
    Calls Try.prog 84 #[.pointer (some ⟨g, 0, none⟩)] w fun e w' => e = .returned (.tuple #[]) ∧ RunSt w0 w' g p word (stepF (rd_T88 p pc) word pc pile told place code).1 (stepF (rd_T88 p pc) word pc pile told place code).2.1 (stepF (rd_T88 p pc) word pc pile told place code).2.2.1 (stepF (rd_T88 p pc) word pc pile told place code).2.2.2.1 (stepF (rd_T88 p pc) word pc pile told place code).2.2.2.2.1 (stepF (rd_T88 p pc) word pc pile told place code).2.2.2.2.2 :=
  spec_l17Run_step.walk g p word pc pile told place code w0 w _ _ _ _ _ _ hI hok rfl
end Go.Proofs.Ytgdecbliegelmaa.Q
