-- Written by wip/myprint.py (this session's) over the kit's print: not the kit's own print.
import Derived.Test.YtgdecbliegelmaaQ0
namespace Go.Proofs.Ytgdecbliegelmaa.Q
open Go.RowKit Go.Proofs.YtgdecbliegelmaaW.PrintWords Go.Proofs.YtgdecbliegelmaaW.PrintLast Go.Proofs.YtgdecbliegelmaaW.PrintMore
attribute [local go_sem] max2_int min2_int max_two min_two max_three min_three max_four min_four   -- for this text's walks alone
set_option linter.unusedVariables false
set_option linter.unusedSimpArgs false

/-- A state of type 109 at block g of W; what its slices lead to came in by w0. -/
def IsS109 (w0 W : World) (g : Nat) (f0 : List (S88)) (f1 : List Int) (f2 : Int) (f3 : List Int) (f4 : List Int) (f5 : Int) (f6 : Int) (f7 : Bool) : Prop := ∃ A0 c0, ∃ A1 c1, ∃ A3 c3, ∃ A4 c4, W.heap[g]? = some (.cells #[.slice A0 f0.length c0, .slice A1 f1.length c1, .int .i64 f2, .slice A3 f3.length c3, .slice A4 f4.length c4, .int .i64 f5, .int .i64 f6, .bool f7] 109 (0, 0)) ∧ w0.heap.size ≤ g ∧ Kd.C k88 w0 A0 f0.length f0 ∧ Kd.C (Kd.int .i64) w0 A1 f1.length f1 ∧ Kd.C (Kd.int .i64) w0 A3 f3.length f3 ∧ Kd.C (Kd.int .i64) w0 A4 f4.length f4
theorem IsS109.grown {w0 W : World} {g : Nat} {f0 : List (S88)} {f1 : List Int} {f2 : Int} {f3 : List Int} {f4 : List Int} {f5 : Int} {f6 : Int} {f7 : Bool} {W1 : World} {row : Option Nat} (h : IsS109 w0 W g f0 f1 f2 f3 f4 f5 f6 f7) (hw : W.grownBy W1 row) (hne : some g ≠ row) : IsS109 w0 W1 g f0 f1 f2 f3 f4 f5 f6 f7 := by
  obtain ⟨A0, c0, A1, c1, A3, c3, A4, c4, hb, hg, hr0, hr1, hr3, hr4⟩ := h
  exact ⟨A0, c0, A1, c1, A3, c3, A4, c4, blk_grown hb hw hne, hg, hr0, hr1, hr3, hr4⟩
theorem IsS109.own_neN {w0 W : World} {g : Nat} {f0 : List (S88)} {f1 : List Int} {f2 : Int} {f3 : List Int} {f4 : List Int} {f5 : Int} {f6 : Int} {f7 : Bool} {α : Type} {d : Kd α} {e : Nat} {base : Nat} {ok : Nat → Prop} {v : Value} {xs : List α} (h : IsS109 w0 W g f0 f1 f2 f3 f4 f5 f6 f7) (ho : Kd.N d e W base ok v xs) (ht : e ≠ 109) : some g ≠ v.ownBlock := by
  obtain ⟨A0, c0, A1, c1, A3, c3, A4, c4, hb, hg, hr0, hr1, hr3, hr4⟩ := h
  exact Kd.N_ne ho hb ht
theorem IsS109.fresh {w0 W : World} {g : Nat} {f0 : List (S88)} {f1 : List Int} {f2 : Int} {f3 : List Int} {f4 : List Int} {f5 : Int} {f6 : Int} {f7 : Bool} (h : IsS109 w0 W g f0 f1 f2 f3 f4 f5 f6 f7) : ∀ k, W.heap.size ≤ k → k ≠ g := by
  obtain ⟨A0, c0, A1, c1, A3, c3, A4, c4, hb, hg, hr0, hr1, hr3, hr4⟩ := h
  exact Kd.freshB hb
theorem IsS109.kept {w0 W : World} {g : Nat} {f0 : List (S88)} {f1 : List Int} {f2 : Int} {f3 : List Int} {f4 : List Int} {f5 : Int} {f6 : Int} {f7 : Bool} {W1 : World} {S : Nat → Prop} (h : IsS109 w0 W g f0 f1 f2 f3 f4 f5 f6 f7) (hk : Kept W W1 S) (hne : ¬ S g) : IsS109 w0 W1 g f0 f1 f2 f3 f4 f5 f6 f7 := by
  obtain ⟨A0, c0, A1, c1, A3, c3, A4, c4, hb, hg, hr0, hr1, hr3, hr4⟩ := h
  exact ⟨A0, c0, A1, c1, A3, c3, A4, c4, blk_kept hb hk hne, hg, hr0, hr1, hr3, hr4⟩
theorem IsS109.below {w0 W : World} {g : Nat} {f0 : List (S88)} {f1 : List Int} {f2 : Int} {f3 : List Int} {f4 : List Int} {f5 : Int} {f6 : Int} {f7 : Bool} {W1 : World} (h : IsS109 w0 W g f0 f1 f2 f3 f4 f5 f6 f7) (hw : Below W.heap.size W W1) : IsS109 w0 W1 g f0 f1 f2 f3 f4 f5 f6 f7 := h.grown (grown_of_below hw none) (by simp)
theorem IsS109.alloc {w0 W : World} {g : Nat} {f0 : List (S88)} {f1 : List Int} {f2 : Int} {f3 : List Int} {f4 : List Int} {f5 : Int} {f6 : Int} {f7 : Bool} (h : IsS109 w0 W g f0 f1 f2 f3 f4 f5 f6 f7) (o : Obj) : IsS109 w0 (W.alloc o) g f0 f1 f2 f3 f4 f5 f6 f7 := h.below (below_alloc (Below.refl _ _) o)
theorem IsS109.drewN {w0 W : World} {g : Nat} {f0 : List (S88)} {f1 : List Int} {f2 : Int} {f3 : List Int} {f4 : List Int} {f5 : Int} {f6 : Int} {f7 : Bool} (h : IsS109 w0 W g f0 f1 f2 f3 f4 f5 f6 f7) (m : Nat) : IsS109 w0 (W.drewN m) g f0 f1 f2 f3 f4 f5 f6 f7 := h
theorem IsS109.drew {w0 W : World} {g : Nat} {f0 : List (S88)} {f1 : List Int} {f2 : Int} {f3 : List Int} {f4 : List Int} {f5 : Int} {f6 : Int} {f7 : Bool} (h : IsS109 w0 W g f0 f1 f2 f3 f4 f5 f6 f7) : IsS109 w0 W.drew g f0 f1 f2 f3 f4 f5 f6 f7 := h
theorem IsS109.at_ {w0 W : World} {g : Nat} {f0 : List (S88)} {f1 : List Int} {f2 : Int} {f3 : List Int} {f4 : List Int} {f5 : Int} {f6 : Int} {f7 : Bool} {w' : World} {m : Nat} (hq : W.drewN m = w') (h : IsS109 w0 W g f0 f1 f2 f3 f4 f5 f6 f7) : IsS109 w0 w' g f0 f1 f2 f3 f4 f5 f6 f7 := by subst hq; exact IsS109.drewN h m
theorem IsS109.apart {w0 W : World} {g : Nat} {f0 : List (S88)} {f1 : List Int} {f2 : Int} {f3 : List Int} {f4 : List Int} {f5 : Int} {f6 : Int} {f7 : Bool} {α : Type} {d : Kd α} {e : Nat} {base : Nat} {ok : Nat → Prop} {v : Value} {xs : List α} (h : IsS109 w0 W g f0 f1 f2 f3 f4 f5 f6 f7) (ho : d.R e W base ok v xs) (ht : ∀ q, q ∈ e :: d.E → q ≠ 109) : d.R e W base (fun k => ok k ∧ k ≠ g) v xs := by
  obtain ⟨A0, c0, A1, c1, A3, c3, A4, c4, hb, hg, hr0, hr1, hr3, hr4⟩ := h
  exact Kd.R_types ho hb ht
theorem IsS109.own_ne {w0 W : World} {g : Nat} {f0 : List (S88)} {f1 : List Int} {f2 : Int} {f3 : List Int} {f4 : List Int} {f5 : Int} {f6 : Int} {f7 : Bool} {α : Type} {d : Kd α} {e : Nat} {base : Nat} {ok : Nat → Prop} {v : Value} {xs : List α} (h : IsS109 w0 W g f0 f1 f2 f3 f4 f5 f6 f7) (ho : d.R e W base ok v xs) (ht : e ≠ 109) : some g ≠ v.ownBlock := by
  obtain ⟨A0, c0, A1, c1, A3, c3, A4, c4, hb, hg, hr0, hr1, hr3, hr4⟩ := h
  exact Kd.R_ne ho hb ht
theorem IsS109.apartQ {w0 W : World} {g : Nat} {f0 : List (S88)} {f1 : List Int} {f2 : Int} {f3 : List Int} {f4 : List Int} {f5 : Int} {f6 : Int} {f7 : Bool} {α : Type} {d : Kd α} {e : Nat} {base : Nat} {ok : Nat → Prop} {v : Value} {xs : List α} (h : IsS109 w0 W g f0 f1 f2 f3 f4 f5 f6 f7) (ho : d.Q e W base ok v xs) (ht : ∀ q, q ∈ e :: d.E → q ≠ 109) : d.Q e W base (fun k => ok k ∧ k ≠ g) v xs := by
  obtain ⟨A0, c0, A1, c1, A3, c3, A4, c4, hb, hg, hr0, hr1, hr3, hr4⟩ := h
  exact Kd.Q_types ho hb ht
theorem IsS109.own_neQ {w0 W : World} {g : Nat} {f0 : List (S88)} {f1 : List Int} {f2 : Int} {f3 : List Int} {f4 : List Int} {f5 : Int} {f6 : Int} {f7 : Bool} {α : Type} {d : Kd α} {e : Nat} {base : Nat} {ok : Nat → Prop} {v : Value} {xs : List α} (h : IsS109 w0 W g f0 f1 f2 f3 f4 f5 f6 f7) (ho : d.Q e W base ok v xs) (ht : e ≠ 109) : some g ≠ v.ownBlock := by
  obtain ⟨A0, c0, A1, c1, A3, c3, A4, c4, hb, hg, hr0, hr1, hr3, hr4⟩ := h
  exact Kd.Q_ne ho hb ht
theorem IsS109.apartS {w0 W : World} {g : Nat} {f0 : List (S88)} {f1 : List Int} {f2 : Int} {f3 : List Int} {f4 : List Int} {f5 : Int} {f6 : Int} {f7 : Bool} {α : Type} {d : Kd α} {e : Nat} {base : Nat} {ok : Nat → Prop} {v : Value} {xs : List α} (h : IsS109 w0 W g f0 f1 f2 f3 f4 f5 f6 f7) (ho : d.S e W base ok v xs) (ht : ∀ q, q ∈ e :: d.E → q ≠ 109) : d.S e W base (fun k => ok k ∧ k ≠ g) v xs := by
  obtain ⟨A0, c0, A1, c1, A3, c3, A4, c4, hb, hg, hr0, hr1, hr3, hr4⟩ := h
  exact Kd.S_types ho hb ht
theorem IsS109.own_neS {w0 W : World} {g : Nat} {f0 : List (S88)} {f1 : List Int} {f2 : Int} {f3 : List Int} {f4 : List Int} {f5 : Int} {f6 : Int} {f7 : Bool} {α : Type} {d : Kd α} {e : Nat} {base : Nat} {ok : Nat → Prop} {v : Value} {xs : List α} (h : IsS109 w0 W g f0 f1 f2 f3 f4 f5 f6 f7) (ho : d.S e W base ok v xs) (ht : e ≠ 109) : some g ≠ v.ownBlock := by
  obtain ⟨A0, c0, A1, c1, A3, c3, A4, c4, hb, hg, hr0, hr1, hr3, hr4⟩ := h
  exact Kd.S_ne ho hb ht
theorem IsS109.lt {w0 W : World} {g : Nat} {f0 : List (S88)} {f1 : List Int} {f2 : Int} {f3 : List Int} {f4 : List Int} {f5 : Int} {f6 : Int} {f7 : Bool} (h : IsS109 w0 W g f0 f1 f2 f3 f4 f5 f6 f7) : g < W.heap.size := by
  obtain ⟨A0, c0, A1, c1, A3, c3, A4, c4, hb, hg, hr0, hr1, hr3, hr4⟩ := h
  exact blk_lt hb
theorem IsS109.ge {w0 W : World} {g : Nat} {f0 : List (S88)} {f1 : List Int} {f2 : Int} {f3 : List Int} {f4 : List Int} {f5 : Int} {f6 : Int} {f7 : Bool} (h : IsS109 w0 W g f0 f1 f2 f3 f4 f5 f6 f7) : w0.heap.size ≤ g := by
  obtain ⟨A0, c0, A1, c1, A3, c3, A4, c4, hb, hg, hr0, hr1, hr3, hr4⟩ := h
  exact hg
theorem IsS109.ne_blk {w0 W : World} {g : Nat} {f0 : List (S88)} {f1 : List Int} {f2 : Int} {f3 : List Int} {f4 : List Int} {f5 : Int} {f6 : Int} {f7 : Bool} {a : Nat} {cs : Array Value} {t : TypeId} {fr : Nat × Nat} (h : IsS109 w0 W g f0 f1 f2 f3 f4 f5 f6 f7) (hb2 : W.heap[a]? = some (.cells cs t fr)) (ht : t ≠ 109) : g ≠ a := by
  obtain ⟨A0, c0, A1, c1, A3, c3, A4, c4, hb, hg, hr0, hr1, hr3, hr4⟩ := h
  rintro rfl
  rw [hb] at hb2
  injection hb2 with hb2
  injection hb2 with _ ht2
  exact ht ht2.symm
theorem IsS109.far {w0 W : World} {g : Nat} {f0 : List (S88)} {f1 : List Int} {f2 : Int} {f3 : List Int} {f4 : List Int} {f5 : Int} {f6 : Int} {f7 : Bool} {p : Addr} (h : IsS109 w0 W g f0 f1 f2 f3 f4 f5 f6 f7) (hne : g ≠ p.block) (u : Value) : IsS109 w0 (W.setCell p u) g f0 f1 f2 f3 f4 f5 f6 f7 := by
  obtain ⟨A0, c0, A1, c1, A3, c3, A4, c4, hb, hg, hr0, hr1, hr3, hr4⟩ := h
  exact ⟨A0, c0, A1, c1, A3, c3, A4, c4, blk_far hb hne u, hg, hr0, hr1, hr3, hr4⟩
theorem cellS109_0 {W : World} {g : Nat} {A0 : Option Addr} {c0 : Nat} {A1 : Option Addr} {c1 : Nat} {A3 : Option Addr} {c3 : Nat} {A4 : Option Addr} {c4 : Nat} {f0 : List (S88)} {f1 : List Int} {f2 : Int} {f3 : List Int} {f4 : List Int} {f5 : Int} {f6 : Int} {f7 : Bool} (h : W.heap[g]? = some (.cells #[.slice A0 f0.length c0, .slice A1 f1.length c1, .int .i64 f2, .slice A3 f3.length c3, .slice A4 f4.length c4, .int .i64 f5, .int .i64 f6, .bool f7] 109 (0, 0))) : W.cell? ⟨g, 0, none⟩ = some (.slice A0 f0.length c0) := (blk_cell h 0).trans rfl
theorem cellS109_1 {W : World} {g : Nat} {A0 : Option Addr} {c0 : Nat} {A1 : Option Addr} {c1 : Nat} {A3 : Option Addr} {c3 : Nat} {A4 : Option Addr} {c4 : Nat} {f0 : List (S88)} {f1 : List Int} {f2 : Int} {f3 : List Int} {f4 : List Int} {f5 : Int} {f6 : Int} {f7 : Bool} (h : W.heap[g]? = some (.cells #[.slice A0 f0.length c0, .slice A1 f1.length c1, .int .i64 f2, .slice A3 f3.length c3, .slice A4 f4.length c4, .int .i64 f5, .int .i64 f6, .bool f7] 109 (0, 0))) : W.cell? ⟨g, 1, none⟩ = some (.slice A1 f1.length c1) := (blk_cell h 1).trans rfl
theorem cellS109_2 {W : World} {g : Nat} {A0 : Option Addr} {c0 : Nat} {A1 : Option Addr} {c1 : Nat} {A3 : Option Addr} {c3 : Nat} {A4 : Option Addr} {c4 : Nat} {f0 : List (S88)} {f1 : List Int} {f2 : Int} {f3 : List Int} {f4 : List Int} {f5 : Int} {f6 : Int} {f7 : Bool} (h : W.heap[g]? = some (.cells #[.slice A0 f0.length c0, .slice A1 f1.length c1, .int .i64 f2, .slice A3 f3.length c3, .slice A4 f4.length c4, .int .i64 f5, .int .i64 f6, .bool f7] 109 (0, 0))) : W.cell? ⟨g, 2, none⟩ = some (.int .i64 f2) := (blk_cell h 2).trans rfl
theorem IsS109.set_2 {w0 W : World} {g : Nat} {f0 : List (S88)} {f1 : List Int} {f2 : Int} {f3 : List Int} {f4 : List Int} {f5 : Int} {f6 : Int} {f7 : Bool} (h : IsS109 w0 W g f0 f1 f2 f3 f4 f5 f6 f7) (x : Int) : IsS109 w0 (W.setCell ⟨g, 2, none⟩ (.int .i64 x)) g f0 f1 x f3 f4 f5 f6 f7 := by
  obtain ⟨A0, c0, A1, c1, A3, c3, A4, c4, hb, hg, hr0, hr1, hr3, hr4⟩ := h
  exact ⟨A0, c0, A1, c1, A3, c3, A4, c4, by simpa using blk_set hb 2 (.int .i64 x), hg, hr0, hr1, hr3, hr4⟩
theorem cellS109_3 {W : World} {g : Nat} {A0 : Option Addr} {c0 : Nat} {A1 : Option Addr} {c1 : Nat} {A3 : Option Addr} {c3 : Nat} {A4 : Option Addr} {c4 : Nat} {f0 : List (S88)} {f1 : List Int} {f2 : Int} {f3 : List Int} {f4 : List Int} {f5 : Int} {f6 : Int} {f7 : Bool} (h : W.heap[g]? = some (.cells #[.slice A0 f0.length c0, .slice A1 f1.length c1, .int .i64 f2, .slice A3 f3.length c3, .slice A4 f4.length c4, .int .i64 f5, .int .i64 f6, .bool f7] 109 (0, 0))) : W.cell? ⟨g, 3, none⟩ = some (.slice A3 f3.length c3) := (blk_cell h 3).trans rfl
theorem cellS109_4 {W : World} {g : Nat} {A0 : Option Addr} {c0 : Nat} {A1 : Option Addr} {c1 : Nat} {A3 : Option Addr} {c3 : Nat} {A4 : Option Addr} {c4 : Nat} {f0 : List (S88)} {f1 : List Int} {f2 : Int} {f3 : List Int} {f4 : List Int} {f5 : Int} {f6 : Int} {f7 : Bool} (h : W.heap[g]? = some (.cells #[.slice A0 f0.length c0, .slice A1 f1.length c1, .int .i64 f2, .slice A3 f3.length c3, .slice A4 f4.length c4, .int .i64 f5, .int .i64 f6, .bool f7] 109 (0, 0))) : W.cell? ⟨g, 4, none⟩ = some (.slice A4 f4.length c4) := (blk_cell h 4).trans rfl
theorem cellS109_5 {W : World} {g : Nat} {A0 : Option Addr} {c0 : Nat} {A1 : Option Addr} {c1 : Nat} {A3 : Option Addr} {c3 : Nat} {A4 : Option Addr} {c4 : Nat} {f0 : List (S88)} {f1 : List Int} {f2 : Int} {f3 : List Int} {f4 : List Int} {f5 : Int} {f6 : Int} {f7 : Bool} (h : W.heap[g]? = some (.cells #[.slice A0 f0.length c0, .slice A1 f1.length c1, .int .i64 f2, .slice A3 f3.length c3, .slice A4 f4.length c4, .int .i64 f5, .int .i64 f6, .bool f7] 109 (0, 0))) : W.cell? ⟨g, 5, none⟩ = some (.int .i64 f5) := (blk_cell h 5).trans rfl
theorem IsS109.set_5 {w0 W : World} {g : Nat} {f0 : List (S88)} {f1 : List Int} {f2 : Int} {f3 : List Int} {f4 : List Int} {f5 : Int} {f6 : Int} {f7 : Bool} (h : IsS109 w0 W g f0 f1 f2 f3 f4 f5 f6 f7) (x : Int) : IsS109 w0 (W.setCell ⟨g, 5, none⟩ (.int .i64 x)) g f0 f1 f2 f3 f4 x f6 f7 := by
  obtain ⟨A0, c0, A1, c1, A3, c3, A4, c4, hb, hg, hr0, hr1, hr3, hr4⟩ := h
  exact ⟨A0, c0, A1, c1, A3, c3, A4, c4, by simpa using blk_set hb 5 (.int .i64 x), hg, hr0, hr1, hr3, hr4⟩
theorem cellS109_6 {W : World} {g : Nat} {A0 : Option Addr} {c0 : Nat} {A1 : Option Addr} {c1 : Nat} {A3 : Option Addr} {c3 : Nat} {A4 : Option Addr} {c4 : Nat} {f0 : List (S88)} {f1 : List Int} {f2 : Int} {f3 : List Int} {f4 : List Int} {f5 : Int} {f6 : Int} {f7 : Bool} (h : W.heap[g]? = some (.cells #[.slice A0 f0.length c0, .slice A1 f1.length c1, .int .i64 f2, .slice A3 f3.length c3, .slice A4 f4.length c4, .int .i64 f5, .int .i64 f6, .bool f7] 109 (0, 0))) : W.cell? ⟨g, 6, none⟩ = some (.int .i64 f6) := (blk_cell h 6).trans rfl
theorem IsS109.set_6 {w0 W : World} {g : Nat} {f0 : List (S88)} {f1 : List Int} {f2 : Int} {f3 : List Int} {f4 : List Int} {f5 : Int} {f6 : Int} {f7 : Bool} (h : IsS109 w0 W g f0 f1 f2 f3 f4 f5 f6 f7) (x : Int) : IsS109 w0 (W.setCell ⟨g, 6, none⟩ (.int .i64 x)) g f0 f1 f2 f3 f4 f5 x f7 := by
  obtain ⟨A0, c0, A1, c1, A3, c3, A4, c4, hb, hg, hr0, hr1, hr3, hr4⟩ := h
  exact ⟨A0, c0, A1, c1, A3, c3, A4, c4, by simpa using blk_set hb 6 (.int .i64 x), hg, hr0, hr1, hr3, hr4⟩
theorem cellS109_7 {W : World} {g : Nat} {A0 : Option Addr} {c0 : Nat} {A1 : Option Addr} {c1 : Nat} {A3 : Option Addr} {c3 : Nat} {A4 : Option Addr} {c4 : Nat} {f0 : List (S88)} {f1 : List Int} {f2 : Int} {f3 : List Int} {f4 : List Int} {f5 : Int} {f6 : Int} {f7 : Bool} (h : W.heap[g]? = some (.cells #[.slice A0 f0.length c0, .slice A1 f1.length c1, .int .i64 f2, .slice A3 f3.length c3, .slice A4 f4.length c4, .int .i64 f5, .int .i64 f6, .bool f7] 109 (0, 0))) : W.cell? ⟨g, 7, none⟩ = some (.bool f7) := (blk_cell h 7).trans rfl
theorem IsS109.set_7 {w0 W : World} {g : Nat} {f0 : List (S88)} {f1 : List Int} {f2 : Int} {f3 : List Int} {f4 : List Int} {f5 : Int} {f6 : Int} {f7 : Bool} (h : IsS109 w0 W g f0 f1 f2 f3 f4 f5 f6 f7) (x : Bool) : IsS109 w0 (W.setCell ⟨g, 7, none⟩ (.bool x)) g f0 f1 f2 f3 f4 f5 f6 x := by
  obtain ⟨A0, c0, A1, c1, A3, c3, A4, c4, hb, hg, hr0, hr1, hr3, hr4⟩ := h
  exact ⟨A0, c0, A1, c1, A3, c3, A4, c4, by simpa using blk_set hb 7 (.bool x), hg, hr0, hr1, hr3, hr4⟩
theorem IsS109.new (w0 W : World) (A0 : Option Addr) (c0 : Nat) (A1 : Option Addr) (c1 : Nat) (A3 : Option Addr) (c3 : Nat) (A4 : Option Addr) (c4 : Nat) (f0 : List (S88)) (f1 : List Int) (f2 : Int) (f3 : List Int) (f4 : List Int) (f5 : Int) (f6 : Int) (f7 : Bool) (hB : Below w0.heap.size w0 W) (hr0 : Kd.C k88 w0 A0 f0.length f0) (hr1 : Kd.C (Kd.int .i64) w0 A1 f1.length f1) (hr3 : Kd.C (Kd.int .i64) w0 A3 f3.length f3) (hr4 : Kd.C (Kd.int .i64) w0 A4 f4.length f4) : IsS109 w0 (W.alloc (.cells #[.slice A0 f0.length c0, .slice A1 f1.length c1, .int .i64 f2, .slice A3 f3.length c3, .slice A4 f4.length c4, .int .i64 f5, .int .i64 f6, .bool f7] 109)) W.heap.size f0 f1 f2 f3 f4 f5 f6 f7 := ⟨A0, c0, A1, c1, A3, c3, A4, c4, by simpa using heap_alloc_new W _, hB.size, hr0, hr1, hr3, hr4⟩

/-! ### spec_l17Run_stop: function 83 -/
def spec_l17Run_stop.f (s0_0 : List (S88)) (s0_1 : List Int) (s0_2 : Int) (s0_3 : List Int) (s0_4 : List Int) (s0_5 : Int) (s0_6 : Int) (s0_7 : Bool) (a1 : Int) : Option (Int × Int × Int × Bool) := some (s0_2, s0_5, a1, true)
set_option maxHeartbeats 8000000 in
set_option maxRecDepth 100000 in
theorem spec_l17Run_stop.calls (g : Nat) (s0_0 : List (S88)) (s0_1 : List Int) (s0_2 : Int) (s0_3 : List Int) (s0_4 : List Int) (s0_5 : Int) (s0_6 : Int) (s0_7 : Bool) (a1 : Int) (r1 : Int) (r2 : Int) (r3 : Int) (r4 : Bool) (w0 w : World) (hI : IsS109 w0 w g s0_0 s0_1 s0_2 s0_3 s0_4 s0_5 s0_6 s0_7) (hB : Below w0.heap.size w0 w) (h : spec_l17Run_stop.f s0_0 s0_1 s0_2 s0_3 s0_4 s0_5 s0_6 s0_7 a1 = some (r1, r2, r3, r4)) :
    Calls Try.prog 83 #[.pointer (some ⟨g, 0, none⟩), .int .i64 a1] w fun e w' => e = .returned (.tuple #[]) ∧ IsS109 w0 w' g s0_0 s0_1 r1 s0_3 s0_4 r2 r3 r4 ∧ Below w0.heap.size w0 w' ∧ KeepBut w w' g none := by
  have HI0 := Aside0.mk hI
  have HK := Aside0.mk (KeepBut.refl w g none)
  have HL := Aside0.mk hB.size
  clear hI
  have HW0 := Aside0.mk hB.size
  have HB := Aside0.mk hB
  clear hB
  have H : (some (s0_2, s0_5, a1, true)) = some (r1, r2, r3, r4) := h
  clear h
  simp only [Option.some.injEq, Prod.mk.injEq] at H
  obtain ⟨rfl, rfl, rfl, rfl⟩ := H
  obtain ⟨ASz3_0, cSz3_0, ASz3_1, cSz3_1, ASz3_3, cSz3_3, ASz3_4, cSz3_4, HGz3, hgz3, HSz3_0, HSz3_1, HSz3_3, HSz3_4⟩ := HI0.out
  have hcz3_0 := cellS109_0 HGz3
  have hcz3_1 := cellS109_1 HGz3
  have hcz3_2 := cellS109_2 HGz3
  have hcz3_3 := cellS109_3 HGz3
  have hcz3_4 := cellS109_4 HGz3
  have hcz3_5 := cellS109_5 HGz3
  have hcz3_6 := cellS109_6 HGz3
  have hcz3_7 := cellS109_7 HGz3
  have hfz3_2 := blk_frozen HGz3 2
  have hfz3_5 := blk_frozen HGz3 5
  have hfz3_6 := blk_frozen HGz3 6
  have hfz3_7 := blk_frozen HGz3 7
  clear HGz3 hgz3
  go_enter Try.func83, Try.ntmps83
  go_wp2
  first | go_end0 | ((try simp only [Exit.inBlock, Exit.then]); refine bodyPost_ret (results_none rfl _ _ _) rfl ?_)
  exact ⟨by first | rfl | (simp [errW_none, errW_some] <;> rfl) | (simp [*, errW_none, errW_some] <;> rfl), by repeat (first | (with_reducible first | exact HI0.out | apply IsS109.alloc | apply IsS109.drewN | apply IsS109.drew | apply IsS109.set_2 | apply IsS109.set_5 | apply IsS109.set_6 | apply IsS109.set_7) | exact HI0.out), by repeat (first | (with_reducible first | exact HB.out | apply below_alloc | apply pw_below_drewN | apply below_drew1 | refine below_set ?_ (IsS109.ge HI0.out)) | exact HB.out), by repeat (first | (with_reducible first | exact HK.out | apply KeepBut.set_ | apply keep_drewN | apply keep_drew | apply keep_alloc) | exact HK.out)⟩

end Go.Proofs.Ytgdecbliegelmaa.Q
