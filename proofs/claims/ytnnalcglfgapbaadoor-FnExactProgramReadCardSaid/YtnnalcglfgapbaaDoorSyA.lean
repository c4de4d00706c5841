/- The symbolic heap: pure values, values of a frame, blocks of the call's own, and what they stand for in a world. -/
import Derived.Deep.MidRow
import Derived.ArgAppend
import Derived.Below
import Derived.RowKit
import Derived.KernelRfl
set_option linter.unusedVariables false
set_option linter.unusedSimpArgs false
namespace Go.Proofs.Sy
open Go

theorem beq_ff {a b : Nat} (h : a ≠ b) : Nat.beq a b = false := by
  cases hh : Nat.beq a b with
  | false => rfl
  | true => exact absurd (Nat.eq_of_beq_eq_true hh) h
theorem beq_tt (a : Nat) : Nat.beq a a = true := Nat.beq_refl a

/-- A pure value: nothing that it reaches is ever written. -/
inductive PV where
  | raw (v : Value)
  | lst (l : List PV)
  | agg (l : List PV)
  | bx (o : Option PV)
  deriving Inhabited

def PV.cs : PV → List PV
  | .agg l => l
  | x => [x]
def PV.one : PV → Bool
  | .agg _ => false
  | _ => true
def allOne : List PV → Bool
  | [] => true
  | x :: l => x.one && allOne l
/-- It fills sz cells, each of one cell. -/
def PV.fit (sz : Nat) (x : PV) : Prop := x.cs.length = sz ∧ allOne x.cs = true

inductive PR (F : Nat → Prop) (w : World) : PV → Value → Prop
  | raw (v : Value) (h : v.oneCell' = true) : PR F w (.raw v) v
  | nil (A : Option Addr) (c : Nat) : PR F w (.lst []) (.slice A 0 c)
  | lst (l : List PV) (r off c sz n : Nat) (vals : Nat → Value) (hF : F r) (hn : n = l.length) (hc : n ≤ c)
      (hs : ∀ (i : Nat) (x : PV), l[i]? = some x → PV.fit sz x)
      (hv : ∀ (i : Nat) (x : PV) (j : Nat) (y : PV), l[i]? = some x → x.cs[j]? = some y → w.cell? ⟨r, off + (i * sz + j), none⟩ = some (vals (i * sz + j)))
      (hp : ∀ (i : Nat) (x : PV) (j : Nat) (y : PV), l[i]? = some x → x.cs[j]? = some y → PR F w y (vals (i * sz + j))) :
      PR F w (.lst l) (.slice (some ⟨r, off, none⟩) n c)
  | agg (l : List PV) (vs : List Value) (hl : vs.length = l.length) (h1 : allOne l = true) (hp : ∀ (j : Nat) y v, l[j]? = some y → vs[j]? = some v → PR F w y v) :
      PR F w (.agg l) (.agg vs.toArray)
  | bn : PR F w (.bx none) (.pointer none)
  | bx (x : PV) (r o : Nat) (vals : Nat → Value) (hF : F r) (h1 : allOne x.cs = true) (hv : ∀ (j : Nat) y, x.cs[j]? = some y → w.cell? ⟨r, o + j, none⟩ = some (vals j)) (hp : ∀ (j : Nat) y, x.cs[j]? = some y → PR F w y (vals j)) :
      PR F w (.bx (some x)) (.pointer (some ⟨r, o, none⟩))

theorem cell_block {w w' : World} {r o : Nat} (h : w'.heap[r]? = w.heap[r]?) : w'.cell? ⟨r, o, none⟩ = w.cell? ⟨r, o, none⟩ := by
  simp only [World.cell?, h]

theorem PR.mono {F F' : Nat → Prop} {w w' : World} {x : PV} {v : Value} (h : PR F w x v) (hF : ∀ r, F r → F' r) (hw : ∀ r, F r → w'.heap[r]? = w.heap[r]?) : PR F' w' x v := by
  induction h with
  | raw v h => exact .raw v h
  | nil A c => exact .nil A c
  | lst l r off c sz n vals hr hn hc hs hv hp ih => exact .lst l r off c sz n vals (hF r hr) hn hc hs (fun i x j y h1 h2 => (cell_block (hw r hr)).trans (hv i x j y h1 h2)) ih
  | agg l vs hl h1 hp ih => exact .agg l vs hl h1 ih
  | bn => exact .bn
  | bx x r o vals hr h1 hv hp ih => exact .bx x r o vals (hF r hr) h1 (fun j y hj => (cell_block (hw r hr)).trans (hv j y hj)) ih

theorem allOne_get {l : List PV} (h : allOne l = true) {j : Nat} {y : PV} (hj : l[j]? = some y) : y.one = true := by
  induction l generalizing j with
  | nil => simp at hj
  | cons x l ih =>
    simp only [allOne, Bool.and_eq_true] at h
    cases j with
    | zero => simp at hj; subst hj; exact h.1
    | succ j => exact ih h.2 (by simpa using hj)

theorem PR.oneCell {F : Nat → Prop} {w : World} {x : PV} {v : Value} (h : PR F w x v) (h1 : x.one = true) : v.oneCell' = true := by
  cases h with
  | raw v h => exact h
  | nil => rfl
  | lst => rfl
  | agg => simp [PV.one] at h1
  | bn => rfl
  | bx => rfl

/-- A value of a frame: pure, or a handle of a block of the call's own. -/
inductive AV where
  | dead
  | p (x : PV)
  | tl (l : List PV)
  | ptr (b off : Nat)
  | el (b sz i off : Nat)
  | fp (x : PV) (off : Nat)
  | row (b sz o n : Nat)
  | agg (l : List AV)
  | tup (l : List AV)
  | mp (b : Nat)
  | fn (f : Nat) (l : List AV)
  deriving Inhabited

/-- How many cells a block has that may be written. -/
def rowLen (w : World) (r : Nat) : Option Nat :=
  match w.heap[r]? with
  | some (.cells cs _ _) => some cs.size
  | _ => none

theorem rowLen_some {w : World} {r n : Nat} (h : rowLen w r = some n) : ∃ cs T z, w.heap[r]? = some (.cells cs T z) ∧ cs.size = n := by
  unfold rowLen at h
  split at h
  · rename_i cs T z hh; exact ⟨cs, T, z, hh, by simpa using h⟩
  · cases h

theorem rowLen_of {w : World} {r : Nat} {cs : Array Value} {T : TypeId} {z : Nat × Nat} (h : w.heap[r]? = some (.cells cs T z)) : rowLen w r = some cs.size := by
  simp [rowLen, h]

abbrev Loc := Nat → Option (Nat × Nat)

inductive VR (F : Nat → Prop) (ι : Loc) (w : World) : AV → Value → Prop
  | dead (v : Value) : VR F ι w .dead v
  | p (x : PV) (v : Value) (h : PR F w x v) : VR F ι w (.p x) v
  | tl (l : List PV) (A : Option Addr) (n : Nat) (hn : n = l.length) (h : PR F w (.lst l) (.slice A n n)) : VR F ι w (.tl l) (.slice A n n)
  | ptr (b off r : Nat) (h : ι b = some (r, 0)) : VR F ι w (.ptr b off) (.pointer (some ⟨r, off, none⟩))
  | el (b sz i off r β : Nat) (h : ι b = some (r, β)) : VR F ι w (.el b sz i off) (.pointer (some ⟨r, β + (i * sz + off), none⟩))
  | fp (x : PV) (off r o : Nat) (vals : Nat → Value) (hF : F r) (hv : ∀ (j : Nat) y, x.cs[j]? = some y → w.cell? ⟨r, o + j, none⟩ = some (vals j)) (hp : ∀ (j : Nat) y, x.cs[j]? = some y → PR F w y (vals j)) (h1 : allOne x.cs = true) :
      VR F ι w (.fp x off) (.pointer (some ⟨r, o + off, none⟩))
  | row (b sz o n r β c N : Nat) (h : ι b = some (r, β)) (hN : rowLen w r = some N) (hn : n ≤ c) (hc : β + (o + c) * sz ≤ N) : VR F ι w (.row b sz o n) (.slice (some ⟨r, β + o * sz, none⟩) n c)
  | row0 (b sz o : Nat) (A : Option Addr) : VR F ι w (.row b sz o 0) (.slice A 0 0)
  | agg (l : List AV) (vs : List Value) (hl : vs.length = l.length) (h1 : ∀ v ∈ vs, v.oneCell' = true) (hp : ∀ (j : Nat) y v, l[j]? = some y → vs[j]? = some v → VR F ι w y v) : VR F ι w (.agg l) (.agg vs.toArray)
  | tup (l : List AV) (vs : List Value) (hl : vs.length = l.length) (hp : ∀ (j : Nat) y v, l[j]? = some y → vs[j]? = some v → VR F ι w y v) : VR F ι w (.tup l) (.tuple vs.toArray)
  | mp (b r : Nat) (h : ι b = some (r, 0)) : VR F ι w (.mp b) (.map (some r))
  | fn (f : Nat) (l : List AV) (vs : List Value) (hl : vs.length = l.length) (hp : ∀ (j : Nat) y v, l[j]? = some y → vs[j]? = some v → VR F ι w y v) : VR F ι w (.fn f l) (.func (.func f) #[] vs.toArray)

/-- Handles of block b are forgotten. -/
def AV.kill (b : Nat) : AV → AV
  | .ptr c off => bif Nat.beq c b then .dead else .ptr c off
  | .el c sz i off => bif Nat.beq c b then .dead else .el c sz i off
  | .row c sz o n => bif Nat.beq c b then .dead else .row c sz o n
  | .agg l => .agg (killL b l)
  | .tup l => .tup (killL b l)
  | .mp c => bif Nat.beq c b then .dead else .mp c
  | .fn f l => .fn f (killL b l)
  | x => x
where killL (b : Nat) : List AV → List AV
  | [] => []
  | x :: l => x.kill b :: killL b l

theorem killL_get (b : Nat) : ∀ (l : List AV) (j : Nat), (AV.kill.killL b l)[j]? = (l[j]?).map (AV.kill b)
  | [], j => by simp [AV.kill.killL]
  | x :: l, 0 => by simp [AV.kill.killL]
  | x :: l, j + 1 => by simp [AV.kill.killL, killL_get b l j]
theorem killL_len (b : Nat) : ∀ (l : List AV), (AV.kill.killL b l).length = l.length
  | [] => rfl
  | x :: l => by simp [AV.kill.killL, killL_len b l]

/-- What stands, when the places of all blocks but b stand and nothing gets shorter. -/
theorem VR.kill {F F' : Nat → Prop} {ι ι' : Loc} {w w' : World} {x : AV} {v : Value} (b : Nat) (h : VR F ι w x v) (hF : ∀ r, F r → F' r) (hw : ∀ r, F r → w'.heap[r]? = w.heap[r]?)
    (hι : ∀ c, c ≠ b → ι' c = ι c) (hl : ∀ c r β N, c ≠ b → ι c = some (r, β) → rowLen w r = some N → rowLen w' r = some N) : VR F' ι' w' (x.kill b) v := by
  induction h with
  | dead v => exact .dead v
  | p x v h => exact .p x v (h.mono hF hw)
  | tl l A n hn h => exact .tl l A n hn (h.mono hF hw)
  | ptr c off r h =>
    simp only [AV.kill]
    by_cases e : c = b
    · subst e; simp; exact .dead _
    · rw [beq_ff e]; exact .ptr c off r ((hι c e).trans h)
  | el c sz i off r β h =>
    simp only [AV.kill]
    by_cases e : c = b
    · subst e; simp; exact .dead _
    · rw [beq_ff e]; exact .el c sz i off r β ((hι c e).trans h)
  | fp x off r o vals hr hv hp h1 => exact .fp x off r o vals (hF r hr) (fun j y hj => (cell_block (hw r hr)).trans (hv j y hj)) (fun j y hj => (hp j y hj).mono hF hw) h1
  | row c sz o n r β cc N h hN hn hc =>
    simp only [AV.kill]
    by_cases e : c = b
    · subst e; simp; exact .dead _
    · rw [beq_ff e]; exact .row c sz o n r β cc N ((hι c e).trans h) (hl c r β N e h hN) hn hc
  | row0 c sz o A =>
    simp only [AV.kill]
    by_cases e : c = b
    · subst e; simp; exact .dead _
    · rw [beq_ff e]; exact .row0 c sz o A
  | agg l vs hl' h1 hp ih =>
    refine .agg _ vs (by rw [killL_len]; exact hl') h1 fun j y v hy hv => ?_
    rw [killL_get] at hy
    obtain ⟨y0, hy0, rfl⟩ := Option.map_eq_some_iff.mp hy
    exact ih j y0 v hy0 hv
  | tup l vs hl' hp ih =>
    refine .tup _ vs (by rw [killL_len]; exact hl') fun j y v hy hv => ?_
    rw [killL_get] at hy
    obtain ⟨y0, hy0, rfl⟩ := Option.map_eq_some_iff.mp hy
    exact ih j y0 v hy0 hv
  | mp c r h =>
    simp only [AV.kill]
    by_cases e : c = b
    · subst e; simp; exact .dead _
    · rw [beq_ff e]; exact .mp c r ((hι c e).trans h)
  | fn f l vs hl' hp ih =>
    refine .fn f _ vs (by rw [killL_len]; exact hl') fun j y v hy hv => ?_
    rw [killL_get] at hy
    obtain ⟨y0, hy0, rfl⟩ := Option.map_eq_some_iff.mp hy
    exact ih j y0 v hy0 hv

/-- Nothing is forgotten where no place changes. -/
theorem VR.mono {F F' : Nat → Prop} {ι ι' : Loc} {w w' : World} {x : AV} {v : Value} (h : VR F ι w x v) (hF : ∀ r, F r → F' r) (hw : ∀ r, F r → w'.heap[r]? = w.heap[r]?)
    (hι : ∀ c r, ι c = some r → ι' c = some r) (hl : ∀ c r β N, ι c = some (r, β) → rowLen w r = some N → rowLen w' r = some N) : VR F' ι' w' x v := by
  induction h with
  | dead v => exact .dead v
  | p x v h => exact .p x v (h.mono hF hw)
  | tl l A n hn h => exact .tl l A n hn (h.mono hF hw)
  | ptr c off r h => exact .ptr c off r (hι _ _ h)
  | el c sz i off r β h => exact .el c sz i off r β (hι _ _ h)
  | fp x off r o vals hr hv hp h1 => exact .fp x off r o vals (hF r hr) (fun j y hj => (cell_block (hw r hr)).trans (hv j y hj)) (fun j y hj => (hp j y hj).mono hF hw) h1
  | row c sz o n r β cc N h hN hn hc => exact .row c sz o n r β cc N (hι _ _ h) (hl c r β N h hN) hn hc
  | row0 c sz o A => exact .row0 c sz o A
  | agg l vs hl' h1 hp ih => exact .agg l vs hl' h1 ih
  | tup l vs hl' hp ih => exact .tup l vs hl' ih
  | mp c r h => exact .mp c r (hι _ _ h)
  | fn f l vs hl' hp ih => exact .fn f l vs hl' ih

/-! ### Blocks -/
inductive Bk where
  | dead
  | box (T : TypeId) (c : List AV)
  | row (T : TypeId) (sz : Nat) (l : List PV)
  | fz (T : TypeId) (sz : Nat) (l : List PV)
  | lend (T : TypeId) (sz : Nat) (l : List PV)
  | map (T : TypeId) (l : List (Value × PV))
  | fb (l : List PV)
  deriving Inhabited
abbrev Sto := List Bk
def Bk.isBox : Bk → Bool
  | .box _ _ => true
  | .map _ _ => true
  | .lend _ _ _ => true
  | .fb _ => true
  | _ => false
/-- May it be written? -/
def Bk.w : Bk → Bool
  | .box _ _ => true
  | .row _ _ _ => true
  | .lend _ _ _ => true
  | .map _ _ => true
  | _ => false
def at_ (σ : Sto) (b : Nat) : Bk := match σ, b with
  | [], _ => .dead
  | k :: _, 0 => k
  | _ :: s, b + 1 => at_ s b
def set_ (σ : Sto) (b : Nat) (k : Bk) : Sto := match σ, b with
  | [], _ => []
  | _ :: s, 0 => k :: s
  | x :: s, b + 1 => x :: set_ s b k

theorem at_set_self : ∀ (σ : Sto) (b : Nat) (k : Bk), at_ σ b ≠ .dead → at_ (set_ σ b k) b = k
  | [], b, k, h => by cases b <;> simp [at_] at h
  | x :: s, 0, k, h => rfl
  | x :: s, b + 1, k, h => at_set_self s b k h
theorem at_set_ne : ∀ (σ : Sto) (b c : Nat) (k : Bk), c ≠ b → at_ (set_ σ b k) c = at_ σ c
  | [], b, c, k, h => rfl
  | x :: s, 0, 0, k, h => absurd rfl h
  | x :: s, 0, c + 1, k, h => rfl
  | x :: s, b + 1, 0, k, h => rfl
  | x :: s, b + 1, c + 1, k, h => at_set_ne s b c k (fun e => h (by rw [e]))
theorem at_app_old : ∀ (σ : Sto) (b : Nat) (k : Bk), b < σ.length → at_ (σ ++ [k]) b = at_ σ b
  | [], b, k, h => by simp at h
  | x :: s, 0, k, h => rfl
  | x :: s, b + 1, k, h => at_app_old s b k (by simpa using h)
theorem at_app_new : ∀ (σ : Sto) (k : Bk), at_ (σ ++ [k]) σ.length = k
  | [], k => rfl
  | x :: s, k => at_app_new s k
theorem at_app_big : ∀ (σ : Sto) (b : Nat) (k : Bk), σ.length < b → at_ (σ ++ [k]) b = .dead
  | [], 0, k, h => by simp at h
  | [], b + 1, k, h => by cases b <;> rfl
  | x :: s, 0, k, h => by simp at h
  | x :: s, b + 1, k, h => at_app_big s b k (by simpa using h)
theorem at_big : ∀ (σ : Sto) (b : Nat), σ.length ≤ b → at_ σ b = .dead
  | [], b, h => by cases b <;> rfl
  | x :: s, 0, h => by simp at h
  | x :: s, b + 1, h => at_big s b (by simpa using h)
theorem at_lt {σ : Sto} {b : Nat} (h : at_ σ b ≠ .dead) : b < σ.length := Nat.lt_of_not_le fun hh => h (at_big σ b hh)

def RowAt (F : Nat → Prop) (w : World) (T : TypeId) (sz : Nat) (l : List PV) : Option (Nat × Nat) → Prop
  | none => l = []
  | some (r, β) => ∃ cs, w.heap[r]? = some (.cells cs T (0, 0)) ∧ β + l.length * sz ≤ cs.size ∧ (∀ (i : Nat) (x : PV), l[i]? = some x → PV.fit sz x) ∧
      ∀ (i : Nat) (x : PV) (j : Nat) (y : PV) (v : Value), l[i]? = some x → x.cs[j]? = some y → cs[β + (i * sz + j)]? = some v → PR F w y v
def MapAt (F : Nat → Prop) (w : World) (l : List (Value × PV)) (p : Option (Nat × Nat)) : Prop :=
  ∃ r es c, p = some (r, 0) ∧ w.heap[r]? = some (.map es c) ∧ es.size = l.length ∧ ∀ (j : Nat) e kx, es[j]? = some e → l[j]? = some kx → e.key = kx.1 ∧ PR F w kx.2 e.val
def FbAt (F : Nat → Prop) (w : World) (l : List PV) (p : Option (Nat × Nat)) : Prop :=
  ∃ r cs T, p = some (r, 0) ∧ F r ∧ w.heap[r]? = some (.cells cs T (0, 0)) ∧ cs.size = l.length ∧ allOne l = true ∧ ∀ (j : Nat) x v, l[j]? = some x → cs[j]? = some v → PR F w x v
def BR (F : Nat → Prop) (ι : Loc) (w : World) : Bk → Option (Nat × Nat) → Prop
  | .dead, _ => True
  | .box T c, p => ∃ r cs, p = some (r, 0) ∧ w.heap[r]? = some (.cells cs T (0, 0)) ∧ cs.size = c.length ∧ (∀ v ∈ cs, v.oneCell' = true) ∧ ∀ (j : Nat) x v, c[j]? = some x → cs[j]? = some v → VR F ι w x v
  | .row T sz l, p => RowAt F w T sz l p
  | .fz T sz l, p => RowAt F w T sz l p ∧ ∀ r β, p = some (r, β) → F r
  | .lend T sz l, p => RowAt F w T sz l p
  | .map T l, p => MapAt F w l p
  | .fb l, p => FbAt F w l p

/-- The library's tables that are read: their blocks, and what lies there (none where the seat has no door). -/
def tabs : List (Nat × (Array Value → Prop)) := [(0, fun cs => ∃ m, cs[0]? = some (.int .i64 m))]
def TabOK (F : Nat → Prop) (w : World) : Prop := ∀ p ∈ tabs, F p.1 ∧ ∃ cs T z, w.heap[p.1]? = some (.cells cs T z) ∧ p.2 cs
theorem TabOK.mono {F F' : Nat → Prop} {w w' : World} (h : TabOK F w) (hF : ∀ r, F r → F' r) (hw : ∀ r, F r → w'.heap[r]? = w.heap[r]?) : TabOK F' w' := fun p hp => by
  obtain ⟨h1, cs, T, z, e, hc⟩ := h p hp
  exact ⟨hF _ h1, cs, T, z, (hw _ h1).trans e, hc⟩

structure SR (F : Nat → Prop) (ι : Loc) (w : World) (σ : Sto) : Prop where
  bk : ∀ b, BR F ι w (at_ σ b) (ι b)
  apart : ∀ b b' r r' β β', (at_ σ b).w = true → (at_ σ b').w = true → ι b = some (r, β) → ι b' = some (r', β') → b ≠ b' → r ≠ r'
  own : ∀ b r β, (at_ σ b).w = true → ι b = some (r, β) → ¬ F r
  top : ∀ b, σ.length ≤ b → ι b = none
  tab : TabOK F w

/-! ### The state of a call -/
abbrev Fr := List (Nat × AV)
def look (t : Nat) : Fr → AV
  | [] => .dead
  | (k, x) :: r => bif Nat.beq k t then x else look t r

def FR (F : Nat → Prop) (ι : Loc) (w : World) (fr : Fr) (a : Act) : Prop := ∀ t, VR F ι w (look t fr) (a.tmps.getD t undef)

/-- What a call began with: which blocks it may write, which are never written, the world, the places of the blocks that came in and which of these stay where they are. -/
structure Cx where
  O : Nat → Prop
  F0 : Nat → Prop
  w0 : World
  ι0 : Loc
  B0 : Nat → Prop
  nt : Nat
  df : List Deferred

structure Inv (cx : Cx) (F : Nat → Prop) (ι : Loc) (σ : Sto) (w : World) : Prop where
  os : w.os = cx.w0.os
  tape : w.tape = cx.w0.tape
  output : w.output = cx.w0.output
  size : cx.w0.heap.size ≤ w.heap.size
  f0 : ∀ r, cx.F0 r → F r
  keep : ∀ r, r < cx.w0.heap.size → ¬ cx.O r → w.heap[r]? = cx.w0.heap[r]?
  newF : ∀ r, F r → r < cx.w0.heap.size → cx.F0 r ∨ cx.O r
  own : ∀ b r β, (at_ σ b).w = true → ι b = some (r, β) → r < cx.w0.heap.size → cx.O r
  fix : ∀ b, cx.B0 b → ι b = cx.ι0 b
  lt : ∀ r, F r → r < w.heap.size
  bx : ∀ b, cx.B0 b → (at_ σ b).isBox = true
  len : ∀ r N, rowLen cx.w0 r = some N → rowLen w r = some N

structure St (cx : Cx) (F : Nat → Prop) (ι : Loc) (fr : Fr) (σ : Sto) (a : Act) (w : World) : Prop where
  fr : FR F ι w fr a
  sr : SR F ι w σ
  inv : Inv cx F ι σ w
  nt : a.tmps.size = cx.nt
  df : a.defers = cx.df

def Good (cx : Cx) (fr : Fr) (σ : Sto) (a : Act) (w : World) : Prop := ∃ F ι, St cx F ι fr σ a w

theorem own_lt {F : Nat → Prop} {ι : Loc} {w : World} {σ : Sto} (h : SR F ι w σ) {b r β : Nat} (hb : (at_ σ b).w = true) (hι : ι b = some (r, β)) : r < w.heap.size := by
  have hh := h.bk b
  rw [hι] at hh
  cases hk : at_ σ b with
  | dead => rw [hk] at hb; cases hb
  | fz => rw [hk] at hb; cases hb
  | fb => rw [hk] at hb; cases hb
  | box T c =>
    rw [hk] at hh
    obtain ⟨r', cs, e, hc, _⟩ := hh
    cases e
    exact (Array.getElem?_eq_some_iff.mp hc).1
  | row T sz l =>
    rw [hk] at hh
    obtain ⟨cs, hc, _⟩ := hh
    exact (Array.getElem?_eq_some_iff.mp hc).1
  | lend T sz l =>
    rw [hk] at hh
    obtain ⟨cs, hc, _⟩ := hh
    exact (Array.getElem?_eq_some_iff.mp hc).1
  | map T l =>
    rw [hk] at hh
    obtain ⟨r', es, c, e, hc, _⟩ := hh
    cases e
    exact (Array.getElem?_eq_some_iff.mp hc).1

/-- A value is put into a slot. -/
theorem St.put {cx : Cx} {F : Nat → Prop} {ι : Loc} {fr : Fr} {σ : Sto} {a : Act} {w : World} (h : St cx F ι fr σ a w) {d : Nat} (hd : Nat.blt d cx.nt = true) {x : AV} {v : Value} (hx : VR F ι w x v) :
    St cx F ι ((d, x) :: fr) σ (a.put (some d) v) w := by
  refine ⟨fun t => ?_, h.sr, h.inv, by simpa [Act.put] using h.nt, by simpa [Act.put] using h.df⟩
  have hlt : d < a.tmps.size := by rw [h.nt]; simpa using hd
  simp only [look, Act.put]
  by_cases e : d = t
  · subst e
    rw [beq_tt]
    simpa [Array.getElem?_setIfInBounds, hlt] using hx
  · rw [beq_ff e]
    have := h.fr t
    simpa [Array.getElem?_setIfInBounds, e] using this

/-- A slot's value is forgotten. -/
theorem St.dead {cx : Cx} {F : Nat → Prop} {ι : Loc} {fr : Fr} {σ : Sto} {a : Act} {w : World} (h : St cx F ι fr σ a w) {d : Nat} (hd : Nat.blt d cx.nt = true) (v : Value) :
    St cx F ι ((d, .dead) :: fr) σ (a.put (some d) v) w := h.put hd (.dead v)
end Go.Proofs.Sy
