/- The state of a call while memory changes. -/
import Derived.Test.YtnnalcglfgapbaaDoorSyC
set_option linter.unusedVariables false
set_option linter.unusedSimpArgs false
namespace Go.Proofs.Sy
open Go Go.RowKit

section
variable {P : Program} {cx : Cx} {F : Nat → Prop} {ι : Loc} {fr : Fr} {σ : Sto} {a : Act} {w w' : World}

theorem rowLen_same {r : Nat} (h : w'.heap[r]? = w.heap[r]?) : rowLen w' r = rowLen w r := by unfold rowLen; rw [h]

theorem rowLen_lt {r n : Nat} (h : rowLen w r = some n) : r < w.heap.size := by
  obtain ⟨cs, T, _, hh, _⟩ := rowLen_some h
  exact (Array.getElem?_eq_some_iff.mp hh).1

/-- What stands when nothing old changes. -/
theorem VR.up {x : AV} {v : Value} {ι' : Loc} (h : VR F ι w x v) (hlt : ∀ r, F r → r < w.heap.size) (hb : Below w.heap.size w w') (hι : ∀ c r, ι c = some r → ι' c = some r) : VR F ι' w' x v := by
  have hF : ∀ r, F r → w'.heap[r]? = w.heap[r]? := fun r hr => hb.block r (hlt r hr)
  induction h with
  | dead v => exact .dead v
  | p x v h => exact .p x v (h.mono (fun _ h => h) hF)
  | tl l A n hn h => exact .tl l A n hn (h.mono (fun _ h => h) hF)
  | ptr c off r h => exact .ptr c off r (hι _ _ h)
  | el c sz i off r β h => exact .el c sz i off r β (hι _ _ h)
  | fp x off r o vals hr hv hp h1 => exact .fp x off r o vals hr (fun j y hj => (cell_block (hF r hr)).trans (hv j y hj)) (fun j y hj => (hp j y hj).mono (fun _ h => h) hF) h1
  | row c sz o n r β cc N h hN hn hc => exact .row c sz o n r β cc N (hι _ _ h) ((rowLen_same (hb.block r (rowLen_lt hN))).trans hN) hn hc
  | row0 c sz o A => exact .row0 c sz o A
  | agg l vs hl' h1 hp ih => exact .agg l vs hl' h1 ih
  | tup l vs hl' hp ih => exact .tup l vs hl' ih
  | mp c r h => exact .mp c r (hι _ _ h)
  | fn f l vs hl' hp ih => exact .fn f l vs hl' ih

theorem RowAt.mono {F F' : Nat → Prop} {T : TypeId} {sz : Nat} {l : List PV} {p : Option (Nat × Nat)} (h : RowAt F w T sz l p) (hF : ∀ r, F r → F' r) (hw : ∀ r, F r → w'.heap[r]? = w.heap[r]?)
    (hp : ∀ r β, p = some (r, β) → w'.heap[r]? = w.heap[r]?)   : RowAt F' w' T sz l p := by
  cases p with
  | none => exact h
  | some q =>
    obtain ⟨r, β⟩ := q
    obtain ⟨cs, h1, h2, h3, h4⟩ := h
    exact ⟨cs, (hp r β rfl).trans h1, h2, h3, fun i x j y v a b c => (h4 i x j y v a b c).mono hF hw⟩

theorem MapAt.mono {F F' : Nat → Prop} {l : List (Value × PV)} {p : Option (Nat × Nat)} (h : MapAt F w l p) (hF : ∀ r, F r → F' r) (hw : ∀ r, F r → w'.heap[r]? = w.heap[r]?)
    (hp : ∀ r β, p = some (r, β) → w'.heap[r]? = w.heap[r]?) : MapAt F' w' l p := by
  obtain ⟨r, es, c, e, h1, h2, h3⟩ := h
  exact ⟨r, es, c, e, (hp r 0 e).trans h1, h2, fun j en kx a b => ⟨(h3 j en kx a b).1, (h3 j en kx a b).2.mono hF hw⟩⟩
theorem FbAt.mono {F F' : Nat → Prop} {l : List PV} {p : Option (Nat × Nat)} (h : FbAt F w l p) (hF : ∀ r, F r → F' r) (hw : ∀ r, F r → w'.heap[r]? = w.heap[r]?) : FbAt F' w' l p := by
  obtain ⟨r, cs, T, e, h0, h1, h2, h3, h4⟩ := h
  exact ⟨r, cs, T, e, hF r h0, (hw r h0).trans h1, h2, h3, fun j x v a b => (h4 j x v a b).mono hF hw⟩
theorem BR.up {k : Bk} {p : Option (Nat × Nat)} {ι' : Loc} (h : BR F ι w k p) (hlt : ∀ r, F r → r < w.heap.size) (hb : Below w.heap.size w w') (hι : ∀ c r, ι c = some r → ι' c = some r)
    (hp : ∀ r β, p = some (r, β) → r < w.heap.size) : BR F ι' w' k p := by
  have hF : ∀ r, F r → w'.heap[r]? = w.heap[r]? := fun r hr => hb.block r (hlt r hr)
  cases k with
  | dead => trivial
  | box T c =>
    obtain ⟨r, cs, e, h1, h2, h3, h4⟩ := h
    exact ⟨r, cs, e, (hb.block r (hp r 0 e)).trans h1, h2, h3, fun j x v hx hv => (h4 j x v hx hv).up hlt hb hι⟩
  | row T sz l => exact RowAt.mono h (fun _ h => h) hF (fun r β e => hb.block r (hp r β e))
  | lend T sz l => exact RowAt.mono h (fun _ h => h) hF (fun r β e => hb.block r (hp r β e))
  | fz T sz l => exact ⟨RowAt.mono h.1 (fun _ h => h) hF (fun r β e => hb.block r (hp r β e)), h.2⟩
  | map T l => exact MapAt.mono h (fun _ h => h) hF (fun r β e => hb.block r (hp r β e))
  | fb l => exact FbAt.mono h (fun _ h => h) hF

theorem BR.lt {k : Bk} {p : Option (Nat × Nat)} (h : BR F ι w k p) (hk : k ≠ .dead) {r β : Nat} (hp : p = some (r, β)) : r < w.heap.size := by
  subst hp
  cases k with
  | dead => exact absurd rfl hk
  | box T c =>
    obtain ⟨r', cs, e, h1, _⟩ := h
    cases e
    exact (Array.getElem?_eq_some_iff.mp h1).1
  | row T sz l => obtain ⟨cs, h1, _⟩ := h; exact (Array.getElem?_eq_some_iff.mp h1).1
  | lend T sz l => obtain ⟨cs, h1, _⟩ := h; exact (Array.getElem?_eq_some_iff.mp h1).1
  | fz T sz l => obtain ⟨⟨cs, h1, _⟩, _⟩ := h; exact (Array.getElem?_eq_some_iff.mp h1).1
  | map T l =>
    obtain ⟨r', es, c, e, h1, _⟩ := h
    cases e
    exact (Array.getElem?_eq_some_iff.mp h1).1
  | fb l =>
    obtain ⟨r', cs, T, e, _, h1, _⟩ := h
    cases e
    exact (Array.getElem?_eq_some_iff.mp h1).1

/-- Which blocks may be written: all, or these. -/
def inW (b : Nat) : Option (List Nat) → Bool
  | none => true
  | some l => memN b l
/-- What stays behind an operation that writes no other blocks than these. -/
structure Step (wr : Option (List Nat)) (F : Nat → Prop) (ι : Loc) (σ : Sto) (w : World) (F' : Nat → Prop) (ι' : Loc) (σ' : Sto) (w' : World) : Prop where
  f : ∀ r, F r → F' r
  fw : ∀ r, F r → w'.heap[r]? = w.heap[r]?
  b : ∀ b r β, (at_ σ b).w = true → inW b wr = false → ι b = some (r, β) → w'.heap[r]? = w.heap[r]? ∧ (F' r ∨ ((at_ σ' b).w = true ∧ ι' b = some (r, β)))
theorem Step.refl {wr : Option (List Nat)} : Step wr F ι σ w F ι σ w := ⟨fun _ h => h, fun _ _ => rfl, fun _ _ _ h1 _ h2 => ⟨rfl, .inr ⟨h1, h2⟩⟩⟩
theorem Step.trans {wr : Option (List Nat)} {F1 F2 : Nat → Prop} {ι1 ι2 : Loc} {σ1 σ2 : Sto} {w1 w2 : World} (h : Step wr F ι σ w F1 ι1 σ1 w1) (k : Step wr F1 ι1 σ1 w1 F2 ι2 σ2 w2) : Step wr F ι σ w F2 ι2 σ2 w2 :=
  ⟨fun r hr => k.f r (h.f r hr), fun r hr => (k.fw r (h.f r hr)).trans (h.fw r hr), fun b r β h1 h2 h3 => by
    obtain ⟨e, hh⟩ := h.b b r β h1 h2 h3
    rcases hh with hh | ⟨h4, h5⟩
    · exact ⟨(k.fw r hh).trans e, .inl (k.f r hh)⟩
    · obtain ⟨e', hh⟩ := k.b b r β h4 h2 h5
      exact ⟨e'.trans e, hh⟩⟩
theorem St.stepUp {wr : Option (List Nat)} {F' : Nat → Prop} (h : St cx F ι fr σ a w) (hb : Below w.heap.size w w') (hF : ∀ r, F r → F' r) : Step wr F ι σ w F' ι σ w' :=
  ⟨hF, fun r hr => hb.block r (h.inv.lt r hr), fun b r β h1 _ h2 => ⟨hb.block r (own_lt h.sr h1 h2), .inr ⟨h1, h2⟩⟩⟩

/-- The world grows; nothing old changes. -/
theorem St.up (h : St cx F ι fr σ a w) (hb : Below w.heap.size w w') : St cx F ι fr σ a w' := by
  have hlt := h.inv.lt
  refine ⟨fun t => (h.fr t).up hlt hb (fun _ _ h => h), ⟨fun b => ?_, h.sr.apart, h.sr.own, h.sr.top, h.sr.tab.mono (fun _ h => h) (fun r hr => hb.block r (hlt r hr))⟩, ?_, h.nt, h.df⟩
  · by_cases hk : at_ σ b = .dead
    · rw [hk]; trivial
    · exact (h.sr.bk b).up hlt hb (fun _ _ h => h) (fun r β e => (h.sr.bk b).lt hk e)
  · have hi := h.inv
    exact ⟨hb.os.trans hi.os, hb.tape.trans hi.tape, hb.output.trans hi.output, Nat.le_trans hi.size hb.size, hi.f0, fun r hr hn => (hb.block r (Nat.lt_of_lt_of_le hr hi.size)).trans (hi.keep r hr hn), hi.newF, hi.own, hi.fix,
      fun r hr => Nat.lt_of_lt_of_le (hi.lt r hr) hb.size, hi.bx, fun r N h => (rowLen_same (hb.block r (rowLen_lt (hi.len r N h)))).trans (hi.len r N h)⟩

def put_ (ι : Loc) (b : Nat) (p : Option (Nat × Nat)) : Loc := fun c => bif Nat.beq c b then p else ι c
theorem put_self (ι : Loc) (b : Nat) (p : Option (Nat × Nat)) : put_ ι b p b = p := by simp only [put_, beq_tt, cond_true]
theorem put_ne (ι : Loc) {b c : Nat} (p : Option (Nat × Nat)) (h : c ≠ b) : put_ ι b p c = ι c := by simp only [put_, beq_ff h, cond_false]

theorem box_lt {b : Nat} (h : (at_ σ b).isBox = true) : b < σ.length := at_lt (fun e => by rw [e] at h; cases h)

/-- A new block. -/
theorem St.new {k : Bk} (h : St cx F ι fr σ a w) (hb : Below w.heap.size w w') (hk : k.w = true) (hs : w.heap.size < w'.heap.size)
    (hbr : BR F (put_ ι σ.length (some (w.heap.size, 0))) w' k (some (w.heap.size, 0))) : St cx F (put_ ι σ.length (some (w.heap.size, 0))) fr (σ ++ [k]) a w' := by
  have hlt := h.inv.lt
  have hι : ∀ c r, ι c = some r → put_ ι σ.length (some (w.heap.size, 0)) c = some r := fun c r hc => by
    by_cases e : c = σ.length
    · subst e; rw [h.sr.top _ (Nat.le_refl _)] at hc; cases hc
    · rw [put_ne _ _ e, hc]
  have hcase : ∀ b, b = σ.length ∨ b ≠ σ.length ∧ at_ (σ ++ [k]) b = at_ σ b := fun b => by
    by_cases e : b = σ.length
    · exact .inl e
    · refine .inr ⟨e, ?_⟩
      by_cases e2 : b < σ.length
      · exact at_app_old σ b k e2
      · rw [at_app_big σ b k (by omega), at_big σ b (by omega)]
  refine ⟨fun t => (h.fr t).up hlt hb hι, ⟨fun b => ?_, fun b b' r r' β β' h1 h2 h3 h4 hne => ?_, fun b r β h1 h2 => ?_, fun b hbl => ?_, h.sr.tab.mono (fun _ h => h) (fun r hr => hb.block r (hlt r hr))⟩, ?_, h.nt, h.df⟩
  · rcases hcase b with e | ⟨e, e2⟩
    · subst e; rw [at_app_new, put_self]; exact hbr
    · rw [e2, put_ne _ _ e]
      by_cases hk : at_ σ b = .dead
      · rw [hk]; trivial
      · exact (h.sr.bk b).up hlt hb hι (fun r β e => (h.sr.bk b).lt hk e)
  · rcases hcase b with e | ⟨e, e2⟩
    · rcases hcase b' with e' | ⟨e', e2'⟩
      · exact absurd (e.trans e'.symm) hne
      · subst e
        rw [put_self] at h3; cases h3
        rw [put_ne _ _ e'] at h4
        rw [e2'] at h2
        have := own_lt h.sr h2 h4
        omega
    · rw [put_ne _ _ e] at h3
      rw [e2] at h1
      rcases hcase b' with e' | ⟨e', e2'⟩
      · subst e'
        rw [put_self] at h4; cases h4
        have := own_lt h.sr h1 h3
        omega
      · rw [put_ne _ _ e'] at h4
        rw [e2'] at h2
        exact h.sr.apart b b' r r' β β' h1 h2 h3 h4 hne
  · rcases hcase b with e | ⟨e, e2⟩
    · subst e; rw [put_self] at h2; cases h2
      exact fun hF => absurd (hlt _ hF) (Nat.lt_irrefl _)
    · rw [put_ne _ _ e] at h2; rw [e2] at h1; exact h.sr.own b r β h1 h2
  · simp at hbl
    rw [put_ne _ _ (by omega)]
    exact h.sr.top b (by omega)
  · have hi := (h.up hb).inv
    refine ⟨hi.os, hi.tape, hi.output, hi.size, hi.f0, hi.keep, hi.newF, fun b r β h1 h2 hr => ?_, fun b hb0 => ?_, hi.lt, fun b hb0 => by rw [at_app_old σ b k (box_lt (hi.bx b hb0))]; exact hi.bx b hb0, hi.len⟩
    · rcases hcase b with e | ⟨e, e2⟩
      · subst e; rw [put_self] at h2; cases h2
        exact absurd hr (by have := h.inv.size; omega)
      · rw [put_ne _ _ e] at h2; rw [e2] at h1; exact hi.own b r β h1 h2 hr
    · rw [put_ne _ _ (Nat.ne_of_lt (box_lt (hi.bx b hb0)))]; exact hi.fix b hb0

theorem set_length : ∀ (σ : Sto) (b : Nat) (k : Bk), (set_ σ b k).length = σ.length
  | [], _, _ => rfl
  | _ :: s, 0, _ => rfl
  | x :: s, b + 1, k => by simp [set_, set_length s b k]

/-- Another world in which only the block r differs, and may be written still. -/
structure But (r : Nat) (w w' : World) : Prop where
  os : w'.os = w.os
  tape : w'.tape = w.tape
  output : w'.output = w.output
  size : w.heap.size ≤ w'.heap.size
  block : ∀ k, k < w.heap.size → k ≠ r → w'.heap[k]? = w.heap[k]?
  len : rowLen w' r = rowLen w r

theorem But.rowLen {r0 : Nat} (hb : But r0 w w') {r N : Nat} (h : Sy.rowLen w r = some N) : Sy.rowLen w' r = some N := by
  by_cases e : r = r0
  · subst e; exact hb.len.trans h
  · exact (rowLen_same (hb.block r (rowLen_lt h) e)).trans h

theorem VR.but {x : AV} {v : Value} {r0 : Nat} (h : VR F ι w x v) (hlt : ∀ r, F r → r < w.heap.size) (hn : ¬ F r0) (hb : But r0 w w') : VR F ι w' x v :=
  h.mono (fun _ h => h) (fun r hr => hb.block r (hlt r hr) (fun e => hn (e ▸ hr))) (fun _ _ h => h) (fun _ _ _ _ _ hN => hb.rowLen hN)

theorem BR.but {k : Bk} {p : Option (Nat × Nat)} {r0 : Nat} (h : BR F ι w k p) (hlt : ∀ r, F r → r < w.heap.size) (hn : ¬ F r0) (hb : But r0 w w') (hk : k ≠ .dead) (hp : ∀ r β, p = some (r, β) → r ≠ r0) : BR F ι w' k p := by
  have hF : ∀ r, F r → w'.heap[r]? = w.heap[r]? := fun r hr => hb.block r (hlt r hr) (fun e => hn (e ▸ hr))
  have hl : ∀ r β, p = some (r, β) → w'.heap[r]? = w.heap[r]? := fun r β e => hb.block r (h.lt hk e) (hp r β e)
  cases k with
  | dead => trivial
  | box T c =>
    obtain ⟨r, cs, e, h1, h2, h3, h4⟩ := h
    exact ⟨r, cs, e, (hl r 0 e).trans h1, h2, h3, fun j x v hx hv => (h4 j x v hx hv).but hlt hn hb⟩
  | row T sz l => exact RowAt.mono h (fun _ h => h) hF hl
  | lend T sz l => exact RowAt.mono h (fun _ h => h) hF hl
  | fz T sz l => exact ⟨RowAt.mono h.1 (fun _ h => h) hF hl, h.2⟩
  | map T l => exact MapAt.mono h (fun _ h => h) hF hl
  | fb l => exact FbAt.mono h (fun _ h => h) hF

theorem Inv.but {r0 b β : Nat} (h : St cx F ι fr σ a w) (hb : But r0 w w') (hw : (at_ σ b).w = true) (hι : ι b = some (r0, β)) : Inv cx F ι σ w' := by
  have hi := h.inv
  refine ⟨hb.os.trans hi.os, hb.tape.trans hi.tape, hb.output.trans hi.output, Nat.le_trans hi.size hb.size, hi.f0, fun r hr hn => (hb.block r (Nat.lt_of_lt_of_le hr hi.size) (fun e => ?_)).trans (hi.keep r hr hn), hi.newF, hi.own, hi.fix,
    fun r hr => Nat.lt_of_lt_of_le (hi.lt r hr) hb.size, hi.bx, fun r N h => hb.rowLen (hi.len r N h)⟩
  subst e
  exact hn (hi.own b r β hw hι hr)

/-- The block b gets another content, in its place. -/
theorem St.set {b r β : Nat} {k : Bk} (h : St cx F ι fr σ a w) (hw : (at_ σ b).w = true) (hι : ι b = some (r, β)) (hb : But r w w') (hk : k.w = true) (hkb : (at_ σ b).isBox = true → k.isBox = true) (hbr : BR F ι w' k (some (r, β))) :
    St cx F ι fr (set_ σ b k) a w' := by
  have hlt := h.inv.lt
  have hn : ¬ F r := h.sr.own b r β hw hι
  have hd : at_ σ b ≠ .dead := fun e => by rw [e] at hw; cases hw
  have hiv := Inv.but h hb hw hι
  have hws : ∀ c, (at_ (set_ σ b k) c).w = (at_ σ c).w := fun c => by
    by_cases e : c = b
    · subst e; rw [at_set_self σ c k hd, hk, hw]
    · rw [at_set_ne σ b c k e]
  refine ⟨fun t => (h.fr t).but hlt hn hb, ⟨fun c => ?_, fun c c' r r' β β' h1 h2 => ?_, fun c r β h1 => ?_, fun c hc => h.sr.top c (by rwa [set_length] at hc), h.sr.tab.mono (fun _ h => h) (fun r hr => hb.block r (hlt r hr) (fun e => hn (e ▸ hr)))⟩, ?_, h.nt, h.df⟩
  · by_cases e : c = b
    · subst e; rw [at_set_self σ c k hd, hι]; exact hbr
    · rw [at_set_ne σ b c k e]
      by_cases hk0 : at_ σ c = .dead
      · rw [hk0]; trivial
      · refine (h.sr.bk c).but hlt hn hb hk0 (fun r' β' e' => ?_)
        cases hcw : (at_ σ c).w with
        | true => exact h.sr.apart c b r' r β' β hcw hw e' hι e
        | false =>
          have hb2 := h.sr.bk c
          cases hkk : at_ σ c with
          | dead => exact absurd hkk hk0
          | box => rw [hkk] at hcw; cases hcw
          | row => rw [hkk] at hcw; cases hcw
          | lend => rw [hkk] at hcw; cases hcw
          | map => rw [hkk] at hcw; cases hcw
          | fz T sz l =>
            rw [hkk] at hb2
            exact fun e2 => hn (e2 ▸ hb2.2 r' β' e')
          | fb l =>
            rw [hkk] at hb2
            obtain ⟨r2, cs2, T2, e3, hF2, _⟩ := hb2
            rw [e'] at e3; cases e3
            exact fun e2 => hn (e2 ▸ hF2)
  · rw [hws] at h1 h2; exact h.sr.apart c c' r r' β β' h1 h2
  · rw [hws] at h1; exact h.sr.own c r β h1
  · exact ⟨hiv.os, hiv.tape, hiv.output, hiv.size, hiv.f0, hiv.keep, hiv.newF, fun c r β h1 => by rw [hws] at h1; exact hiv.own c r β h1, hiv.fix, hiv.lt, fun c hc => by
      by_cases e : c = b
      · subst e; rw [at_set_self σ c k hd]; exact hkb (hiv.bx c hc)
      · rw [at_set_ne σ b c k e]; exact hiv.bx c hc, hiv.len⟩

/-- The row b is not written any more. -/
theorem St.freeze {T : TypeId} {b sz : Nat} {l : List PV} (h : St cx F ι fr σ a w) (hr : at_ σ b = .row T sz l) : ∃ F', (∀ r, F r → F' r) ∧ St cx F' ι fr (set_ σ b (.fz T sz l)) a w ∧ ∀ wr, Step wr F ι σ w F' ι (set_ σ b (.fz T sz l)) w := by
  have hd : at_ σ b ≠ .dead := fun e => by rw [e] at hr; cases hr
  have hwb : (at_ σ b).w = true := by rw [hr]; rfl
  refine ⟨fun r => F r ∨ ∃ β, ι b = some (r, β), fun r h => .inl h, ?_, fun wr => ⟨fun r h => .inl h, fun _ _ => rfl, fun c r β h1 _ h2 => ⟨rfl, ?_⟩⟩⟩
  case refine_2 =>
    by_cases e : c = b
    · subst e; exact .inl (.inr ⟨β, h2⟩)
    · exact .inr ⟨by rw [at_set_ne σ b c _ e]; exact h1, h2⟩
  have hmono : ∀ {x v}, VR F ι w x v → VR (fun r => F r ∨ ∃ β, ι b = some (r, β)) ι w x v := fun h => h.mono (fun _ h => .inl h) (fun _ _ => rfl) (fun _ _ h => h) (fun _ _ _ _ _ h => h)
  have hrow : ∀ {T sz l p}, RowAt F w T sz l p → RowAt (fun r => F r ∨ ∃ β, ι b = some (r, β)) w T sz l p := fun h => h.mono (fun _ h => .inl h) (fun _ _ => rfl) (fun _ _ _ => rfl)
  have hws : ∀ c, (at_ (set_ σ b (.fz T sz l)) c).w = true → c ≠ b ∧ (at_ σ c).w = true := fun c hc => by
    by_cases e : c = b
    · subst e; rw [at_set_self σ c _ hd] at hc; cases hc
    · rw [at_set_ne σ b c _ e] at hc; exact ⟨e, hc⟩
  refine ⟨fun t => hmono (h.fr t), ⟨fun c => ?_, fun c c' r r' β β' h1 h2 => ?_, fun c r β h1 h2 => ?_, fun c hc => h.sr.top c (by rwa [set_length] at hc), h.sr.tab.mono (fun _ h => .inl h) (fun _ _ => rfl)⟩, ?_, h.nt, h.df⟩
  · by_cases e : c = b
    · subst e; rw [at_set_self σ c _ hd]
      have := h.sr.bk c
      rw [hr] at this
      exact ⟨hrow this, fun r β e => .inr ⟨β, e⟩⟩
    · rw [at_set_ne σ b c _ e]
      have := h.sr.bk c
      cases hk : at_ σ c with
      | dead => trivial
      | box T d =>
        rw [hk] at this
        obtain ⟨r, cs, e, h1, h2, h3, h4⟩ := this
        exact ⟨r, cs, e, h1, h2, h3, fun j x v hx hv => hmono (h4 j x v hx hv)⟩
      | row T s q => rw [hk] at this; exact hrow this
      | lend T s q => rw [hk] at this; exact hrow this
      | fz T s q => rw [hk] at this; exact ⟨hrow this.1, fun r β e => .inl (this.2 r β e)⟩
      | map T q => rw [hk] at this; exact MapAt.mono this (fun _ h => .inl h) (fun _ _ => rfl) (fun _ _ _ => rfl)
      | fb q => rw [hk] at this; exact FbAt.mono this (fun _ h => .inl h) (fun _ _ => rfl)
  · exact h.sr.apart c c' r r' β β' (hws c h1).2 (hws c' h2).2
  · obtain ⟨hne, hw'⟩ := hws c h1
    rintro (hF | ⟨β', hb⟩)
    · exact h.sr.own c r β hw' h2 hF
    · exact h.sr.apart c b r r β β' hw' hwb h2 hb hne rfl
  · have hi := h.inv
    refine ⟨hi.os, hi.tape, hi.output, hi.size, fun r hr => .inl (hi.f0 r hr), hi.keep, fun r hr hlt => ?_, fun c r β h1 => hi.own c r β (hws c h1).2, hi.fix, fun r hr => ?_, fun c hc => by
      have := hi.bx c hc
      by_cases e : c = b
      · subst e; rw [hr] at this; cases this
      · rw [at_set_ne σ b c _ e]; exact this, hi.len⟩
    · rcases hr with hF | ⟨β, hb⟩
      · exact hi.newF r hF hlt
      · exact .inr (hi.own b r β hwb hb hlt)
    · rcases hr with hF | ⟨β, hb⟩
      · exact hi.lt r hF
      · exact own_lt h.sr hwb hb

/-- The variable b is not written any more. -/
theorem St.freezeBox {T : TypeId} {b : Nat} {c : List AV} {l : List PV} (h : St cx F ι fr σ a w) (hr : at_ σ b = .box T c) (hl : l.length = c.length) (hone : allOne l = true)
    (hp : ∀ r cs, ι b = some (r, 0) → w.heap[r]? = some (.cells cs T (0, 0)) → ∀ (j : Nat) x v, l[j]? = some x → cs[j]? = some v → PR F w x v) :
    ∃ F' r, ι b = some (r, 0) ∧ F' r ∧ (∀ r, F r → F' r) ∧ St cx F' ι fr (set_ σ b (.fb l)) a w ∧ ∀ wr, Step wr F ι σ w F' ι (set_ σ b (.fb l)) w := by
  have hd : at_ σ b ≠ .dead := fun e => by rw [e] at hr; cases hr
  have hwb : (at_ σ b).w = true := by rw [hr]; rfl
  obtain ⟨r0, cs0, e0, hh0, hs0, h10, hv0⟩ : ∃ r cs, ι b = some (r, 0) ∧ w.heap[r]? = some (.cells cs T (0, 0)) ∧ cs.size = c.length ∧ (∀ v ∈ cs, v.oneCell' = true) ∧ ∀ (j : Nat) x v, c[j]? = some x → cs[j]? = some v → VR F ι w x v := by
    have := h.sr.bk b
    rw [hr] at this
    exact this
  refine ⟨fun r => F r ∨ ∃ β, ι b = some (r, β), r0, e0, .inr ⟨0, e0⟩, fun r h => .inl h, ?_, fun wr => ⟨fun r h => .inl h, fun _ _ => rfl, fun c r β h1 _ h2 => ⟨rfl, ?_⟩⟩⟩
  case refine_2 =>
    by_cases e : c = b
    · subst e; exact .inl (.inr ⟨β, h2⟩)
    · exact .inr ⟨by rw [at_set_ne σ b c _ e]; exact h1, h2⟩
  have hmono : ∀ {x v}, VR F ι w x v → VR (fun r => F r ∨ ∃ β, ι b = some (r, β)) ι w x v := fun h => h.mono (fun _ h => .inl h) (fun _ _ => rfl) (fun _ _ h => h) (fun _ _ _ _ _ h => h)
  have hrow : ∀ {T sz l p}, RowAt F w T sz l p → RowAt (fun r => F r ∨ ∃ β, ι b = some (r, β)) w T sz l p := fun h => h.mono (fun _ h => .inl h) (fun _ _ => rfl) (fun _ _ _ => rfl)
  have hws : ∀ c, (at_ (set_ σ b (.fb l)) c).w = true → c ≠ b ∧ (at_ σ c).w = true := fun c hc => by
    by_cases e : c = b
    · subst e; rw [at_set_self σ c _ hd] at hc; cases hc
    · rw [at_set_ne σ b c _ e] at hc; exact ⟨e, hc⟩
  refine ⟨fun t => hmono (h.fr t), ⟨fun c => ?_, fun c c' r r' β β' h1 h2 => ?_, fun c r β h1 h2 => ?_, fun c hc => h.sr.top c (by rwa [set_length] at hc), h.sr.tab.mono (fun _ h => .inl h) (fun _ _ => rfl)⟩, ?_, h.nt, h.df⟩
  · by_cases e : c = b
    · subst e; rw [at_set_self σ c _ hd]
      exact ⟨r0, cs0, T, e0, .inr ⟨0, e0⟩, hh0, by rw [hs0, hl], hone, fun j x v hx hv => (hp r0 cs0 e0 hh0 j x v hx hv).mono (fun _ h => .inl h) (fun _ _ => rfl)⟩
    · rw [at_set_ne σ b c _ e]
      have := h.sr.bk c
      cases hk : at_ σ c with
      | dead => trivial
      | box T d =>
        rw [hk] at this
        obtain ⟨r, cs, e, h1, h2, h3, h4⟩ := this
        exact ⟨r, cs, e, h1, h2, h3, fun j x v hx hv => hmono (h4 j x v hx hv)⟩
      | row T s q => rw [hk] at this; exact hrow this
      | lend T s q => rw [hk] at this; exact hrow this
      | fz T s q => rw [hk] at this; exact ⟨hrow this.1, fun r β e => .inl (this.2 r β e)⟩
      | map T q => rw [hk] at this; exact MapAt.mono this (fun _ h => .inl h) (fun _ _ => rfl) (fun _ _ _ => rfl)
      | fb q => rw [hk] at this; exact FbAt.mono this (fun _ h => .inl h) (fun _ _ => rfl)
  · exact h.sr.apart c c' r r' β β' (hws c h1).2 (hws c' h2).2
  · obtain ⟨hne, hw'⟩ := hws c h1
    rintro (hF | ⟨β', hb⟩)
    · exact h.sr.own c r β hw' h2 hF
    · exact h.sr.apart c b r r β β' hw' hwb h2 hb hne rfl
  · have hi := h.inv
    refine ⟨hi.os, hi.tape, hi.output, hi.size, fun r hr => .inl (hi.f0 r hr), hi.keep, fun r hr hlt => ?_, fun c r β h1 => hi.own c r β (hws c h1).2, hi.fix, fun r hr => ?_, fun c hc => by
      have := hi.bx c hc
      by_cases e : c = b
      · subst e; rw [at_set_self σ c _ hd]; rfl
      · rw [at_set_ne σ b c _ e]; exact this, hi.len⟩
    · rcases hr with hF | ⟨β, hb⟩
      · exact hi.newF r hF hlt
      · exact .inr (hi.own b r β hwb hb hlt)
    · rcases hr with hF | ⟨β, hb⟩
      · exact hi.lt r hF
      · exact own_lt h.sr hwb hb

def killF (b : Nat) : Fr → Fr
  | [] => []
  | (t, x) :: r => (t, x.kill b) :: killF b r
def killB (b : Nat) : Bk → Bk
  | .box T c => .box T (AV.kill.killL b c)
  | k => k
def killS (b : Nat) : Sto → Sto
  | [] => []
  | k :: r => killB b k :: killS b r
theorem look_kill (b t : Nat) : ∀ fr : Fr, look t (killF b fr) = (look t fr).kill b
  | [] => rfl
  | (k, x) :: r => by
    simp only [killF, look]
    cases Nat.beq k t with
    | true => rfl
    | false => exact look_kill b t r
theorem at_kill (b : Nat) : ∀ (σ : Sto) (c : Nat), at_ (killS b σ) c = killB b (at_ σ c)
  | [], c => by cases c <;> rfl
  | k :: r, 0 => rfl
  | k :: r, c + 1 => at_kill b r c
theorem kill_length (b : Nat) : ∀ σ : Sto, (killS b σ).length = σ.length
  | [] => rfl
  | k :: r => by simp [killS, kill_length b r]
theorem killB_w (b : Nat) (k : Bk) : (killB b k).w = k.w := by cases k <;> rfl
theorem killB_box (b : Nat) (k : Bk) : (killB b k).isBox = k.isBox := by cases k <;> rfl

/-- The row b gets another content, in its place or in a new one. -/
theorem St.move {T T' : TypeId} {b sz sz' : Nat} {l l' : List PV} {p' : Option (Nat × Nat)} (h : St cx F ι fr σ a w) (hr : at_ σ b = .row T sz l) (hos : w'.os = w.os) (htape : w'.tape = w.tape) (hout : w'.output = w.output) (hsize : w.heap.size ≤ w'.heap.size)
    (hblk : ∀ k, k < w.heap.size → (∀ β, ι b ≠ some (k, β)) → w'.heap[k]? = w.heap[k]?) (hlen : ∀ r N, rowLen w r = some N → rowLen w' r = some N)
    (hp : ∀ r' β', p' = some (r', β') → r' = w.heap.size ∨ ∃ β, ι b = some (r', β)) (hrow : RowAt F w' T' sz' l' p') :
    St cx F (put_ ι b p') (killF b fr) (killS b (set_ σ b (.row T' sz' l'))) a w' := by
  have hlt := h.inv.lt
  have hd : at_ σ b ≠ .dead := fun e => by rw [e] at hr; cases hr
  have hwb : (at_ σ b).w = true := by rw [hr]; rfl
  have hF : ∀ r, F r → w'.heap[r]? = w.heap[r]? := fun r hr' => hblk r (hlt r hr') (fun β e => h.sr.own b r β hwb e hr')
  have hv : ∀ {x v}, VR F ι w x v → VR F (put_ ι b p') w' (x.kill b) v := fun h => h.kill b (fun _ h => h) hF (fun c e => put_ne _ _ e) (fun c r β N _ _ hN => hlen r N hN)
  have hin : ∀ c r β, c ≠ b → (at_ σ c).w = true → ι c = some (r, β) → ∀ β', ι b ≠ some (r, β') := fun c r β hne hw hc β' hb => h.sr.apart c b r r β β' hw hwb hc hb hne rfl
  have hws : ∀ c, (at_ (killS b (set_ σ b (.row T' sz' l'))) c).w = (at_ σ c).w := fun c => by
    rw [at_kill, killB_w]
    by_cases e : c = b
    · subst e; rw [at_set_self σ c _ hd, hr]; rfl
    · rw [at_set_ne σ b c _ e]
  refine ⟨fun t => by rw [look_kill]; exact hv (h.fr t), ⟨fun c => ?_, fun c c' s s' γ γ' h1 h2 h3 h4 hne => ?_, fun c s γ h1 h2 => ?_, fun c hc => ?_, h.sr.tab.mono (fun _ h => h) hF⟩, ?_, h.nt, h.df⟩
  · rw [at_kill]
    by_cases e : c = b
    · subst e; rw [at_set_self σ c _ hd, put_self]; exact hrow
    · rw [at_set_ne σ b c _ e, put_ne _ _ e]
      have hb := h.sr.bk c
      cases hk : at_ σ c with
      | dead => trivial
      | box T d =>
        rw [hk] at hb
        obtain ⟨s, cs, e1, h1, h2, h3, h4⟩ := hb
        refine ⟨s, cs, e1, (hblk s (Array.getElem?_eq_some_iff.mp h1).1 (hin c s 0 e (by rw [hk]; rfl) e1)).trans h1, by rw [h2, killL_len], h3, fun j x v hx hv' => ?_⟩
        rw [killL_get] at hx
        obtain ⟨y, hy, rfl⟩ := Option.map_eq_some_iff.mp hx
        exact hv (h4 j y v hy hv')
      | row T s q =>
        rw [hk] at hb
        exact RowAt.mono hb (fun _ h => h) hF (fun r β e1 => hblk r (BR.lt (k := .row T s q) hb (by simp) e1) (hin c r β e (by rw [hk]; rfl) e1))
      | lend T s q =>
        rw [hk] at hb
        exact RowAt.mono hb (fun _ h => h) hF (fun r β e1 => hblk r (BR.lt (k := .lend T s q) hb (by simp) e1) (hin c r β e (by rw [hk]; rfl) e1))
      | fz T s q =>
        rw [hk] at hb
        exact ⟨RowAt.mono hb.1 (fun _ h => h) hF (fun r β e1 => hF r (hb.2 r β e1)), hb.2⟩
      | map T q =>
        rw [hk] at hb
        exact MapAt.mono hb (fun _ h => h) hF (fun r β e1 => hblk r (BR.lt (k := .map T q) hb (by simp) e1) (hin c r β e (by rw [hk]; rfl) e1))
      | fb q =>
        rw [hk] at hb
        exact FbAt.mono hb (fun _ h => h) hF
  · rw [hws] at h1 h2
    by_cases e : c = b
    · subst e
      rw [put_self] at h3
      rw [put_ne _ _ (fun e => hne e.symm)] at h4
      rcases hp _ _ h3 with rfl | ⟨β, hp⟩
      · have := own_lt h.sr h2 h4; omega
      · exact h.sr.apart c c' s s' β γ' h1 h2 hp h4 hne
    · rw [put_ne _ _ e] at h3
      by_cases e' : c' = b
      · subst e'
        rw [put_self] at h4
        rcases hp _ _ h4 with rfl | ⟨β, hp⟩
        · have := own_lt h.sr h1 h3; omega
        · exact h.sr.apart c c' s s' γ β h1 h2 h3 hp hne
      · rw [put_ne _ _ e'] at h4
        exact h.sr.apart c c' s s' γ γ' h1 h2 h3 h4 hne
  · rw [hws] at h1
    by_cases e : c = b
    · subst e
      rw [put_self] at h2
      rcases hp _ _ h2 with rfl | ⟨β, hp⟩
      · exact fun hF' => absurd (hlt _ hF') (Nat.lt_irrefl _)
      · exact h.sr.own c s β h1 hp
    · rw [put_ne _ _ e] at h2
      exact h.sr.own c s γ h1 h2
  · rw [kill_length, set_length] at hc
    rw [put_ne _ _ (fun e => by subst e; exact hd (at_big σ c hc))]
    exact h.sr.top c hc
  · have hi := h.inv
    refine ⟨hos.trans hi.os, htape.trans hi.tape, hout.trans hi.output, Nat.le_trans hi.size hsize, hi.f0, fun r hr' hn => (hblk r (Nat.lt_of_lt_of_le hr' hi.size) (fun β e => hn (hi.own b r β hwb e hr'))).trans (hi.keep r hr' hn), hi.newF,
      fun c s γ h1 h2 hs => ?_, fun c hc => ?_, fun r hr' => Nat.lt_of_lt_of_le (hi.lt r hr') hsize, fun c hc => ?_, fun r N h => hlen r N (hi.len r N h)⟩
    · rw [hws] at h1
      by_cases e : c = b
      · subst e
        rw [put_self] at h2
        rcases hp _ _ h2 with rfl | ⟨β, hp⟩
        · have := hi.size; omega
        · exact hi.own c s β h1 hp hs
      · rw [put_ne _ _ e] at h2; exact hi.own c s γ h1 h2 hs
    · have := hi.bx c hc
      rw [put_ne _ _ (fun e => by subst e; rw [hr] at this; cases this)]
      exact hi.fix c hc
    · have := hi.bx c hc
      rw [at_kill, killB_box, at_set_ne σ b c _ (fun e => by subst e; rw [hr] at this; cases this)]
      exact this

/-- A new row that has no block: it is empty. -/
theorem St.newNil (h : St cx F ι fr σ a w) (T : TypeId) (sz : Nat) : St cx F ι fr (σ ++ [.row T sz []]) a w := by
  have htop := h.sr.top σ.length (Nat.le_refl _)
  have hcase : ∀ b, b = σ.length ∨ b ≠ σ.length ∧ at_ (σ ++ [.row T sz []]) b = at_ σ b := fun b => by
    by_cases e : b = σ.length
    · exact .inl e
    · refine .inr ⟨e, ?_⟩
      by_cases e2 : b < σ.length
      · exact at_app_old σ b _ e2
      · rw [at_app_big σ b _ (by omega), at_big σ b (by omega)]
  refine ⟨h.fr, ⟨fun b => ?_, fun b b' r r' β β' h1 h2 h3 h4 hne => ?_, fun b r β h1 h2 => ?_, fun b hb => h.sr.top b (by simp at hb; omega), h.sr.tab⟩, ?_, h.nt, h.df⟩
  · rcases hcase b with e | ⟨e, e2⟩
    · subst e; rw [at_app_new, htop]; exact rfl
    · rw [e2]; exact h.sr.bk b
  · rcases hcase b with e | ⟨e, e2⟩
    · subst e; rw [htop] at h3; cases h3
    · rcases hcase b' with e' | ⟨e', e2'⟩
      · subst e'; rw [htop] at h4; cases h4
      · rw [e2] at h1; rw [e2'] at h2; exact h.sr.apart b b' r r' β β' h1 h2 h3 h4 hne
  · rcases hcase b with e | ⟨e, e2⟩
    · subst e; rw [htop] at h2; cases h2
    · rw [e2] at h1; exact h.sr.own b r β h1 h2
  · have hi := h.inv
    exact ⟨hi.os, hi.tape, hi.output, hi.size, hi.f0, hi.keep, hi.newF, fun b r β h1 h2 hr => by
      rcases hcase b with e | ⟨e, e2⟩
      · subst e; rw [htop] at h2; cases h2
      · rw [e2] at h1; exact hi.own b r β h1 h2 hr, hi.fix, hi.lt, fun b hb => by
      rw [at_app_old σ b _ (box_lt (hi.bx b hb))]; exact hi.bx b hb, hi.len⟩

theorem St.stepNew {wr : Option (List Nat)} {k : Bk} {g : Nat} (h : St cx F ι fr σ a w) (hb : Below w.heap.size w w') : Step wr F ι σ w F (put_ ι σ.length (some (g, 0))) (σ ++ [k]) w' :=
  ⟨fun _ h => h, fun r hr => hb.block r (h.inv.lt r hr), fun b r β h1 _ h2 => by
    have hl := at_lt (σ := σ) (b := b) (fun e => by rw [e] at h1; cases h1)
    exact ⟨hb.block r (own_lt h.sr h1 h2), .inr ⟨by rw [at_app_old σ b k hl]; exact h1, by rw [put_ne _ _ (Nat.ne_of_lt hl)]; exact h2⟩⟩⟩
theorem St.stepNil {wr : Option (List Nat)} (h : St cx F ι fr σ a w) (k : Bk) : Step wr F ι σ w F ι (σ ++ [k]) w :=
  ⟨fun _ h => h, fun _ _ => rfl, fun b r β h1 _ h2 => by
    have hl := at_lt (σ := σ) (b := b) (fun e => by rw [e] at h1; cases h1)
    exact ⟨rfl, .inr ⟨by rw [at_app_old σ b k hl]; exact h1, h2⟩⟩⟩
theorem St.stepSet {wr : Option (List Nat)} {b r β : Nat} {k : Bk} (h : St cx F ι fr σ a w) (hw : (at_ σ b).w = true) (hι : ι b = some (r, β)) (hb : But r w w') (hin : inW b wr = true) : Step wr F ι σ w F ι (set_ σ b k) w' :=
  ⟨fun _ h => h, fun c hc => hb.block c (h.inv.lt c hc) (fun e => h.sr.own b r β hw hι (e ▸ hc)), fun c r' β' h1 h2 h3 => by
    have hne : c ≠ b := fun e => by subst e; rw [hin] at h2; cases h2
    exact ⟨hb.block r' (own_lt h.sr h1 h3) (h.sr.apart c b r' r β' β h1 hw h3 hι hne), .inr ⟨by rw [at_set_ne σ b c k hne]; exact h1, h3⟩⟩⟩
theorem St.stepMove {wr : Option (List Nat)} {b : Nat} {k : Bk} {p' : Option (Nat × Nat)} (h : St cx F ι fr σ a w) (hw : (at_ σ b).w = true) (hin : inW b wr = true)
    (hblk : ∀ k, k < w.heap.size → (∀ β, ι b ≠ some (k, β)) → w'.heap[k]? = w.heap[k]?) : Step wr F ι σ w F (put_ ι b p') (killS b (set_ σ b k)) w' :=
  ⟨fun _ h => h, fun c hc => hblk c (h.inv.lt c hc) (fun β e => h.sr.own b c β hw e hc), fun c r' β' h1 h2 h3 => by
    have hne : c ≠ b := fun e => by subst e; rw [hin] at h2; cases h2
    exact ⟨hblk r' (own_lt h.sr h1 h3) (fun β e => h.sr.apart c b r' r' β' β h1 hw h3 e hne rfl), .inr ⟨by rw [at_kill, killB_w, at_set_ne σ b c k hne]; exact h1, by rw [put_ne _ _ hne]; exact h3⟩⟩⟩
end
end Go.Proofs.Sy
