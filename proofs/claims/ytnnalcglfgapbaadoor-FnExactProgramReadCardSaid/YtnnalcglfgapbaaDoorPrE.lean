/- What is read shows as what was read; the reference's reading. -/
import Derived.Test.YtnnalcglfgapbaaDoorPrD
set_option linter.unusedVariables false
set_option linter.unusedSectionVars false
set_option linter.unusedSimpArgs false
namespace Go.Proofs.YtnnalcglfgapbaaDoor.Z
open Go Go.RowKit Go.Proofs.Sy Go.Proofs
set_option maxRecDepth 100000
theorem canon_val {w : By} (h : canonB w = true) : Lib.decDigits (val w) = w ∧ 0 ≤ (val w : Int) ∧ (val w : Int) ≤ 999999 := by
  obtain ⟨h1, h2⟩ := canonB_iff.mp h
  have := val_le h1.dg h2
  exact ⟨dec_val _ w rfl h1, by omega, by omega⟩
/-- The numbers that the words hold. -/
def vals (ws : List By) : List Int := ws.tail.map fun w => (val w : Int)
/-- The reference's guess for an operation. -/
def gX (op : Int) (vs : List Int) : gIns :=
  let b := decide (0 < vs.length) && hN op
  let i := if b then 1 else 0
  gIns.mk op (if b then vs.getD 0 0 else 0) (if decide (i < vs.length) && hT op then vs.getD i 0 else 0)
theorem read_good {ws : List By} {x : gIns} (h : readI ws = (x, true)) : pcs x = ws ∧ Va x ∧ gX x.op_ (vals ws) = x ∧ ws.length ≤ 3 ∧ ∀ w ∈ ws.tail, canonB w = true := by
  cases ws with
  | nil => simp [readI] at h
  | cons w0 rest =>
    simp only [readI] at h
    by_cases h0 : opOf w0 = 0
    · rw [if_pos h0] at h; simp at h
    rw [if_neg h0] at h
    obtain ⟨o1, o2, o3⟩ := (opOf_cases w0).resolve_right h0
    generalize opOf w0 = a at h o1 o2 o3
    unfold readA at h
    cases hh : hN a <;> cases hg : hT a <;> rw [hh, hg] at h
    · cases rest with
      | nil =>
        simp at h
        subst h
        exact ⟨by simp [pcs, hh, hg, o3], ⟨⟨⟨o1, o2⟩, by simp, by simp⟩, by simp, by simp⟩, by simp [gX, vals], by simp, by simp⟩
      | cons w1 r => simp at h
    · cases rest with
      | nil => simp [nextI] at h
      | cons w1 r =>
        simp only [cond_false, Bool.true_and, cond_true, nextI] at h
        cases hc : canonB w1 with
        | false => simp [hc] at h
        | true =>
          obtain ⟨c1, c2, c3⟩ := canon_val hc
          cases r with
          | cons => simp [hc] at h
          | nil =>
            simp [hc] at h
            subst h
            exact ⟨by simp [pcs, hh, hg, o3, c1], ⟨⟨⟨o1, o2⟩, by simp, ⟨c2, c3⟩⟩, by simp, by simp [hg]⟩, by simp [gX, vals, hh, hg], by simp, by simp [hc]⟩
    · cases rest with
      | nil => simp [nextI] at h
      | cons w1 r =>
        simp only [cond_true, nextI, Bool.and_false, cond_false] at h
        cases hc : canonB w1 with
        | false => simp [hc] at h
        | true =>
          obtain ⟨c1, c2, c3⟩ := canon_val hc
          cases r with
          | cons => simp [hc] at h
          | nil =>
            simp [hc] at h
            subst h
            exact ⟨by simp [pcs, hh, hg, o3, c1], ⟨⟨⟨o1, o2⟩, ⟨c2, c3⟩, by simp⟩, by simp [hh], by simp⟩, by simp [gX, vals, hh, hg], by simp, by simp [hc]⟩
    · cases rest with
      | nil => simp [nextI] at h
      | cons w1 r =>
        simp only [cond_true, nextI, Bool.and_true] at h
        cases hc : canonB w1 with
        | false => simp [hc] at h
        | true =>
          obtain ⟨c1, c2, c3⟩ := canon_val hc
          cases r with
          | nil => simp [hc, nextI] at h
          | cons w2 r =>
            simp only [hc, if_true, cond_true, nextI] at h
            cases hd : canonB w2 with
            | false => simp [hd] at h
            | true =>
              obtain ⟨d1, d2, d3⟩ := canon_val hd
              cases r with
              | cons => simp [hd] at h
              | nil =>
                simp [hd] at h
                subst h
                exact ⟨by simp [pcs, hh, hg, o3, c1, d1], ⟨⟨⟨o1, o2⟩, ⟨c2, c3⟩, ⟨d2, d3⟩⟩, by simp [hh], by simp [hg]⟩, by simp [gX, vals, hh, hg], by simp, by simp [hc, hd]⟩
/-- What a line is read as, if it can be read. -/
def RD (T : By) : Option gIns := if (readI (spl 32 T)).2 = true then some (readI (spl 32 T)).1 else none
theorem RD_some {T : By} {x : gIns} (h : RD T = some x) : readI (spl 32 T) = (x, true) ∧ line x = T := by
  unfold RD at h
  split at h
  · rename_i h2
    have e : readI (spl 32 T) = (x, true) := Prod.ext (Option.some.inj h) h2
    refine ⟨e, ?_⟩
    rw [← join_pcs, (read_good e).1, join_spl]
  · cases h
theorem RD_line {x : gIns} (h : Va x) : RD (line x) = some x := by
  unfold RD
  rw [spl_line h.lo, read_pcs h, if_pos rfl]
theorem iteR {p : Prop} [Decidable p] {v : Int} (h : 0 ≤ v ∧ v ≤ 999999) : 0 ≤ (if p then v else 0) ∧ (if p then v else 0) ≤ 999999 := by
  split
  · exact h
  · omega
theorem gX_va {op : Int} (ho : 1 ≤ op ∧ op ≤ 10) {vs : List Int} (hv : ∀ v ∈ vs, 0 ≤ v ∧ v ≤ 999999) : Va (gX op vs) := by
  have hg : ∀ i, 0 ≤ vs.getD i 0 ∧ vs.getD i 0 ≤ 999999 := fun i => by
    rw [List.getD_eq_getElem?_getD]
    cases h : vs[i]? with
    | none => simp
    | some v => exact hv v (List.mem_of_getElem? h)
  refine ⟨⟨ho, ?_, ?_⟩, fun h => ?_, fun h => ?_⟩
  · exact iteR (hg 0)
  · exact iteR (hg _)
  · replace h : hN op = false := h
    simp only [gX, h]; simp
  · replace h : hT op = false := h
    simp only [gX, h]; simp
end Go.Proofs.YtnnalcglfgapbaaDoor.Z
