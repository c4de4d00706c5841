/- ProgramOK of both sides, plain: programs. -/
import Derived.Test.YtnnalcglfgapbaaDoorQsA
set_option linter.unusedVariables false
set_option linter.unusedSectionVars false
set_option linter.unusedSimpArgs false
namespace Go.Proofs.YtnnalcglfgapbaaDoor.Z
open Go Go.RowKit Go.Proofs.Sy Go.Proofs
set_option maxRecDepth 100000
def lastOK (p : List gIns) : Bool := match p.getLast? with
  | some x => decide (x.op_ = 5 ∨ x.op_ = 9 ∨ x.op_ = 10)
  | none => false
def okP (p : List gIns) : Bool := decide (1 ≤ p.length ∧ p.length ≤ 50000) && (p.all (okI p.length) && lastOK p)
theorem ix_last {p : List gIns} (h : 1 ≤ p.length) (h2 : p.length ≤ 50000) : ix p (wr .i64 ((p.length : Int) - 1)) = p.getLast? := by
  rw [wid (by omega)]
  unfold ix
  rw [if_pos (by omega), List.getLast?_eq_getElem?]
  congr 1
  omega
theorem okp_I {n : Nat} (hn : 100000 ≤ n) (p : List gIns) : m_impl_ProgramOK n p = some (okP p) := by
  unfold m_impl_ProgramOK okP
  rw [List.length_map]
  by_cases h1 : p.length < 1
  · rw [decide_eq_true (show (p.length : Int) < 1 by omega), decide_eq_false (show ¬ (1 ≤ p.length ∧ p.length ≤ 50000) by omega)]; rfl
  by_cases h2 : 50000 < p.length
  · rw [decide_eq_false (show ¬ (p.length : Int) < 1 by omega), decide_eq_true (show (p.length : Int) > 50000 by omega), decide_eq_false (show ¬ (1 ≤ p.length ∧ p.length ≤ 50000) by omega)]; rfl
  rw [decide_eq_false (show ¬ (p.length : Int) < 1 by omega), decide_eq_false (show ¬ (p.length : Int) > 50000 by omega), decide_eq_true (show 1 ≤ p.length ∧ p.length ≤ 50000 by omega)]
  simp only [cond_false, Bool.true_and]
  rw [loop_all0 p (fun _ x => okI p.length x) (some false) (m_impl_ProgramOK_l3 n p) (some (lastOK p)) n (by omega) (fun k pre x r h => by
      have hl2 : p.length = pre.length + (r.length + 1) := by rw [h]; simp
      rw [m_impl_ProgramOK_l3, List.length_map, decide_eq_true (by omega)]
      have ei : ix p (pre.length : Int) = some x := by rw [h, ixp]
      simp only [cond_true, ei, Option.bind_some, insI]
      rw [wln pre x (by omega)]
      cases okI p.length x <;> rfl) (fun k => by
      rw [m_impl_ProgramOK_l3, List.length_map, decide_eq_false (by omega)]
      unfold m_impl_ProgramOK_j2 lastOK
      rw [List.length_map, ix_last (by omega) (by omega), cond_false]
      obtain ⟨x, hx⟩ : ∃ x, p.getLast? = some x := by
        cases h : p.getLast? with
        | none => rw [List.getLast?_eq_none_iff] at h; subst h; simp at h1
        | some x => exact ⟨x, rfl⟩
      rw [hx, Option.bind_some]
      simp only [cE]
      grind), allP_all]
  cases p.all (okI p.length) <;> rfl
theorem hasToS (n : Nat) (a : Int) : m_spec_l17HasTo n a = some (decide (5 ≤ a ∧ a ≤ 8)) := by
  unfold m_spec_l17HasTo
  rw [btwS, Option.bind_some]
  simp
theorem hasNS (n : Nat) (a : Int) : m_spec_l17HasN n a = some (decide ((1 ≤ a ∧ a ≤ 3) ∨ a = 6 ∨ a = 8)) := by
  unfold m_spec_l17HasN
  rw [btwS, Option.bind_some]
  simp only [cE]
  grind
end Go.Proofs.YtnnalcglfgapbaaDoor.Z
