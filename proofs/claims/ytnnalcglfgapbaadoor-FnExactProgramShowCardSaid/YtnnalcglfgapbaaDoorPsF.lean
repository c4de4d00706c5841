/- FnExactProgramShow: the law. -/
import Derived.Test.YtnnalcglfgapbaaDoorPsE
set_option linter.unusedVariables false
set_option linter.unusedSectionVars false
set_option linter.unusedSimpArgs false
namespace Go.Proofs.YtnnalcglfgapbaaDoor.Z
open Go Go.RowKit Go.Proofs.Sy Go.Proofs
set_option maxRecDepth 100000
theorem len_cp {α : Type} (l : List α) (z : α) : (List.replicate (l.length : Int).toNat z).length = l.length := by simp
theorem allP_true {α : Type} : ∀ (r pre : List α), allP (fun _ _ => true) pre r = true
  | [], _ => rfl
  | x :: r, pre => by simp only [allP, Bool.true_and]; exact allP_true r _
theorem toInsS_ {n : Nat} {l : List gIns} (h : l.length ≤ 1048576) (hn : 1100000 ≤ n) : m_laws_toInsS n l = some l := by
  unfold m_laws_toInsS
  rw [List.length_map, gp_pos (by omega)]
  exact loop_copy l (m_laws_toInsS_l3 n l) some (fun k pre x r v h hv => by
    have ei : ix l (pre.length : Int) = some x := by rw [h, ixp]
    have hl2 : l.length = pre.length + (r.length + 1) := by rw [h]; simp
    obtain ⟨y, ey, _⟩ := ix_lt (l := v) (i := (pre.length : Int)) (by omega) (by omega)
    rw [m_laws_toInsS_l3, List.length_map, decide_eq_true (by omega)]
    simp only [cond_true, ei, Option.bind_some, m_laws_toIns, ey, wln pre x (by omega), Int.toNat_natCast]) (fun k v => by
    rw [m_laws_toInsS_l3, List.length_map, decide_eq_false (by omega)]; rfl) l [] n _ rfl (by omega) (len_cp _ _) rfl
theorem eqInsS_ {n : Nat} {l : List gIns} (h : l.length ≤ 1048576) (hn : 1100000 ≤ n) : m_laws_eqInsS n l l = some true := by
  unfold m_laws_eqInsS
  rw [bne_self_eq_false, cond_false, loop_all0 l (fun _ _ => true) (some false) (m_laws_eqInsS_l3 n l l) (some true) n (by omega) (fun k pre x r h => by
    have ei : ix l (pre.length : Int) = some x := by rw [h, ixp]
    have hl2 : l.length = pre.length + (r.length + 1) := by rw [h]; simp
    rw [m_laws_eqInsS_l3, List.length_map, decide_eq_true (by omega)]
    have e1 : m_laws_eqIns n x x = some true := by unfold m_laws_eqIns; simp
    simp only [cond_true, ei, Option.bind_some, e1, Bool.not_true, cond_false, wln pre x (by omega)]) (fun k => by
    rw [m_laws_eqInsS_l3, List.length_map, decide_eq_false (by omega)]; rfl), allP_true]; rfl
theorem showL {n : Nat} (hn : 1100000 ≤ n) (p : List gIns) (hp : p.length ≤ 140737488351232) : m_laws_FnExactProgramShow n p = some true := by
  unfold m_laws_FnExactProgramShow m_laws_szInsS
  rw [List.length_map, wid (n := 1048576 - (p.length : Int)) (by omega)]
  by_cases h0 : 1048576 - (p.length : Int) < 0
  · rw [decide_eq_true h0]; rfl
  rw [decide_eq_false h0, cond_false, Option.bind_some, decide_eq_false h0, cond_false, toInsS_ (by omega) hn, Option.bind_some]
  obtain ⟨r, e1, e2⟩ := show_both (n := n) (by omega) p
  rw [e1, Option.bind_some, Option.bind_some, e2, Option.bind_some, decide_eq_true rfl, bne_self_eq_false, Option.bind_some, eqInsS_ (by omega) hn]
  rfl
theorem cShowLaw (p : List gIns) (hp : p.length ≤ 140737488351232) : FnP Tryd.prog 3 [.lst (p.map gIns.enc)] [B true] := c_laws_FnExactProgramShow 1100000 p true (showL (Nat.le_refl _) p hp)
end Go.Proofs.YtnnalcglfgapbaaDoor.Z
