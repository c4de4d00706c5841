/- FnRenamed: the draw is total; the law. -/
import Derived.Test.YtegpjjnedbbpjaaRnM
set_option linter.unusedVariables false
set_option linter.unusedSimpArgs false
namespace Go.Proofs.Ytegpjjnedbbpjaa.Z
open Go Go.RowKit Go.Proofs.Sy Go.Proofs
set_option maxRecDepth 100000
theorem scopesT {n : Nat} (hn : 1000000 ≤ n) {t : Tree} (hw : wt t ≤ 100000) : ∃ r, m_spec_ScopesOf n t = some r ∧ r.1.decls_.length ≤ 1000000 := by
  unfold m_spec_ScopesOf m_spec_TermOK
  simp only [m_spec_TreeOK, gp_pos (show wt t ≤ 1099511627776 by omega), Option.bind_some]
  cases okT t with
  | false => exact ⟨_, rfl, by simp⟩
  | true =>
    obtain ⟨b, e, hb⟩ := termTot n t (by omega) (by omega)
    simp only [cond_true, e, Option.bind_some]
    cases b with
    | false => exact ⟨_, rfl, by simp⟩
    | true =>
      obtain ⟨s, e2, b2⟩ := walkT n t (gl12Scoper.mk (gSg.mk 1 [] [] []) [] []) [] 0 (by omega) (hb rfl) (by omega) (by simp; omega) (by simp [szW]; omega)
      simp only [Bool.not_true, cond_false, e2, Option.bind_some, sgOK_s (n := n) (by omega)]
      cases okG s.g_ with
      | false => exact ⟨_, rfl, by simp⟩
      | true =>
        refine ⟨_, rfl, ?_⟩
        simp only [szW, List.length_nil] at b2 ⊢
        omega
theorem bt {α β : Type} {a : Option α} {f : α → Option β} (P : α → Prop) (h : ∃ x, a = some x ∧ P x) (k : ∀ x, P x → ∃ r, f x = some r) : ∃ r, a.bind f = some r := by
  obtain ⟨x, rfl, hx⟩ := h
  exact k x hx
theorem pickT (n : Nat) (c : Cu) (k : Int) : ∃ x, m_spec_l01Cur_pick n c k = some x ∧ (1 ≤ k → 0 ≤ x.1 ∧ x.1 < k) := ⟨pickM k c, rfl, fun h => pick_lt h c⟩
theorem renJ (n : Nat) (c : Cu) (g : gSg) : ∃ r, m_spec_DrawRename_j1 n c g = some r := by
  unfold m_spec_DrawRename_j1
  refine bt _ (pickT n c _) fun x1 _ => bt _ (pickT n x1.2 2) fun x2 _ => bt _ (pickT n x2.2 6) fun x3 h3 => ?_
  have h6 := h3 (by omega)
  obtain ⟨y, ey, _⟩ := ix_tot (l := ([⟨#[120]⟩, ⟨#[121]⟩, ⟨#[122]⟩, ⟨#[110, 101, 119]⟩, ⟨#[102]⟩, ⟨#[]⟩] : List ByteArray)) h6.1 h6.2
  rw [ey]
  exact ⟨_, rfl⟩
theorem curT (n : Nat) (code : List UInt8) (hc : code.length ≤ 1048576) : ∃ x, m_spec_l01DrawCur n code = some x := by
  unfold m_spec_l01DrawCur
  have hc' : code.length ≤ 2147483648 := by omega
  rw [dif_pos hc']
  exact ⟨_, rfl⟩
theorem termT {n : Nat} (hn : 1000000 ≤ n) (c : Cu) : ∃ x, m_spec_l12DrawTerm n c 4 = some x ∧ wt x.1 ≤ 100000 := by
  obtain ⟨t, et, ht⟩ := term_tot 4 n c (by omega) (by omega)
  exact ⟨t, et, by omega⟩
theorem drawT {n : Nat} (hn : 1000000 ≤ n) (code : List UInt8) (hc : code.length ≤ 1048576) : ∃ r, m_spec_DrawRename n code = some r := by
  unfold m_spec_DrawRename
  obtain ⟨c0, e0⟩ := curT n code hc
  refine bt (fun _ => True) ⟨c0, e0, trivial⟩ fun c1 _ => ?_
  obtain ⟨g, e, b⟩ := drawAnySg (n := n) (by omega) c1
  refine bt (fun _ => True) ⟨g, e, trivial⟩ fun g1 _ => bt _ (pickT n g1.2 2) fun x2 _ => ?_
  cases (x2.1 == 0) with
  | true =>
    rw [cond_true]
    refine bt _ (termT hn x2.2) fun t ht => ?_
    obtain ⟨r, er, hr⟩ := scopesT hn (t := t.1) (by omega)
    refine bt (fun _ => True) ⟨r, er, trivial⟩ fun r1 _ => ?_
    cases (r1.2.2.2 == 0) with
    | true => rw [cond_true]; exact renJ n _ _
    | false => rw [cond_false]; exact renJ n _ _
  | false => rw [cond_false]; exact renJ n _ _
theorem cRenamedLaw (code : List UInt8) : FnP Try.prog 7 [.lst (bl code)] [B true] := c_laws_FnRenamed 1000000 code true (law_of (by omega) code (fun h => drawT (Nat.le_refl _) code h))
end Go.Proofs.Ytegpjjnedbbpjaa.Z
