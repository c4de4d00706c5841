/- The reference's reading of a line. -/
import Derived.Test.YtnnalcglfgapbaaDoorPrE
set_option linter.unusedVariables false
set_option linter.unusedSectionVars false
set_option linter.unusedSimpArgs false
namespace Go.Proofs.YtnnalcglfgapbaaDoor.Z
open Go Go.RowKit Go.Proofs.Sy Go.Proofs
set_option maxRecDepth 100000
theorem ixD {vs : List Int} {i : Nat} (h : i < vs.length) : ix vs (i : Int) = some (vs.getD i 0) := by
  unfold ix
  rw [if_pos (by omega), Int.toNat_natCast, List.getElem?_eq_getElem h, List.getD_eq_getElem?_getD, List.getElem?_eq_getElem h]; rfl
theorem hasN_S {n : Nat} {a : Int} (h : 1 ≤ a ∧ a ≤ 10) : (m_spec_l17HasN n a).bind (fun r => some (bif r then true else a == 10)) = some (hN a) := by
  rw [hasNS, Option.bind_some]
  rcases ten h with rfl | rfl | rfl | rfl | rfl | rfl | rfl | rfl | rfl | rfl <;> decide
theorem guess_step {n : Nat} (hn : 100000 ≤ n) (T : By) (vs : List Int) (hv : ∀ v ∈ vs, 0 ≤ v ∧ v ≤ 999999) (k : Nat) {v : Int} (ho : 1 ≤ v ∧ v ≤ 10) :
    m_spec_l17ReadLine_l97 n (ofL T) vs (k + 1) v = if line (gX v vs) = T then some (gX v vs, true) else m_spec_l17ReadLine_l97 n (ofL T) vs k (v + 1) := by
  have hl := lineS hn (gX_va ho hv).lo
  have key : ∀ nv tv, gX v vs = gIns.mk v nv tv → m_spec_l17ReadLine_j107 n (ofL T) v (m_spec_l17ReadLine_l97 n (ofL T) vs k) nv tv = if line (gX v vs) = T then some (gX v vs, true) else m_spec_l17ReadLine_l97 n (ofL T) vs k (v + 1) := fun nv tv e => by
    unfold m_spec_l17ReadLine_j107
    rw [← e, hl, Option.bind_some, wid (by omega)]
    by_cases h : line (gX v vs) = T
    · rw [if_pos h, decide_eq_true (by rw [h])]; rfl
    · rw [if_neg h, decide_eq_false (fun e => h (ofL_inj e))]; rfl
  have k108 : ∀ (i : Nat) nv (b : Bool), (b = true → i < vs.length) → gX v vs = gIns.mk v nv (if b = true then vs.getD i 0 else 0) → m_spec_l17ReadLine_j108 n (ofL T) vs v (m_spec_l17ReadLine_l97 n (ofL T) vs k) (i : Int) nv b = if line (gX v vs) = T then some (gX v vs, true) else m_spec_l17ReadLine_l97 n (ofL T) vs k (v + 1) := fun i nv b hb e => by
    unfold m_spec_l17ReadLine_j108
    cases b with
    | true => rw [cond_true, ixD (hb rfl), Option.bind_some]; exact key _ _ (by simpa using e)
    | false => rw [cond_false]; exact key _ _ (by simpa using e)
  have k105 : ∀ (i : Nat) nv, gX v vs = gIns.mk v nv (if (decide (i < vs.length) && hT v) = true then vs.getD i 0 else 0) → m_spec_l17ReadLine_j105 n (ofL T) vs v (m_spec_l17ReadLine_l97 n (ofL T) vs k) (i : Int) nv = if line (gX v vs) = T then some (gX v vs, true) else m_spec_l17ReadLine_l97 n (ofL T) vs k (v + 1) := fun i nv e => by
    unfold m_spec_l17ReadLine_j105
    by_cases h : i < vs.length
    · rw [decide_eq_true (show (i : Int) < ((vs.length : Nat) : Int) by omega), cond_true, hasToS, Option.bind_some]
      refine k108 i nv _ (fun _ => h) ?_
      rw [e, decide_eq_true h, Bool.true_and]; rfl
    · rw [decide_eq_false (show ¬ (i : Int) < ((vs.length : Nat) : Int) by omega), cond_false]
      refine k108 i nv false (fun h => by cases h) ?_
      rw [e, decide_eq_false h]; rfl
  have k109 : ∀ b, b = (decide (0 < vs.length) && hN v) → m_spec_l17ReadLine_j109 n (ofL T) vs v (m_spec_l17ReadLine_l97 n (ofL T) vs k) b = if line (gX v vs) = T then some (gX v vs, true) else m_spec_l17ReadLine_l97 n (ofL T) vs k (v + 1) := fun b hb => by
    unfold m_spec_l17ReadLine_j109
    cases b with
    | true =>
      have h0 : 0 < vs.length := by
        have := hb.symm
        simp only [Bool.and_eq_true, decide_eq_true_eq] at this
        exact this.1
      have e0 := ixD h0
      rw [cond_true, show ((0 : Nat) : Int) = 0 from rfl] at *
      rw [e0, Option.bind_some, wid (n := (0 : Int) + 1) (by omega)]
      exact k105 1 _ (by simp only [gX, ← hb]; rfl)
    | false =>
      rw [cond_false]
      exact k105 0 _ (by simp only [gX, ← hb]; rfl)
  rw [m_spec_l17ReadLine_l97, decide_eq_true ho.2, cond_true]
  by_cases h0 : 0 < vs.length
  · rw [decide_eq_true (show (0 : Int) < ((vs.length : Nat) : Int) by omega), cond_true]
    have hs := hasN_S (n := n) ho
    rw [hasNS, Option.bind_some] at hs
    rw [hasNS, Option.bind_some]
    cases hb : decide ((1 ≤ v ∧ v ≤ 3) ∨ v = 6 ∨ v = 8) with
    | true => rw [hb, cond_true] at hs; rw [cond_true]; exact k109 true (by rw [decide_eq_true h0, Bool.true_and]; exact Option.some.inj hs)
    | false => rw [hb, cond_false] at hs; rw [cond_false]; exact k109 _ (by rw [decide_eq_true h0, Bool.true_and]; exact Option.some.inj hs)
  · rw [decide_eq_false (show ¬ (0 : Int) < ((vs.length : Nat) : Int) by omega), cond_false]
    exact k109 false (by rw [decide_eq_false h0]; rfl)
theorem guess_ok {n : Nat} (hn : 100000 ≤ n) (T : By) (vs : List Int) (hv : ∀ v ∈ vs, 0 ≤ v ∧ v ≤ 999999) : ∀ (j k : Nat), j ≤ 10 → j < k →
    (∃ op, 1 ≤ op ∧ op ≤ 10 ∧ line (gX op vs) = T ∧ m_spec_l17ReadLine_l97 n (ofL T) vs k (11 - (j : Int)) = some (gX op vs, true)) ∨
    ((∀ op, 11 - (j : Int) ≤ op → op ≤ 10 → line (gX op vs) ≠ T) ∧ m_spec_l17ReadLine_l97 n (ofL T) vs k (11 - (j : Int)) = some (gIns.mk 0 0 0, false))
  | 0, k, _, hk => by
    obtain ⟨k, rfl⟩ : ∃ m, k = m + 1 := ⟨k - 1, by omega⟩
    refine .inr ⟨fun op h1 h2 => by omega, ?_⟩
    rw [m_spec_l17ReadLine_l97, decide_eq_false (by omega)]; rfl
  | j + 1, k, hj, hk => by
    obtain ⟨k, rfl⟩ : ∃ m, k = m + 1 := ⟨k - 1, by omega⟩
    rw [guess_step hn T vs hv k (v := 11 - ((j + 1 : Nat) : Int)) (by omega)]
    by_cases h : line (gX (11 - ((j + 1 : Nat) : Int)) vs) = T
    · rw [if_pos h]
      exact .inl ⟨_, by omega, by omega, h, rfl⟩
    · rw [if_neg h]
      have e : 11 - ((j + 1 : Nat) : Int) + 1 = 11 - (j : Int) := by omega
      rw [e]
      rcases guess_ok hn T vs hv j k (by omega) (by omega) with ⟨op, h1, h2, h3, h4⟩ | ⟨h1, h2⟩
      · exact .inl ⟨op, h1, h2, h3, h4⟩
      · refine .inr ⟨fun op g1 g2 => ?_, h2⟩
        by_cases e2 : op = 11 - ((j + 1 : Nat) : Int)
        · rw [e2]; exact h
        · exact h1 op (by omega) g2
end Go.Proofs.YtnnalcglfgapbaaDoor.Z
