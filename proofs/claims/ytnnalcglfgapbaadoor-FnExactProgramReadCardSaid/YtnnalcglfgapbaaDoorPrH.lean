/- ProgramRead of both sides, plain. -/
import Derived.Test.YtnnalcglfgapbaaDoorPrG
set_option linter.unusedVariables false
set_option linter.unusedSectionVars false
set_option linter.unusedSimpArgs false
namespace Go.Proofs.YtnnalcglfgapbaaDoor.Z
open Go Go.RowKit Go.Proofs.Sy Go.Proofs
set_option maxRecDepth 100000
theorem untilS (T : By) (hT : T.length ≤ 400000) : ∀ (m p k : Nat), m + p = T.length → m < k →
    m_spec_l03Until_l3 (ofL T) 10 k (p : Int) = some (if Lib.indexByte (T.drop p) 10 = -1 then (T.length : Int) else (p : Int) + Lib.indexByte (T.drop p) 10)
  | 0, p, k, h, hk => by
    obtain ⟨k, rfl⟩ : ∃ m, k = m + 1 := ⟨k - 1, by omega⟩
    have hp : p = T.length := by omega
    subst hp
    rw [m_spec_l03Until_l3, ofL_size, decide_eq_false (by omega), List.drop_length]
    rfl
  | m + 1, p, k, h, hk => by
    obtain ⟨k, rfl⟩ : ∃ m, k = m + 1 := ⟨k - 1, by omega⟩
    have hi : p < T.length := by omega
    have eb : bt (ofL T) (p : Int) = (T[p].toNat : Int) := by
      have := bt_of (T.take p) T[p] (T.drop (p + 1))
      rw [← List.drop_eq_getElem_cons hi, List.take_append_drop, List.length_take, Nat.min_eq_left (by omega)] at this
      exact this
    rw [m_spec_l03Until_l3, ofL_size, decide_eq_true (by omega), cond_true, gp_pos (by omega), eb, List.drop_eq_getElem_cons hi, cN]
    have ih := untilS T hT m (p + 1) k (by omega) (by omega)
    rw [Int.natCast_add] at ih
    by_cases hb : T[p] = 10
    · have e : (T[p].toNat : Int) = 10 := by rw [hb]; rfl
      have e2 : Lib.indexByte (T[p] :: T.drop (p + 1)) 10 = 0 := by unfold Lib.indexByte; rw [hb]; rfl
      rw [if_pos e, e2]
      unfold m_spec_l03Until_j2
      simp
    · have e : ¬ (T[p].toNat : Int) = 10 := fun h => hb (UInt8.toNat_inj.mp (by have : (10 : UInt8).toNat = 10 := rfl; omega))
      rw [if_neg e, wid (n := (p : Int) + 1) (by omega)]
      refine Eq.trans ih ?_
      have hge := Lib.indexByte_ge (T.drop (p + 1)) 10
      have e2 : Lib.indexByte (T[p] :: T.drop (p + 1)) 10 = if Lib.indexByte (T.drop (p + 1)) 10 = -1 then -1 else Lib.indexByte (T.drop (p + 1)) 10 + 1 := by
        conv => lhs; unfold Lib.indexByte
        rw [if_neg (by simpa using hb)]
        simp
      rw [e2]
      congr 1
      by_cases h1 : Lib.indexByte (T.drop (p + 1)) 10 = -1
      · rw [if_pos h1, if_pos h1, if_pos rfl]
      · rw [if_neg h1, if_neg h1, if_neg (by omega)]; omega
theorem cut_ok {n : Nat} (R : By) (hR : R.length ≤ 400000) : m_strings_Cut n (ofL R) ⟨#[10]⟩ = some (if Lib.indexByte R 10 = -1 then (ofL R, ofL [], false) else (ofL (R.take (Lib.indexByte R 10).toNat), ofL (R.drop ((Lib.indexByte R 10).toNat + 1)), true)) := by
  unfold m_strings_Cut
  rw [gp_pos (by rw [ofL_size]; omega)]
  have e : (⟨#[10]⟩ : ByteArray).data.toList = [10] := rfl
  rw [e, ofL_data]
  unfold Lib.cut
  rw [Lib.index_one]
  have hge := Lib.indexByte_ge R 10
  by_cases h : Lib.indexByte R 10 = -1
  · rw [if_neg (by omega), if_pos h]; rfl
  · rw [if_pos (by omega), if_neg h]; rfl
theorem RD_read {T : By} : (readI (spl 32 T)).2 = (RD T).isSome ∧ ∀ x, RD T = some x → (readI (spl 32 T)).1 = x := by
  unfold RD
  cases h : (readI (spl 32 T)).2 with
  | false => simp
  | true => simp
theorem progs {n : Nat} (hn : 500000 ≤ n) (T : By) (hT : T.length ≤ 400000) : ∀ (m p k k' : Nat) (acc : List gIns), m + p = T.length → m < k → m < k' → acc.length ≤ p →
    ∃ R, m_spec_ProgramRead_l13 n (ofL T) k (p : Int) acc = some R ∧ m_impl_ProgramRead_l23 n k' (ofL (T.drop p)) (acc.length : Int) acc = some R ∧ R.1.length ≤ 400000 := by
  intro m
  induction m using Nat.strongRecOn with
  | _ m ih =>
  intro p k k' acc h hk hk' ha
  obtain ⟨k, rfl⟩ : ∃ m, k = m + 1 := ⟨k - 1, by omega⟩
  obtain ⟨k', rfl⟩ : ∃ m, k' = m + 1 := ⟨k' - 1, by omega⟩
  rw [m_spec_ProgramRead_l13, m_impl_ProgramRead_l23, ofL_size]
  by_cases hm : m = 0
  · have hp : p = T.length := by omega
    subst hp
    have e : (ofL (T.drop T.length) = (⟨#[]⟩ : ByteArray)) := by rw [List.drop_length]; rfl
    rw [decide_eq_false (by omega), cond_false, decide_eq_true e, Bool.not_true, cond_false]
    unfold m_spec_ProgramRead_j8 m_impl_ProgramRead_j14
    rw [okp_S (by omega), okp_I (by omega), Option.bind_some]
    cases okP acc with
    | false => exact ⟨_, rfl, rfl, by simp⟩
    | true => exact ⟨_, rfl, rfl, by simp; omega⟩
  · have hne : ¬ ofL (T.drop p) = (⟨#[]⟩ : ByteArray) := fun e => by
      have := congrArg ByteArray.size e
      rw [ofL_size, List.length_drop] at this
      have e0 : (⟨#[]⟩ : ByteArray).size = 0 := rfl
      omega
    have hRl : (T.drop p).length ≤ 400000 := by rw [List.length_drop]; omega
    have hge := Lib.indexByte_ge (T.drop p) 10
    have hu : m_spec_l03Until n (ofL T) (p : Int) 10 = _ := untilS T hT m p n (by omega) (by omega)
    rw [decide_eq_true (by omega), cond_true, hu, Option.bind_some, decide_eq_false hne, Bool.not_false, cond_true, cut_ok _ hRl, Option.bind_some]
    by_cases hi : Lib.indexByte (T.drop p) 10 = -1
    · rw [if_pos hi, if_pos hi]
      simp only []
      rw [gp_pos ⟨by omega, by omega, by omega⟩, Int.toNat_natCast, Int.toNat_natCast, extr, readS hn _ (by simp; omega), Option.bind_some, readI_T (by omega) _ hRl, Option.bind_some, Bool.not_false, cond_true, beq_self_eq_true]
      unfold m_spec_ProgramRead_j15 m_impl_ProgramRead_j27
      refine ⟨([], 2, (acc.length : Int)), ?_, rfl, by simp⟩
      cases (RD ((T.take T.length).drop p)).isSome <;> rfl
    · rw [if_neg hi, if_neg hi]
      simp only []
      obtain ⟨o, ho⟩ : ∃ o : Nat, Lib.indexByte (T.drop p) 10 = o := ⟨(Lib.indexByte (T.drop p) 10).toNat, by omega⟩
      obtain ⟨i1, i2, i3⟩ := idx_some ho
      rw [List.length_drop] at i3
      rw [ho, Int.toNat_natCast]
      have e1 : ((p : Int) + (o : Int)).toNat = p + o := by omega
      have e2 : (T.take (p + o)).drop p = (T.drop p).take o := by rw [List.drop_take]; congr 1; omega
      obtain ⟨r1, r2⟩ := RD_read (T := (T.drop p).take o)
      rw [gp_pos ⟨by omega, by omega, by omega⟩, Int.toNat_natCast, e1, extr, e2, readS hn _ (by simp; omega), Option.bind_some, readI_T (by omega) _ (by simp; omega), Option.bind_some, Bool.not_true, cond_false, r1, beq_eq_false_iff_ne.mpr (by omega)]
      unfold m_spec_ProgramRead_j15 m_impl_ProgramRead_j27
      cases hr : RD ((T.drop p).take o) with
      | none => exact ⟨([], 2, (acc.length : Int)), rfl, rfl, by simp⟩
      | some x =>
        rw [r2 x hr]
        simp only [Option.isSome_some, Bool.not_true, cond_false, Option.getD_some]
        rw [gp_pos (by simp; omega), gp_pos (by simp; omega), wid (n := (p : Int) + (o : Int) + 1) (by omega), wid (n := (acc.length : Int) + 1) (by omega)]
        obtain ⟨R, h1, h2, h3⟩ := ih (m - (o + 1)) (by omega) (p + o + 1) k k' (acc ++ [x]) (by omega) (by omega) (by omega) (by simp; omega)
        refine ⟨R, ?_, ?_, h3⟩
        · rw [← h1]; congr 1
        · rw [← h2, List.drop_drop]
          congr 1
          simp
theorem read_both {n : Nat} (hn : 500000 ≤ n) (T : By) : ∃ R, m_spec_ProgramRead n (ofL T) = some R ∧ m_impl_ProgramRead n (ofL T) = some R ∧ R.1.length ≤ 400000 := by
  unfold m_spec_ProgramRead m_impl_ProgramRead
  rw [ofL_size]
  by_cases h : (T.length : Int) > 400000
  · rw [decide_eq_true h]; exact ⟨_, rfl, rfl, by simp⟩
  · rw [decide_eq_false h, cond_false, cond_false]
    exact progs hn T (by omega) T.length 0 n n [] (by omega) (by omega) (by omega) (by simp)
end Go.Proofs.YtnnalcglfgapbaaDoor.Z
