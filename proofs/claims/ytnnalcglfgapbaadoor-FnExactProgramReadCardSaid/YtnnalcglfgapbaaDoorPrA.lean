/- Splitting texts, numerals: lists of bytes, no program. -/
import Derived.Test.YtnnalcglfgapbaaDoorQsD
import Derived.Test.YtnnalcglfgapbaaDoorPlW
import Derived.Lib.SplitLaws
import Derived.Lib.IndexLaws
import Derived.Lib.ItoaNum
set_option linter.unusedVariables false
set_option linter.unusedSectionVars false
set_option linter.unusedSimpArgs false
namespace Go.Proofs.YtnnalcglfgapbaaDoor.Z
open Go Go.RowKit Go.Proofs.Sy Go.Proofs
set_option maxRecDepth 100000
abbrev By := List UInt8
def spl (c : UInt8) : By → List By
  | [] => [[]]
  | b :: r => if b = c then [] :: spl c r else match spl c r with
    | [] => [[b]]
    | w :: ws => (b :: w) :: ws
theorem spl_ne (c : UInt8) : ∀ l, spl c l ≠ []
  | [] => by simp [spl]
  | b :: r => by
    unfold spl
    split
    · simp
    · split <;> simp
theorem spl_none (c : UInt8) : ∀ a : By, c ∉ a → spl c a = [a]
  | [], _ => rfl
  | b :: r, h => by
    have h1 : b ≠ c := fun e => h (by simp [e])
    have h2 : c ∉ r := fun e => h (by simp [e])
    unfold spl
    rw [if_neg h1, spl_none c r h2]
theorem spl_app (c : UInt8) : ∀ a b : By, c ∉ a → spl c (a ++ c :: b) = a :: spl c b
  | [], b, _ => by
    show spl c (c :: b) = _
    rw [spl, if_pos rfl]
  | x :: r, b, h => by
    have h1 : x ≠ c := fun e => h (by simp [e])
    have h2 : c ∉ r := fun e => h (by simp [e])
    show spl c (x :: (r ++ c :: b)) = _
    rw [spl, if_neg h1, spl_app c r b h2]
def joinW (c : UInt8) : List By → By
  | [] => []
  | [w] => w
  | w :: ws => w ++ c :: joinW c ws
theorem joinW_cons (c : UInt8) (w : By) {ws : List By} (h : ws ≠ []) : joinW c (w :: ws) = w ++ c :: joinW c ws := by
  cases ws with
  | nil => exact absurd rfl h
  | cons => rfl
theorem spl_join (c : UInt8) : ∀ ws : List By, ws ≠ [] → (∀ w ∈ ws, c ∉ w) → spl c (joinW c ws) = ws
  | [], h, _ => absurd rfl h
  | [w], _, h => spl_none c w (h w (by simp))
  | w :: v :: ws, _, h => by
    rw [joinW_cons c w (by simp), spl_app c w _ (h w (by simp)), spl_join c (v :: ws) (by simp) (fun x hx => h x (by simp [hx]))]
theorem join_spl (c : UInt8) : ∀ l : By, joinW c (spl c l) = l
  | [] => rfl
  | b :: r => by
    have ih := join_spl c r
    unfold spl
    split
    · rename_i e
      rw [joinW_cons c _ (spl_ne c r), ih, e]; rfl
    · cases hs : spl c r with
      | nil => exact absurd hs (spl_ne c r)
      | cons w ws =>
        rw [hs] at ih
        simp only []
        cases ws with
        | nil => simp only [joinW] at ih ⊢; rw [ih]
        | cons v ws => rw [joinW_cons c _ (by simp)] at ih ⊢; rw [← ih]; rfl
theorem spl_no (c : UInt8) : ∀ l : By, ∀ w ∈ spl c l, c ∉ w
  | [] => by simp [spl]
  | b :: r => by
    have ih := spl_no c r
    unfold spl
    split
    · intro w hw
      rcases List.mem_cons.mp hw with rfl | hw
      · simp
      · exact ih w hw
    · rename_i hne
      cases hs : spl c r with
      | nil => exact absurd hs (spl_ne c r)
      | cons v ws =>
        rw [hs] at ih
        intro w hw
        rcases List.mem_cons.mp hw with rfl | hw
        · intro hc
          rcases List.mem_cons.mp hc with e | e
          · exact hne e.symm
          · exact ih v (by simp) e
        · exact ih w (by simp [hw])
/-- Where the first c stands. -/
theorem idx_some {l : By} {c : UInt8} {o : Nat} (h : Lib.indexByte l c = o) : l = l.take o ++ c :: l.drop (o + 1) ∧ c ∉ l.take o ∧ o < l.length := by
  obtain ⟨h1, h2⟩ := Lib.indexByte_some h
  have hlt := (List.getElem?_eq_some_iff.mp h1).1
  refine ⟨?_, ?_, hlt⟩
  · conv => lhs; rw [← List.take_append_drop o l]
    congr 1
    rw [List.drop_eq_getElem_cons hlt]
    congr 1
    exact (List.getElem?_eq_some_iff.mp h1).2
  · intro hc
    obtain ⟨k, hk⟩ := List.getElem?_of_mem hc
    have hk2 : k < o := by have := (List.getElem?_eq_some_iff.mp hk).1; simp at this; omega
    rw [List.getElem?_take_of_lt hk2] at hk
    exact h2 k hk2 hk
theorem idx_none {l : By} {c : UInt8} (h : Lib.indexByte l c = -1) : c ∉ l := fun hc => by
  obtain ⟨k, hk⟩ := List.getElem?_of_mem hc
  exact Lib.indexByte_none h k hk
theorem splitK_spl (c : UInt8) : ∀ (k : Nat) (l : By), Lib.count l [c] = k → Lib.splitK [c] 0 k l = spl c l
  | 0, l, h => by
    have : c ∉ l := fun hc => by
      rw [Lib.count_one] at h
      have := List.count_pos_iff.mpr hc
      omega
    rw [spl_none c l this]; rfl
  | k + 1, l, h => by
    unfold Lib.splitK
    rw [Lib.index_one]
    by_cases e : Lib.indexByte l c = -1
    · rw [if_pos (by rw [e]; rfl), spl_none c l (idx_none e)]
    · have hge := Lib.indexByte_ge l c
      obtain ⟨o, ho⟩ : ∃ o : Nat, Lib.indexByte l c = o := ⟨(Lib.indexByte l c).toNat, by omega⟩
      rw [if_neg (by simpa using e), ho]
      obtain ⟨h1, h2, h3⟩ := idx_some ho
      have hc : Lib.count (l.drop (o + 1)) [c] = k := by
        rw [h1, Lib.count_one, List.count_append, List.count_cons_self, List.count_eq_zero.mpr h2] at h
        rw [Lib.count_one]; omega
      have := splitK_spl c k (l.drop (o + 1)) hc
      simp only [Int.toNat_natCast, Nat.add_zero, List.length_singleton]
      rw [this]
      conv => rhs; rw [h1]
      rw [spl_app c _ _ h2]
theorem ofL_inj {a b : By} (h : ofL a = ofL b) : a = b := by rw [← ofL_data a, h, ofL_data]
theorem map_ofL (l : List ByteArray) : (l.map (·.data.toList)).map ofL = l := by
  rw [List.map_map]
  exact (List.map_congr_left (fun s _ => ofL_of s)).trans (List.map_id _)
theorem splitI (n : Nat) (l : By) (c : UInt8) (h : l.length < 4294967281) : m_strings_Split n (ofL l) ⟨#[c]⟩ = some ((spl c l).map ofL) := by
  unfold m_strings_Split
  rw [gp_pos ⟨by rw [ofL_size]; exact h, Nat.le_refl 1⟩]
  congr 1
  rw [← map_ofL (Lib.splitB _ _ _ _), Lib.splitB_data]
  congr 1
  exact splitK_spl c _ l rfl
end Go.Proofs.YtnnalcglfgapbaaDoor.Z
