/- The law FnTreeText. -/
import Derived.Test.YtgdecbliegelmaaRdC
set_option linter.unusedVariables false
set_option linter.unusedSimpArgs false
namespace Go.Proofs.Ytgdecbliegelmaa.Z
open Go Go.RowKit Go.Proofs.Sy Go.Proofs
set_option maxRecDepth 100000
theorem right_of {t : Tree} (h : okT t = true) : right t = true := by
  unfold okT at h
  simp only [Bool.and_eq_true] at h
  exact h.2
theorem rEnd (n : Nat) (t : Tree) (q : gtreeReader) (hw : wt t ≤ 1099511627776) (h : okT t = true) : m_impl_TreeRead_j1 n (t, q) = some (t, 0, 0) := by
  unfold m_impl_TreeRead_j1 m_impl_TreeOK
  simp only [gp_pos hw, Option.bind_some, h, Bool.not_true, cond_false, m_impl_TreeRead_1_rnone]
theorem rRead1 {n : Nat} {t : Tree} (hw : wt t ≤ 1000000) (h : okT t = true) (hs : (shw t).size ≤ 20000) (hn : 2000000 ≤ n) : m_impl_TreeRead n (shw t) = some (t, 0, 0) := by
  have hr := right_of h
  obtain ⟨b, q, e, b1, b2, b3⟩ := shw_head hr
  have h0 := Suf.zero (shw t) (by omega)
  have hb := rBlanks0 h0 (by rw [e]; exact ⟨b2, b3⟩) (n := n) (by omega)
  have ht := rTree n t (shw t) 0 [] hr (by simpa using h0) (by omega) (by omega)
  have hz := size_ls (shw t)
  have h1 : Suf (shw t) (0 + (shw t).size) [] := by
    have : Suf (shw t) 0 ((shw t).data.toList ++ []) := by simpa using h0
    have := this.app
    rw [← hz] at this; exact this
  have hb2 := rBlanks0 h1 trivial (n := n) (by omega)
  have c1 : ¬ ((shw t).size : Int) > 20000 := by omega
  have c2 : ¬ (0 + ((shw t).size : Int) < (shw t).size) := by omega
  unfold m_impl_TreeRead
  rw [decide_eq_false c1]
  simp only [cond_false, hb, Option.bind_some, ht, Ou.el, hb2, decide_eq_false c2]
  exact rEnd n t _ (by omega) h
theorem cut_ls (s : ByteArray) : (s.extract 0 (s.size - 1)).data.toList = s.data.toList.dropLast := by
  have hz := size_ls s
  rw [ByteArray.data_extract, Array.toList_extract, List.extract_eq_take_drop, List.dropLast_eq_take, ← hz, List.drop_zero, Nat.sub_zero]
theorem rRead2 {n : Nat} {t : Tree} (hw : wt t ≤ 1000000) (h : okT t = true) (hs : (shw t).size ≤ 20000) (hn : 2000000 ≤ n) : m_impl_TreeRead n ((shw t).extract 0 ((shw t).size - 1)) = some (⟨⟨#[]⟩, ⟨#[]⟩, false, []⟩, 2, ((shw t).size : Int) - 1) := by
  have hr := right_of h
  obtain ⟨b, q, e, b1, b2, b3⟩ := shw_head hr
  have hz := size_ls (shw t)
  have hl := cut_ls (shw t)
  generalize hc : (shw t).extract 0 ((shw t).size - 1) = s at hl ⊢
  have hsz := size_ls s
  rw [hl, List.length_dropLast, ← hz] at hsz
  have h0 := Suf.zero s (by omega)
  rw [hl] at h0
  have hpos : 1 ≤ (shw t).size := by rw [hz, e]; simp
  have hnb : nbl (shw t).data.toList.dropLast := by
    rw [e]
    cases q with
    | nil => trivial
    | cons c q => exact ⟨b2, b3⟩
  have hb := rBlanks0 h0 hnb (n := n) (by omega)
  have ht := rCut n t s 0 hr h0 (by omega) (by omega)
  have c1 : ¬ (s.size : Int) > 20000 := by omega
  unfold m_impl_TreeRead
  rw [decide_eq_false c1]
  simp only [cond_false, hb, Option.bind_some, ht, Ou.el, m_impl_TreeRead_1_rsome]
  have : (s.size : Int) = ((shw t).size : Int) - 1 := by omega
  rw [this]
theorem rRead3 {n : Nat} {t : Tree} (hw : wt t ≤ 1000000) (h : okT t = true) (hs : (shw t).size ≤ 19997) (hn : 2000000 ≤ n) : m_impl_TreeRead n (((⟨#[32, 10]⟩ : ByteArray) ++ shw t) ++ ⟨#[32]⟩) = some (t, 0, 0) := by
  have hr := right_of h
  obtain ⟨b, q, e, b1, b2, b3⟩ := shw_head hr
  have hz := size_ls (shw t)
  have hl : (((⟨#[32, 10]⟩ : ByteArray) ++ shw t) ++ ⟨#[32]⟩).data.toList = 32 :: 10 :: ((shw t).data.toList ++ [32]) := by rw [lsa, lsa]; rfl
  generalize (((⟨#[32, 10]⟩ : ByteArray) ++ shw t) ++ ⟨#[32]⟩) = s at hl ⊢
  have hsz := size_ls s
  rw [hl] at hsz
  simp only [List.length_cons, List.length_append, List.length_nil] at hsz
  have h0 := Suf.zero s (by omega)
  rw [hl] at h0
  have hb := rBlanks2 h0 (.inl rfl) (.inr rfl) (by rw [e]; exact ⟨b2, b3⟩) (n := n) (by omega)
  have h2 : Suf s 2 ((shw t).data.toList ++ [32]) := h0.cons.2.2.cons.2.2
  have ht := rTree n t s 2 [32] hr h2 (by omega) (by omega)
  have h3 : Suf s (2 + (shw t).size) [32] := by have := h2.app; rw [← hz] at this; exact this
  have hb2 := rBlanks1 h3 (.inl rfl) trivial (n := n) (by omega)
  have c1 : ¬ (s.size : Int) > 20000 := by omega
  have c2 : ¬ (2 + ((shw t).size : Int) + 1 < s.size) := by omega
  unfold m_impl_TreeRead
  rw [decide_eq_false c1]
  simp only [cond_false, hb, Option.bind_some, show (0 : Int) + 2 = 2 by rfl, ht, Ou.el, hb2, decide_eq_false c2]
  exact rEnd n t _ (by omega) h
theorem treeTextM (code : List UInt8) : m_laws_FnTreeText 2000000 code = some true := by
  unfold m_laws_FnTreeText m_laws_big
  simp only [Option.bind_some]
  cases hb : decide (((bl code).length : Int) > 1048576) with
  | true => rfl
  | false =>
  have hcl : code.length ≤ 1048576 := by
    have := of_decide_eq_false hb
    rw [bl_len] at this; omega
  have hd : m_spec_DrawTreeShow 2000000 code = some (anyM (cu0 code (by omega))).1 := by
    unfold m_spec_DrawTreeShow m_spec_l01DrawCur m_spec_l01DrawAny
    rw [dif_pos (by omega)]
    rfl
  have hw := any_big (cu0 code (by omega))
  simp only [cond_false, hd, Option.bind_some]
  generalize (anyM (cu0 code (by omega))).1 = t at hw ⊢
  have hw2 : wt t ≤ 1099511627776 := by omega
  cases hok : okT t with
  | false => simp [m_spec_TreeShow, m_impl_TreeShow, m_spec_TreeOK, m_impl_TreeOK, gp_pos hw2, hok]
  | true =>
  have hr := right_of hok
  have hnm : 0 < t.nm.size := by
    obtain ⟨b, q, e, _⟩ := nm_head (right_nm hr)
    rw [size_ls, e]; simp
  have hs : m_spec_TreeShow 2000000 t = some (if (shw t).size ≤ 20000 then (shw t, 0) else (⟨#[]⟩, 3)) := by
    simp only [m_spec_TreeShow, m_spec_TreeOK, gp_pos hw2, hok, Option.bind_some, Bool.not_true, cond_false, m_spec_l01Show]
    by_cases c : (shw t).size ≤ 20000
    · have : ¬ ((shw t).size : Int) > 20000 := by omega
      rw [decide_eq_false this, if_pos c]; rfl
    · have : ((shw t).size : Int) > 20000 := by omega
      rw [decide_eq_true this, if_neg c]; rfl
  have hi : m_impl_TreeShow 2000000 t = some (if (shw t).size ≤ 20000 then (shw t, 0) else (⟨#[]⟩, 3)) := by
    simp only [m_impl_TreeShow, m_impl_TreeOK, gp_pos hw2, hok, Option.bind_some, Bool.not_true, cond_false, m_impl_text, gp_pos (show 8 * wt t ≤ 10000000000000 ∧ 0 < t.nm.size from ⟨by omega, hnm⟩)]
    by_cases c : (shw t).size ≤ 20000
    · have : ¬ ((shw t).size : Int) > 20000 := by omega
      rw [decide_eq_false this, if_pos c]; rfl
    · have : ((shw t).size : Int) > 20000 := by omega
      rw [decide_eq_true this, if_neg c]; rfl
  simp only [hs, hi, Option.bind_some]
  by_cases c : (shw t).size ≤ 20000
  · rw [if_pos c]
    have hpos : 1 ≤ (shw t).size := by
      obtain ⟨b, q, e, _⟩ := shw_head hr
      rw [size_ls, e]; simp
    have e1 : wr .i64 (((shw t).size : Int) - 1) = ((shw t).size : Int) - 1 := w64 (by omega)
    have e2 : (((shw t).size : Int) - 1).toNat = (shw t).size - 1 := by omega
    have hsame : m_laws_sameTree 2000000 t t = some true := by unfold m_laws_sameTree; rw [gp_pos hw2, (same_iff t t).mpr rfl]
    simp only [decide_true, Bool.not_true, cond_false, show ((0 : Int) != 0) = false from rfl, rRead1 hw hok c (Nat.le_refl _), Option.bind_some, hsame, e1]
    rw [gp_pos ⟨by omega, by omega, by omega⟩, e2, show (0 : Int).toNat = 0 from rfl, rRead2 hw hok c (Nat.le_refl _)]
    simp only [Option.bind_some, show ((2 : Int) != 2) = false from rfl, cond_false, bne_self_eq_false]
    by_cases c3 : ((shw t).size : Int) > 19997
    · rw [decide_eq_true c3]; rfl
    · rw [decide_eq_false c3]
      simp only [cond_false]
      have z1 : (⟨#[32, 10]⟩ : ByteArray).size = 2 := rfl
      have z2 : (⟨#[32]⟩ : ByteArray).size = 1 := rfl
      rw [gp_pos (by rw [z1]; omega), gp_pos (by rw [ByteArray.size_append, z1, z2]; omega), rRead3 hw hok (by omega) (Nat.le_refl _)]
      simp only [Option.bind_some, show ((0 : Int) == 0) = true from rfl, cond_true, hsame]
  · rw [if_neg c]
    rfl
theorem cTreeTextLaw (code : List UInt8) : FnP Try.prog 13 [.lst (bl code)] [B true] := c_laws_FnTreeText 2000000 code true (treeTextM code)
end Go.Proofs.Ytgdecbliegelmaa.Z
