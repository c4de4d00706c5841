/- strings.Builder, used or new. -/
import Derived.Test.YtnnalcglfgapbaaDoorPs1
import Derived.KernelRfl
set_option linter.unusedVariables false
set_option linter.unusedSimpArgs false
namespace Go.Proofs.YtnnalcglfgapbaaDoor.Z
open Go Go.RowKit Go.Proofs.Sy Go.Proofs
set_option maxRecDepth 100000
def bB (x : AV) (l : List UInt8) : Sto := [.box 43 [x, .row 1 1 0 l.length], .row 5 1 (bl l)]
abbrev bU (l : List UInt8) : Sto := bB (.ptr 0 0) l
abbrev bN : Sto := bB (.p (.bx none)) []
theorem same_esc : SameFn Tryd.prog 46 := ⟨_, Tryd.func46, by kernel_rfl, by kernel_rfl, by kernel_rfl, by kernel_rfl⟩
theorem sCheckN : Sy.Fn Tryd.prog 38 [.ptr 0 0] bN (fun rs τ' => rs = [] ∧ τ' = bU []) := by
  refine fn_intro Tryd.func38 rfl rfl rfl ?_
  refine .inl (And.intro rfl ?_)
  refine And.intro (fun c => ?_) (fun c => ?_)
  · refine callS same_esc ?_
    refine And.intro (by kernel_rfl) ?_
    exact ⟨bU [], ⟨⟨⟨rfl, rfl, rfl, trivial⟩, rfl, trivial⟩, rfl⟩, rfl, rfl⟩
  · cases c
theorem sCheckU (l : List UInt8) : Sy.Fn Tryd.prog 38 [.ptr 0 0] (bU l) (fun rs τ' => rs = [] ∧ τ' = bU l) := by
  refine fn_intro Tryd.func38 rfl rfl rfl ?_
  refine And.intro (fun c => ?_) (fun c => ?_)
  · cases c
  · refine And.intro (fun c => ?_) (fun c => ?_)
    · cases c
    · exact ⟨bU l, ⟨⟨⟨rfl, rfl, rfl, trivial⟩, rfl, trivial⟩, rfl⟩, rfl, rfl⟩
theorem bytesL_bl (s : ByteArray) : bytesL s = bl s.data.toList := rfl
theorem size_list (s : ByteArray) : s.data.toList.length = s.size := by rw [Array.length_toList]; rfl
theorem sByteU (l : List UInt8) (c : UInt8) (hl : l.length ≤ 10000000000000) : Sy.Fn Tryd.prog 23 [.ptr 0 0, .p (U8 c.toNat)] (bU l) (fun rs τ' => rs = [.p (.raw .nilIface)] ∧ τ' = bU (l ++ [c])) := by
  refine fn_intro Tryd.func23 rfl rfl rfl ?_
  refine callG [0, 1] (sCheckU l) rfl (fun K hk => hk) ?_
  rintro rs τ' hl' ⟨rfl, rfl⟩
  refine And.intro (show fits _ _ by repeat' constructor) ?_
  refine Exists.intro _ (And.intro ⟨show 0 + _ ≤ List.length _ from Nat.le_of_eq rfl, rfl⟩ ?_)
  refine Exists.intro (bl l) ?_
  refine And.intro ⟨(row_all l).1, (row_all l).2, by repeat' constructor, appfit l.length 1 (by omega)⟩ ?_
  refine ⟨bU (l ++ [c]), ⟨⟨⟨rfl, rfl, ?_, trivial⟩, ?_, trivial⟩, rfl⟩, rfl, rfl⟩
  · exact congrArg (AV.row 1 1 0) (by rw [List.length_append]; rfl)
  · exact congrArg (Bk.row _ 1) (by rw [bl_app]; rfl)
theorem sStrX (x : AV) (l : List UInt8) (s : ByteArray) (hl : l.length + s.size ≤ 10000000000000) (hc : Sy.Fn Tryd.prog 38 [.ptr 0 0] (bB x l) (fun rs τ' => rs = [] ∧ τ' = bU l)) (hx : x = .ptr 0 0 ∨ x = .p (.bx none)) : Sy.Fn Tryd.prog 18 [.ptr 0 0, .p (S s)] (bB x l) (fun rs τ' => rs = [.p (I s.size), .p (.raw .nilIface)] ∧ τ' = bU (l ++ s.data.toList)) := by
  have e1 := size_list s
  have ap : (l.length + (bytesL s).length) * 1 ≤ 140737488355328 ∧ l.length + (bytesL s).length ≤ 9223372036854775807 := by
    rw [bytesL_bl, bl_len]
    exact appfit l.length s.data.toList.length (by omega)
  rcases hx with rfl | rfl
  · refine fn_intro Tryd.func18 rfl rfl rfl ?_
    refine callG [0, 1] hc rfl (fun K hk => hk) ?_
    rintro rs τ' hl' ⟨rfl, rfl⟩
    refine Exists.intro (bl l) ?_
    refine And.intro ⟨(row_all l).1, (row_all l).2, fits_bl _, ap⟩ ?_
    refine ⟨bU (l ++ s.data.toList), ⟨⟨⟨rfl, rfl, ?_, trivial⟩, ?_, trivial⟩, rfl⟩, rfl, rfl⟩
    · exact congrArg (AV.row 1 1 0) (by rw [bytesL_bl, bl_len, List.length_append])
    · exact congrArg (Bk.row _ 1) (by rw [bl_app]; rfl)
  · refine fn_intro Tryd.func18 rfl rfl rfl ?_
    refine callG [0, 1] hc rfl (fun K hk => hk) ?_
    rintro rs τ' hl' ⟨rfl, rfl⟩
    refine Exists.intro (bl l) ?_
    refine And.intro ⟨(row_all l).1, (row_all l).2, fits_bl _, ap⟩ ?_
    refine ⟨bU (l ++ s.data.toList), ⟨⟨⟨rfl, rfl, ?_, trivial⟩, ?_, trivial⟩, rfl⟩, rfl, rfl⟩
    · exact congrArg (AV.row 1 1 0) (by rw [bytesL_bl, bl_len, List.length_append])
    · exact congrArg (Bk.row _ 1) (by rw [bl_app]; rfl)
theorem sStrU (l : List UInt8) (s : ByteArray) (hl : l.length + s.size ≤ 10000000000000) : Sy.Fn Tryd.prog 18 [.ptr 0 0, .p (S s)] (bU l) (fun rs τ' => rs = [.p (I s.size), .p (.raw .nilIface)] ∧ τ' = bU (l ++ s.data.toList)) := sStrX _ l s hl (sCheckU l) (.inl rfl)
theorem sStrN (s : ByteArray) (hl : s.size ≤ 10000000000000) : Sy.Fn Tryd.prog 18 [.ptr 0 0, .p (S s)] bN (fun rs τ' => rs = [.p (I s.size), .p (.raw .nilIface)] ∧ τ' = bU s.data.toList) := by
  have := sStrX _ [] s (by simpa using hl) sCheckN (.inr rfl)
  simpa using this
theorem sLenU (l : List UInt8) : Sy.Fn Tryd.prog 24 [.ptr 0 0] (bU l) (fun rs τ' => rs = [.p (I l.length)] ∧ τ' = bU l) := by
  refine fn_intro Tryd.func24 rfl rfl rfl ?_
  exact ⟨bU l, ⟨⟨⟨rfl, rfl, rfl, trivial⟩, rfl, trivial⟩, rfl⟩, rfl, rfl⟩
theorem sString (l : List UInt8) (hn : l ≠ []) (hl : l.length ≤ 10000000000000) : Sy.Fn Tryd.prog 25 [.ptr 0 0] (bU l) (fun rs τ' => rs = [.p (S ⟨l.toArray⟩)] ∧ τ' = [.box 43 [.ptr 0 0, .dead], .dead]) := by
  have h0 : 0 < l.length := List.length_pos_iff.mpr hn
  refine fn_intro Tryd.func25 rfl rfl rfl ?_
  refine ⟨[0, 1, 2, 3, 5, 6, 7, 8, 9, 4, 10, 11], [1], by decide +kernel, ?_⟩
  refine And.intro h0 ?_
  have hs : (⟨l.toArray⟩ : ByteArray).size = l.length := by show l.toArray.size = _; simp
  refine Exists.intro (⟨l.toArray⟩ : ByteArray) (And.intro ⟨by omega, by rw [hs], by rw [hs, bl_len]; omega, ?_, by omega⟩ ?_)
  · rw [hs]; exact (row_all l).2
  exact ⟨[.box 43 [.ptr 0 0, .dead], .dead], ⟨⟨⟨rfl, rfl, trivial, trivial⟩, trivial, trivial⟩, rfl⟩, rfl, rfl⟩
end Go.Proofs.YtnnalcglfgapbaaDoor.Z
