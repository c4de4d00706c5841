/- strings.Builder. -/
import Derived.Test.YtgdecbliegelmaaTrFh
import Derived.KernelRfl
set_option linter.unusedVariables false
set_option linter.unusedSimpArgs false
namespace Go.Proofs.Ytgdecbliegelmaa.Z
open Go Go.RowKit Go.Proofs.Sy Go.Proofs
set_option maxRecDepth 100000
def bF : Sto := [.box 143 [.p (.raw (.pointer none)), .tl []]]
def bU (l : List UInt8) : Sto := [.box 143 [.ptr 0 0, .row 1 1 0 l.length], .row 5 1 (bl l)]
theorem same_esc : SameFn Try.prog 146 := ⟨_, Try.func146, by kernel_rfl, by kernel_rfl, by kernel_rfl, by kernel_rfl⟩
theorem sCheckF : Sy.Fn Try.prog 143 [.ptr 0 0] bF (fun rs τ' => rs = [] ∧ τ' = [.box 143 [.ptr 0 0, .tl []]]) := by
  refine fn_intro Try.func143 rfl rfl rfl ?_
  refine And.intro (fun c => ?_) (fun c => ?_)
  · refine callS same_esc ?_
    refine And.intro (by kernel_rfl) ?_
    exact ⟨[.box 143 [.ptr 0 0, .tl []]], ⟨⟨⟨rfl, rfl, rfl, trivial⟩, trivial⟩, rfl⟩, rfl, rfl⟩
  · cases c
theorem sCheckU (l : List UInt8) : Sy.Fn Try.prog 143 [.ptr 0 0] (bU l) (fun rs τ' => rs = [] ∧ τ' = bU l) := by
  refine fn_intro Try.func143 rfl rfl rfl ?_
  refine And.intro (fun c => ?_) (fun c => ?_)
  · cases c
  · refine And.intro (fun c => ?_) (fun c => ?_)
    · cases c
    · exact ⟨bU l, ⟨⟨⟨rfl, rfl, rfl, trivial⟩, rfl, trivial⟩, rfl⟩, rfl, rfl⟩
def bV (l : List UInt8) : Sto := [.box 143 [.ptr 0 0, .row 2 1 0 l.length], .dead, .row 5 1 (bl l)]
theorem sByteF (c : UInt8) : Sy.Fn Try.prog 132 [.ptr 0 0, .p (U8 c.toNat)] bF (fun rs τ' => rs = [.p (.raw .nilIface)] ∧ τ' = bV [c]) := by
  refine fn_intro Try.func132 rfl rfl rfl ?_
  refine callG [0] sCheckF rfl (fun K hk => hk) ?_
  rintro rs τ' hl ⟨rfl, rfl⟩
  refine And.intro (show fits _ _ by repeat' constructor) ?_
  refine Exists.intro _ (And.intro ⟨show 0 + _ ≤ List.length _ from Nat.le_of_eq rfl, rfl⟩ ?_)
  refine And.intro ⟨.inl rfl, trivial, by repeat' constructor, appfit 0 1 (by omega)⟩ ?_
  exact ⟨bV [c], ⟨⟨⟨rfl, rfl, rfl, trivial⟩, trivial, rfl, trivial⟩, rfl⟩, rfl, rfl⟩
theorem sByteU (l : List UInt8) (c : UInt8) (hl : l.length ≤ 10000000000000) : Sy.Fn Try.prog 132 [.ptr 0 0, .p (U8 c.toNat)] (bU l) (fun rs τ' => rs = [.p (.raw .nilIface)] ∧ τ' = bU (l ++ [c])) := by
  refine fn_intro Try.func132 rfl rfl rfl ?_
  refine callG [0, 1] (sCheckU l) rfl (fun K hk => hk) ?_
  rintro rs τ' hl' ⟨rfl, rfl⟩
  refine And.intro (show fits _ _ by repeat' constructor) ?_
  refine Exists.intro _ (And.intro ⟨show 0 + _ ≤ List.length _ from Nat.le_of_eq rfl, rfl⟩ ?_)
  refine Exists.intro (bl l) ?_
  refine And.intro ⟨(row_all l).1, (row_all l).2, by repeat' constructor, appfit l.length 1 (by omega)⟩ ?_
  refine ⟨bU (l ++ [c]), ⟨⟨⟨rfl, rfl, ?_, trivial⟩, ?_, trivial⟩, rfl⟩, rfl, rfl⟩
  · exact congrArg (AV.row 1 1 0) (by rw [List.length_append]; rfl)
  · exact congrArg (Bk.row _ 1) (by rw [bl_app]; rfl)
theorem bytesL_bl (s : ByteArray) : bytesL s = bl s.data.toList := rfl
theorem size_list (s : ByteArray) : s.data.toList.length = s.size := by rw [Array.length_toList]; rfl
theorem sStrF (s : ByteArray) (h0 : 0 < s.size) (hs : s.size ≤ 10000000000000) : Sy.Fn Try.prog 133 [.ptr 0 0, .p (S s)] bF (fun rs τ' => rs = [.p (I s.size), .p (.raw .nilIface)] ∧ τ' = bU s.data.toList) := by
  refine fn_intro Try.func133 rfl rfl rfl ?_
  refine callG [0] sCheckF rfl (fun K hk => hk) ?_
  rintro rs τ' hl ⟨rfl, rfl⟩
  have e1 := size_list s
  refine And.intro ⟨.inl rfl, trivial, fits_bl _, ?_⟩ ?_
  · have := appfit 0 s.data.toList.length (by omega)
    rw [← bl_len] at this
    exact this
  refine ⟨bU s.data.toList, ⟨⟨⟨rfl, rfl, ?_, trivial⟩, rfl, trivial⟩, rfl⟩, rfl, rfl⟩
  exact congrArg (AV.row 1 1 0) (by rw [bytesL_bl, bl_len]; exact (Nat.zero_add _).symm)
theorem sStrU (l : List UInt8) (s : ByteArray) (hl : l.length + s.size ≤ 10000000000000) : Sy.Fn Try.prog 133 [.ptr 0 0, .p (S s)] (bU l) (fun rs τ' => rs = [.p (I s.size), .p (.raw .nilIface)] ∧ τ' = bU (l ++ s.data.toList)) := by
  refine fn_intro Try.func133 rfl rfl rfl ?_
  refine callG [0, 1] (sCheckU l) rfl (fun K hk => hk) ?_
  rintro rs τ' hl' ⟨rfl, rfl⟩
  have e1 := size_list s
  refine Exists.intro (bl l) ?_
  refine And.intro ⟨(row_all l).1, (row_all l).2, fits_bl _, ?_⟩ ?_
  · have := appfit l.length s.data.toList.length (by omega)
    rw [← bl_len s.data.toList] at this
    exact this
  refine ⟨bU (l ++ s.data.toList), ⟨⟨⟨rfl, rfl, ?_, trivial⟩, ?_, trivial⟩, rfl⟩, rfl, rfl⟩
  · exact congrArg (AV.row 1 1 0) (by rw [bytesL_bl, bl_len, List.length_append])
  · exact congrArg (Bk.row _ 1) (by rw [bl_app]; rfl)
theorem sString (l : List UInt8) (hn : l ≠ []) (hl : l.length ≤ 10000000000000) : Sy.Fn Try.prog 111 [.ptr 0 0] (bU l) (fun rs τ' => rs = [.p (S ⟨l.toArray⟩)] ∧ τ' = [.box 143 [.ptr 0 0, .dead], .dead]) := by
  have h0 : 0 < l.length := List.length_pos_iff.mpr hn
  refine fn_intro Try.func111 rfl rfl rfl ?_
  refine ⟨[0, 1, 2, 3, 5, 6, 7, 8, 9, 4, 10, 11], [1], by decide +kernel, ?_⟩
  refine And.intro h0 ?_
  have hs : (⟨l.toArray⟩ : ByteArray).size = l.length := by show l.toArray.size = _; simp
  refine Exists.intro (⟨l.toArray⟩ : ByteArray) (And.intro ⟨by omega, by rw [hs], by rw [hs, bl_len]; omega, ?_, by omega⟩ ?_)
  · rw [hs]; exact (row_all l).2
  exact ⟨[.box 143 [.ptr 0 0, .dead], .dead], ⟨⟨⟨rfl, rfl, trivial, trivial⟩, trivial, trivial⟩, rfl⟩, rfl, rfl⟩
end Go.Proofs.Ytgdecbliegelmaa.Z
