/- The law FnRenamed returns true for every input, and leaves its arguments as they read. -/
import Derived.Test.YtegpjjnedbbpjaaRows
import Derived.Test.YtegpjjnedbbpjaaRnN
import Derived.Test.YtegpjjnedbbpjaaSyN
import Derived.WalkKit
import Derived.ProofKit
import Derived.OpenShut
import Derived.ShutString
import Derived.ChangeOld
import Derived.Below
import Derived.SizedLaws
import Derived.Carry
namespace Go.Proofs.Ytegpjjnedbbpjaa.fnRenamed
open Go.ChangeShapes Go.WideShapes Go.ChangeAt Go.RowKit Go.Proofs.Sy Go.Proofs.Ytegpjjnedbbpjaa.Z
set_option linter.unusedVariables false
theorem bytes_of : ∀ (l : List Int), (∀ a ∈ l, 0 ≤ a ∧ a ≤ 255) → ∃ c : List UInt8, bl c = l.map (fun a => PV.raw (.int .u8 a))
  | [], _ => ⟨[], rfl⟩
  | a :: l, h => by
    obtain ⟨c, hc⟩ := bytes_of l (fun x hx => h x (List.mem_cons_of_mem _ hx))
    have ha := h a (List.mem_cons_self ..)
    refine ⟨UInt8.ofNat a.toNat :: c, ?_⟩
    simp only [bl, List.map_cons] at hc ⊢
    rw [hc]
    have e : ((UInt8.ofNat a.toNat).toNat : Int) = a := by rw [UInt8.toNat_ofNat']; omega
    rw [e]
theorem own : ownKnob Try.prog.godebug = none := by kernel_rfl
theorem laidOut : laidOutB Try.prog = true := by kernel_rfl
set_option maxRecDepth 100000 in
theorem lifted (os : Os) (started : os.Started) (H : Type) (enc : TypeId × Value → H) :
    ReturnsInHanded {} Try.checked os 7 .any (Rows.fnRenamedSpec.pre6 enc Try.prog Try.f7 Rows.fnRenamedRow.domain false) (Rows.fnRenamedSpec.post enc Try.prog Try.f7 false true false false) := by
  refine returnsInHanded_of_change_sized (C := Try.checked) own started (by kernel_rfl) Try.func7
    (ChangeSpec.witness6 (enc := enc) (C := Try.checked) false ⟨#[], #[(.slice none 0 0)], []⟩ 8 (by kernel_rfl) (by kernel_rfl) (by kernel_rfl) (by kernel_rfl)) ?_
  intro W base args ds gs before hval0 hW hcnd hsz0 _
  have hsz : (DataW.weightsEach Try.prog (Try.f7.params.toList ++ Rows.fnRenamedSpec.plain.varTypes Try.prog) (ds ++ gs)).all (· ≤ reachBytes) = true := hsz0
  have hval : ∀ (j : Nat) t v, Try.f7.params[j]? = some t → args[j]? = some v → Value.okWide Try.prog W .any base t v := hval0
  have hW' := hW
  obtain ⟨p, q, hA0, hV, rfl, hfz, hnd⟩ := hW
  have hA : DataW.TrodAll enc Try.prog W 0 (fun _ => true) true Try.f7.params.toList args.toList ds p := hA0
  rw [Try.params7] at hA hval hsz
  obtain ⟨v0, vs0, d0, ds0, p0, q0, hargs, rfl, rfl, h0, r0⟩ := trodAll_cons hA
  obtain ⟨rfl, rfl, rfl⟩ := trodAll_nil r0
  obtain rfl : args = #[v0] := by cases args; simp_all
  obtain ⟨rfl, rfl⟩ := trodVars_none hV
  obtain ⟨x0, hk0, hb0⟩ := Sy.open_arg (e := fun l : List Int => PV.lst (l.map (fun a => PV.raw (.int .u8 a)))) (B := fun l : List Int => l.length * 1 ≤ 140737488351232 ∧ ∀ a ∈ l, 0 ≤ a ∧ a ≤ 255) hsz (j := 0) rfl rfl (fun n => opens_slice_lt (bs := 1) (sz := 1) Try.underlying38 (by kernel_rfl) (by decide) (fun _ => rfl) (by kernel_rfl) (fun m_ _ => opens_u8 Try.underlying5)) h0
  have lt0 : ∀ x ∈ p0, x.block < W.heap.size := by obtain ⟨m, hm⟩ := h0; exact DataW.trod_lt m _ _ _ hm
  obtain ⟨a0, len0, cap0, rfl⟩ := okWide_slice Try.underlying38 (hval 0 38 v0 rfl rfl)
  have pr0 := Sy.pr_one hk0
  obtain ⟨c0, hc0⟩ := bytes_of x0 hb0.2
  rw [← hc0] at pr0
  clear hA0 hval0 hsz0 hsz
  refine (Sy.law_calls (Sy.tab_nil rfl) (cRenamedLaw c0) (vs := [_]) rfl (fun j x u hx hu => ?_)).mono fun e W' he => ?_
  · match j, hx, hu with
    | 0, hx, hu => cases hx; cases hu; exact pr0
    | (j + 1), hx, hu => simp at hx
  obtain ⟨he, bel0⟩ := he
  have bel : Below W.heap.size W W' := bel0
  subst he
  exact ⟨_, rfl, _, _, _, [], _, [], hW', trodAll_mk1 (shut_bool Try.underlying4 _), (trodAll_cons_mk (Below.trod laidOut (by kernel_rfl) (of_decide_eq_true (by kernel_rfl)) h0 bel lt0) trodAll_mk0), rfl, bel.frame _, fun h => by cases h⟩
theorem over : Rows.fnRenamedRow.holds Try.pinned (OpenSpec.ofChange Rows.fnRenamedSpec) :=
  OpenClaim.holds_of_wide 7 Try.f7 rfl rfl rfl rfl rfl rfl rfl ⟨rfl, rfl, rfl, rfl, rfl⟩ rfl rfl rfl rfl rfl (by kernel_rfl) Try.func7 (by kernel_rfl)
    (of_decide_eq_true (by kernel_rfl)) (by unfold Func.isWrapper; first | (rw [if_pos (by decide +kernel)]; kernel_rfl) | (rw [if_neg (by decide +kernel)]; exact ⟨rfl, rfl⟩))
    (fun os started H enc _ => lifted os started H enc)
theorem proved : Rows.FnRenamedSaid := over
#print axioms proved
end Go.Proofs.Ytegpjjnedbbpjaa.fnRenamed
namespace Go.Proofs.Ytegpjjnedbbpjaa
theorem fnRenamed_holds : Rows.FnRenamedSaid := fnRenamed.proved
end Go.Proofs.Ytegpjjnedbbpjaa
