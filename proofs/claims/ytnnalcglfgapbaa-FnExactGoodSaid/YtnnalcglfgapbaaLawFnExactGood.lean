/- The law FnExactGood returns true for every input, and leaves its arguments as they read. -/
import Derived.Test.YtnnalcglfgapbaaRows
import Derived.Test.YtnnalcglfgapbaaGdF
import Derived.Test.YtnnalcglfgapbaaSyN
import Derived.WalkKit
import Derived.ProofKit
import Derived.OpenShut
import Derived.ShutString
import Derived.ChangeOld
import Derived.Below
import Derived.SizedLaws
import Derived.Carry
namespace Go.Proofs.Ytnnalcglfgapbaa.fnExactGood
open Go.ChangeShapes Go.WideShapes Go.ChangeAt Go.RowKit Go.Proofs.Sy Go.Proofs.Ytnnalcglfgapbaa.Z
set_option linter.unusedVariables false
theorem own : ownKnob Try.prog.godebug = none := by kernel_rfl
theorem laidOut : laidOutB Try.prog = true := by kernel_rfl
set_option maxRecDepth 100000 in
theorem lifted (os : Os) (started : os.Started) (H : Type) (enc : TypeId × Value → H) :
    ReturnsInHanded {} Try.checked os 3 .any (Rows.fnExactGoodSpec.pre6 enc Try.prog Try.f3 Rows.fnExactGoodRow.domain false) (Rows.fnExactGoodSpec.post enc Try.prog Try.f3 false true false false) := by
  refine returnsInHanded_of_change_sized (C := Try.checked) own started (by kernel_rfl) Try.func3
    (ChangeSpec.witness6 (enc := enc) (C := Try.checked) false ⟨#[], #[(.agg #[(.slice none 0 0), (.slice none 0 0), (.int .i64 0), (.slice none 0 0)]), (.int .i64 0), (.slice none 0 0)], []⟩ 8 (by kernel_rfl) (by kernel_rfl) (by kernel_rfl) (by kernel_rfl)) ?_
  intro W base args ds gs before hval0 hW hcnd hsz0 _
  have hsz : (DataW.weightsEach Try.prog (Try.f3.params.toList ++ Rows.fnExactGoodSpec.plain.varTypes Try.prog) (ds ++ gs)).all (· ≤ reachBytes) = true := hsz0
  have hval : ∀ (j : Nat) t v, Try.f3.params[j]? = some t → args[j]? = some v → Value.okWide Try.prog W .any base t v := hval0
  have hW' := hW
  obtain ⟨p, q, hA0, hV, rfl, hfz, hnd⟩ := hW
  have hA : DataW.TrodAll enc Try.prog W 0 (fun _ => true) true Try.f3.params.toList args.toList ds p := hA0
  rw [Try.params3] at hA hval hsz
  obtain ⟨v0, vs0, d0, ds0, p0, q0, hargs, rfl, rfl, h0, r0⟩ := trodAll_cons hA
  obtain ⟨v1, vs1, d1, ds1, p1, q1, rfl, rfl, rfl, h1, r1⟩ := trodAll_cons r0
  obtain ⟨v2, vs2, d2, ds2, p2, q2, rfl, rfl, rfl, h2, r2⟩ := trodAll_cons r1
  obtain ⟨rfl, rfl, rfl⟩ := trodAll_nil r2
  obtain rfl : args = #[v0, v1, v2] := by cases args; simp_all
  obtain ⟨rfl, rfl⟩ := trodVars_none hV
  obtain ⟨x0, hk0, hb0⟩ := Sy.open_arg (e := gBnf.enc) (B := W_gBnf) hsz (j := 0) rfl rfl (fun n => o_gBnf n) h0
  have lt0 : ∀ x ∈ p0, x.block < W.heap.size := by obtain ⟨m, hm⟩ := h0; exact DataW.trod_lt m _ _ _ hm
  have pr0 := Sy.pr_agg Try.underlying26 (hval 0 26 v0 rfl rfl) hk0
  obtain ⟨x1, hk1, hb1⟩ := Sy.open_arg (e := I) (B := fun a : Int => (-9223372036854775808 ≤ a ∧ a ≤ 9223372036854775807)) hsz (j := 1) rfl rfl (fun n => (opens_i64 Try.underlying3)) h1
  have lt1 : ∀ x ∈ p1, x.block < W.heap.size := by obtain ⟨m, hm⟩ := h1; exact DataW.trod_lt m _ _ _ hm
  obtain ⟨u1, rfl⟩ := okWide_int Try.underlying3 (hval 1 3 v1 rfl rfl)
  have pr1 := Sy.pr_one hk1
  obtain ⟨x2, hk2, hb2⟩ := Sy.open_arg (e := fun l : List Int => PV.lst (l.map I)) (B := fun x : List Int => (x.length * 8 ≤ 140737488351232 ∧ ∀ a ∈ x, (-9223372036854775808 ≤ a ∧ a ≤ 9223372036854775807))) hsz (j := 2) rfl rfl (fun n => (opens_slice_lt (bs := 8) (sz := 1) Try.underlying27 (by kernel_rfl) (by decide) (fun _ => rfl) (by kernel_rfl) (fun m_ _ => (opens_i64 Try.underlying3)))) h2
  have lt2 : ∀ x ∈ p2, x.block < W.heap.size := by obtain ⟨m, hm⟩ := h2; exact DataW.trod_lt m _ _ _ hm
  obtain ⟨a2, len2, cap2, rfl⟩ := okWide_slice Try.underlying27 (hval 2 27 v2 rfl rfl)
  have pr2 := Sy.pr_one hk2
  clear hA0 hval0 hsz0 hsz
  refine (Sy.law_calls (Sy.tab_nil rfl) (cGoodRow x0 hb0 x1 hb1 x2 hb2) (vs := [_, _, _]) rfl (fun j x u hx hu => ?_)).mono fun e W' he => ?_
  · match j, hx, hu with
    | 0, hx, hu => cases hx; cases hu; exact pr0
    | 1, hx, hu => cases hx; cases hu; exact pr1
    | 2, hx, hu => cases hx; cases hu; exact pr2
    | (j + 3), hx, hu => simp at hx
  obtain ⟨he, bel0⟩ := he
  have bel : Below W.heap.size W W' := bel0
  subst he
  exact ⟨_, rfl, _, _, _, [], _, [], hW', trodAll_mk1 (shut_bool Try.underlying4 _), (trodAll_cons_mk (Below.trod laidOut (by kernel_rfl) (of_decide_eq_true (by kernel_rfl)) h0 bel lt0) (trodAll_cons_mk (Below.trod laidOut (by kernel_rfl) (of_decide_eq_true (by kernel_rfl)) h1 bel lt1) (trodAll_cons_mk (Below.trod laidOut (by kernel_rfl) (of_decide_eq_true (by kernel_rfl)) h2 bel lt2) trodAll_mk0))), rfl, bel.frame _, fun h => by cases h⟩
theorem over : Rows.fnExactGoodRow.holds Try.pinned (OpenSpec.ofChange Rows.fnExactGoodSpec) :=
  OpenClaim.holds_of_wide 3 Try.f3 rfl rfl rfl rfl rfl rfl rfl ⟨rfl, rfl, rfl, rfl, rfl⟩ rfl rfl rfl rfl rfl (by kernel_rfl) Try.func3 (by kernel_rfl)
    (of_decide_eq_true (by kernel_rfl)) (by unfold Func.isWrapper; first | (rw [if_pos (by decide +kernel)]; kernel_rfl) | (rw [if_neg (by decide +kernel)]; exact ⟨rfl, rfl⟩))
    (fun os started H enc _ => lifted os started H enc)
theorem proved : Rows.FnExactGoodSaid := over
#print axioms proved
end Go.Proofs.Ytnnalcglfgapbaa.fnExactGood
namespace Go.Proofs.Ytnnalcglfgapbaa
theorem fnExactGood_holds : Rows.FnExactGoodSaid := fnExactGood.proved
end Go.Proofs.Ytnnalcglfgapbaa
