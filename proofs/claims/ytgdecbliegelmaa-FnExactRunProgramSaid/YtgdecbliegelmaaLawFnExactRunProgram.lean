/- The law FnExactRunProgram returns true for every input, and leaves its arguments as they read. -/
import Derived.Test.YtgdecbliegelmaaRows
import Derived.Test.YtgdecbliegelmaaPureFnExactRunProgram
import Derived.Test.YtgdecbliegelmaaXOpen
import Derived.Test.YtgdecbliegelmaaWSized
import Derived.WalkKit
import Derived.ProofKit
import Derived.OpenShut
import Derived.ShutString
import Derived.ChangeOld
import Derived.Below
import Derived.SizedLaws
import Derived.Carry
namespace Go.Proofs.Ytgdecbliegelmaa.fnExactRunProgram
open Go.ChangeShapes Go.WideShapes Go.ChangeAt Go.RowKit Go.Proofs.YtgdecbliegelmaaW.PrintWords Go.Proofs.YtgdecbliegelmaaX Go.Proofs.Ytgdecbliegelmaa.Q
set_option linter.unusedVariables false
theorem own : ownKnob Try.prog.godebug = none := by kernel_rfl
theorem laidOut : laidOutB Try.prog = true := by kernel_rfl
set_option maxRecDepth 100000 in
theorem lifted (os : Os) (started : os.Started) (H : Type) (enc : TypeId × Value → H) :
    ReturnsInHanded {} Try.checked os 10 .any (Rows.fnExactRunProgramSpec.pre6 enc Try.prog Try.f10 Rows.fnExactRunProgramRow.domain false) (Rows.fnExactRunProgramSpec.post enc Try.prog Try.f10 false true false false) := by
  refine returnsInHanded_of_change_sized (C := Try.checked) own started (by kernel_rfl) Try.func10
    (ChangeSpec.witness6 (enc := enc) (C := Try.checked) false ⟨#[], #[(.slice none 0 0), (.slice none 0 0), (.int .i64 0)], []⟩ 8 (by kernel_rfl) (by kernel_rfl) (by kernel_rfl) (by kernel_rfl)) ?_
  intro W base args ds gs before hval0 hW hcnd hsz0 _
  have hsz : (DataW.weightsEach Try.prog (Try.f10.params.toList ++ Rows.fnExactRunProgramSpec.plain.varTypes Try.prog) (ds ++ gs)).all (· ≤ reachBytes) = true := hsz0
  have hval : ∀ (j : Nat) t v, Try.f10.params[j]? = some t → args[j]? = some v → Value.okWide Try.prog W .any base t v := hval0
  have hW' := hW
  obtain ⟨p, q, hA0, hV, rfl, hfz, hnd⟩ := hW
  have hA : DataW.TrodAll enc Try.prog W 0 (fun _ => true) true Try.f10.params.toList args.toList ds p := hA0
  rw [Try.params10] at hA hval hsz
  obtain ⟨v0, vs0, d0, ds0, p0, q0, hargs, rfl, rfl, h0, r0⟩ := trodAll_cons hA
  obtain ⟨v1, vs1, d1, ds1, p1, q1, rfl, rfl, rfl, h1, r1⟩ := trodAll_cons r0
  obtain ⟨v2, vs2, d2, ds2, p2, q2, rfl, rfl, rfl, h2, r2⟩ := trodAll_cons r1
  obtain ⟨rfl, rfl, rfl⟩ := trodAll_nil r2
  obtain rfl : args = #[v0, v1, v2] := by cases args; simp_all
  obtain ⟨rfl, rfl⟩ := trodVars_none hV
  obtain ⟨x0, hk0, hb0⟩ := open_arg hsz (j := 0) (d := (Kd.slice 91 k91)) (B := (fun l : List (S91) => l.length * 24 ≤ 140737488351232 ∧ ∀ a ∈ l, B91 a)) rfl rfl (fun n => (opens_slice_lt (bs := 24) Try.underlying33 (by kernel_rfl) (by kernel_rfl) (fun m_ _ => (op91 m_)))) h0
  have lt0 : ∀ x ∈ p0, x.block < W.heap.size := by obtain ⟨m, hm⟩ := h0; exact DataW.trod_lt m _ _ _ hm
  obtain ⟨a0, len0, cap0, rfl⟩ := okWide_slice Try.underlying33 (hval 0 33 v0 rfl rfl)
  obtain ⟨rfl, hc0, hr0⟩ := slice_of_kind hk0
  obtain ⟨x1, hk1, hb1⟩ := open_arg hsz (j := 1) (d := (Kd.slice 3 (Kd.int .i64))) (B := (fun l : List Int => l.length * 8 ≤ 140737488351232 ∧ ∀ a ∈ l, (fun a : Int => -9223372036854775808 ≤ a ∧ a ≤ 9223372036854775807) a)) rfl rfl (fun n => (opens_slice_lt (bs := 8) Try.underlying62 (by kernel_rfl) (by kernel_rfl) (fun m_ _ => (opens_i64 Try.underlying3)))) h1
  have lt1 : ∀ x ∈ p1, x.block < W.heap.size := by obtain ⟨m, hm⟩ := h1; exact DataW.trod_lt m _ _ _ hm
  obtain ⟨a1, len1, cap1, rfl⟩ := okWide_slice Try.underlying62 (hval 1 62 v1 rfl rfl)
  obtain ⟨rfl, hc1, hr1⟩ := slice_of_kind hk1
  obtain ⟨x2, hk2, hb2⟩ := open_arg hsz (j := 2) (d := (Kd.int .i64)) (B := (fun a : Int => -9223372036854775808 ≤ a ∧ a ≤ 9223372036854775807)) rfl rfl (fun n => (opens_i64 Try.underlying3)) h2
  have lt2 : ∀ x ∈ p2, x.block < W.heap.size := by obtain ⟨m, hm⟩ := h2; exact DataW.trod_lt m _ _ _ hm
  obtain ⟨a2, rfl⟩ := okWide_int Try.underlying3 (hval 2 3 v2 rfl rfl)
  obtain rfl : x2 = a2 := by have hk2' := hk2; simp [Value.cells, Kd.int, Kd.scalar] at hk2'; exact hk2'.symm
  clear hA0 hval0 hsz0 hsz
  obtain ⟨k, hp⟩ := FnExactRunProgram.pure x0 x1 x2 hb0 hb1 hb2
  refine (laws_FnExactRunProgram.calls k _ _ x0 _ _ x1 x2 true W hr0 hc0 hr1 hc1 hp).mono fun e W' he => ?_
  obtain ⟨he, bel0⟩ := he
  have bel : Below W.heap.size W W' := bel0
  subst he
  exact ⟨_, rfl, _, _, _, [], _, [], hW', trodAll_mk1 (shut_bool Try.underlying4 _), (trodAll_cons_mk (Below.trod laidOut (by kernel_rfl) (of_decide_eq_true (by kernel_rfl)) h0 bel lt0) (trodAll_cons_mk (Below.trod laidOut (by kernel_rfl) (of_decide_eq_true (by kernel_rfl)) h1 bel lt1) (trodAll_cons_mk (Below.trod laidOut (by kernel_rfl) (of_decide_eq_true (by kernel_rfl)) h2 bel lt2) trodAll_mk0))), rfl, bel.frame _, fun h => by cases h⟩
theorem over : Rows.fnExactRunProgramRow.holds Try.pinned (OpenSpec.ofChange Rows.fnExactRunProgramSpec) :=
  OpenClaim.holds_of_wide 10 Try.f10 rfl rfl rfl rfl rfl rfl rfl ⟨rfl, rfl, rfl, rfl, rfl⟩ rfl rfl rfl rfl rfl (by kernel_rfl) Try.func10 (by kernel_rfl)
    (of_decide_eq_true (by kernel_rfl)) (by unfold Func.isWrapper; first | (rw [if_pos (by decide +kernel)]; kernel_rfl) | (rw [if_neg (by decide +kernel)]; exact ⟨rfl, rfl⟩))
    (fun os started H enc _ => lifted os started H enc)
theorem proved : Rows.FnExactRunProgramSaid := over
#print axioms proved
end Go.Proofs.Ytgdecbliegelmaa.fnExactRunProgram
namespace Go.Proofs.Ytgdecbliegelmaa
theorem fnExactRunProgram_holds : Rows.FnExactRunProgramSaid := fnExactRunProgram.proved
end Go.Proofs.Ytgdecbliegelmaa
