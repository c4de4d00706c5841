/- The law FnExactProgramRead returns true for every input, and leaves its arguments as they read. -/
import Derived.Test.YtnnalcglfgapbaaDoorRows
import Derived.Test.YtnnalcglfgapbaaDoorPrI
import Derived.Test.YtnnalcglfgapbaaDoorSyN
import Derived.WalkKit
import Derived.ProofKit
import Derived.OpenShut
import Derived.ShutString
import Derived.ChangeOld
import Derived.Below
import Derived.SizedLaws
import Derived.Carry
import Derived.Lay
import Derived.Shelf.Vars
import Derived.Test.YtnnalcglfgapbaaDoorDsh
import Derived.Handed
import Derived.LaidLaws
import Derived.Lib.LaidTab
import Derived.Stop.LaidErr
import Derived.SevenTiedAt
import Derived.Test.YtnnalcglfgapbaaDoorCards
import Derived.Test.YtnnalcglfgapbaaDoorTie
namespace Go.Proofs.YtnnalcglfgapbaaDoor.fnExactProgramRead
open Go.ChangeShapes Go.WideShapes Go.ChangeAt Go.RowKit Go.Proofs.Sy Go.Proofs.YtnnalcglfgapbaaDoor.Z
set_option linter.unusedVariables false
theorem own : ownKnob Tryd.prog.godebug = none := by kernel_rfl
theorem laidOut : laidOutB Tryd.prog = true := by kernel_rfl
theorem tab_ok {W : World} (hsh : W.ShapedOpen Tryd.prog) : TabOK (fun r => r < W.heap.size) W := by
  intro p hp
  obtain rfl := List.mem_singleton.mp hp
  obtain ⟨m, hm⟩ := Go.Proofs.cell_of_shapedOpen_int (g := 0) (zero := #[.int .i64 0]) (t := 3) hsh (of_decide_eq_true (by kernel_rfl)) (by kernel_rfl) rfl (by kernel_rfl) (by kernel_rfl) Tryd.underlying3
  unfold World.cell? at hm
  cases hw : W.heap[0]? with
  | none =>
    replace hm : (match W.heap[0]? with | some (Obj.cells c _ _) => c[0]? | _ => none) = _ := hm
    rw [hw] at hm; cases hm
  | some o =>
    refine ⟨(Array.getElem?_eq_some_iff.mp hw).1, ?_⟩
    replace hm : (match W.heap[0]? with | some (Obj.cells c _ _) => c[0]? | _ => none) = _ := hm
    rw [hw] at hm
    cases o with
    | cells cs T z => exact ⟨cs, T, z, rfl, m, hm⟩
    | _ => cases hm
set_option maxRecDepth 100000 in
theorem lifted (os : Os) (started : os.Started) (H : Type) (enc : TypeId × Value → H) :
    ReturnsInHanded {} Tryd.checked os 4 .any (fun w args => (Rows.fnExactProgramReadSpec.pre enc Tryd.prog Tryd.f4 Rows.fnExactProgramReadRow.domain false w args ∧ laidMet Tryd.prog Rows.fnExactProgramReadRow.laid w) ∧ sizedMet enc Tryd.prog Tryd.f4 (OpenSpec.ofChange Rows.fnExactProgramReadSpec) false w args) (Rows.fnExactProgramReadSpec.post enc Tryd.prog Tryd.f4 false true false false) := by
  refine returns_shaped (C := Tryd.checked) (X := fun w _ => laidMet Tryd.prog Rows.fnExactProgramReadRow.laid w) (fun _ _ _ hh h => h.of_heap hh) own started (by kernel_rfl) Tryd.func4
    (ChangeSpec.witness_at (enc := enc) (C := Tryd.checked) (os := os) (X := fun w _ => laidMet Tryd.prog Rows.fnExactProgramReadRow.laid w) false (World.laidAll Tryd.prog os Rows.fnExactProgramReadRow.laid) #[(.string ⟨#[]⟩)] 8 (World.laidAll_os _ _ _) (by kernel_rfl) (by kernel_rfl) (by kernel_rfl) (by kernel_rfl) (by kernel_rfl) (laidMet_laidAll _ (by kernel_rfl) (by kernel_rfl))) ?_
  intro W base args ds gs before hval0 hW hcnd hsz0 hL hsh _
  have hsz : (DataW.weightsEach Tryd.prog (Tryd.f4.params.toList ++ Rows.fnExactProgramReadSpec.plain.varTypes Tryd.prog) (ds ++ gs)).all (· ≤ reachBytes) = true := hsz0
  have hval : ∀ (j : Nat) t v, Tryd.f4.params[j]? = some t → args[j]? = some v → Value.okWide Tryd.prog W .any base t v := hval0
  have hW' := hW
  obtain ⟨p, q, hA0, hV, rfl, hfz, hnd⟩ := hW
  have hA : DataW.TrodAll enc Tryd.prog W 0 (fun _ => true) true Tryd.f4.params.toList args.toList ds p := hA0
  rw [Tryd.params4] at hA hval hsz
  obtain ⟨v0, vs0, d0, ds0, p0, q0, hargs, rfl, rfl, h0, r0⟩ := trodAll_cons hA
  obtain ⟨rfl, rfl, rfl⟩ := trodAll_nil r0
  obtain rfl : args = #[v0] := by cases args; simp_all
  obtain ⟨rfl, rfl⟩ := trodVars_none hV
  obtain ⟨x0, hk0, hb0⟩ := Sy.open_arg (e := S) (B := fun a : ByteArray => (a.size ≤ 140737488351232)) hsz (j := 0) rfl rfl (fun n => (opens_string Tryd.underlying9)) h0
  have lt0 : ∀ x ∈ p0, x.block < W.heap.size := by obtain ⟨m, hm⟩ := h0; exact DataW.trod_lt m _ _ _ hm
  obtain ⟨u0, rfl⟩ := okWide_string Tryd.underlying9 (hval 0 9 v0 rfl rfl)
  have pr0 := Sy.pr_one hk0
  clear hA0 hval0 hsz0 hsz
  refine (Sy.law_calls (tab_ok hsh) (cReadRow x0 hb0) (vs := [_]) rfl (fun j x u hx hu => ?_)).mono fun e W' he => ?_
  · match j, hx, hu with
    | 0, hx, hu => cases hx; cases hu; exact pr0
    | (j + 1), hx, hu => simp at hx
  obtain ⟨he, bel0⟩ := he
  have bel : Below W.heap.size W W' := bel0
  subst he
  exact ⟨_, rfl, _, _, _, [], _, [], hW', trodAll_mk1 (shut_bool Tryd.underlying4 _), (trodAll_cons_mk (Below.trod laidOut (by kernel_rfl) (of_decide_eq_true (by kernel_rfl)) h0 bel lt0) trodAll_mk0), rfl, bel.frame _, fun h => by cases h⟩
theorem over : Rows.fnExactProgramReadRow.holds Tryd.pinned (OpenSpec.ofChange Rows.fnExactProgramReadSpec) :=
  OpenClaim.holds_of_wide 4 Tryd.f4 rfl rfl rfl rfl rfl rfl rfl ⟨rfl, rfl, rfl, rfl, rfl⟩ rfl rfl rfl rfl rfl (by kernel_rfl) Tryd.func4 (by kernel_rfl)
    (of_decide_eq_true (by kernel_rfl)) (by unfold Func.isWrapper; first | (rw [if_pos (by decide +kernel)]; kernel_rfl) | (rw [if_neg (by decide +kernel)]; exact ⟨rfl, rfl⟩))
    (fun os started H enc _ => lifted os started H enc)
theorem row_holds : Rows.FnExactProgramReadSaid := over
theorem proved : Rows.FnExactProgramReadCardSaid :=
  Claim7.holds_tied_plain_at .later [] [.data, .pinned] true (true, "ce7a4cca0c0458c4bfed3d555fd34c1a3aec5edc52d39735ed753d08c68cade7") false
    row_holds (fun _ h => by cases h) (by kernel_rfl) (fun _ h => by cases h) fnExactProgramRead_row_tie rfl ⟨rfl, rfl⟩ (by kernel_rfl) rfl
    (fun f fn hf hfn => by
      obtain rfl : f = 4 := Option.some.inj ((show Tryd.prog.funcNamed "loop.example/g00037/laws.FnExactProgramRead" = some 4 by kernel_rfl).symm.trans hf) |>.symm
      obtain rfl : fn = Tryd.f4 := (Option.some.inj (Tryd.func4.symm.trans hfn)).symm
      exact ⟨by kernel_rfl, fun j t ht => by
        rw [Tryd.params4] at ht
        match j, ht with
        | 0, ht => cases ht; exact (show Tryd.prog.wantsStandIn 9 = false by kernel_rfl)
        | (j + 1), ht => simp at ht⟩)
    (by kernel_rfl)
#print axioms proved
end Go.Proofs.YtnnalcglfgapbaaDoor.fnExactProgramRead
namespace Go.Proofs.YtnnalcglfgapbaaDoor
theorem fnExactProgramRead_holds : Rows.FnExactProgramReadCardSaid := fnExactProgramRead.proved
end Go.Proofs.YtnnalcglfgapbaaDoor
