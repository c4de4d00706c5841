/- The law FnExactProgramShow returns true for every input, and leaves its arguments as they read. -/
import Derived.Test.YtnnalcglfgapbaaDoorRows
import Derived.Test.YtnnalcglfgapbaaDoorPsG
import Derived.Test.YtnnalcglfgapbaaDoorSyN
import Derived.WalkKit
import Derived.ProofKit
import Derived.OpenShut
import Derived.ShutString
import Derived.ChangeOld
import Derived.Below
import Derived.SizedLaws
import Derived.Carry
import Derived.Lay
import Derived.Handed
import Derived.LaidLaws
import Derived.Lib.LaidTab
import Derived.Stop.LaidErr
import Derived.SevenTiedAt
import Derived.Test.YtnnalcglfgapbaaDoorCards
import Derived.Test.YtnnalcglfgapbaaDoorTie
namespace Go.Proofs.YtnnalcglfgapbaaDoor.fnExactProgramShow
open Go.ChangeShapes Go.WideShapes Go.ChangeAt Go.RowKit Go.Proofs.Sy Go.Proofs.YtnnalcglfgapbaaDoor.Z
set_option linter.unusedVariables false
theorem own : ownKnob Tryd.prog.godebug = none := by kernel_rfl
theorem laidOut : laidOutB Tryd.prog = true := by kernel_rfl
theorem tab_ok {W : World} (hL : laidMet Tryd.prog Rows.fnExactProgramShowRow.laid W) : TabOK (fun r => r < W.heap.size) W := by
  intro p hp
  obtain rfl := List.mem_singleton.mp hp
  have h : Lib.TabIs Tryd.prog W "internal/strconv.uint64pow10" .u64 Lib.pow10Tab := Lib.tabIs_of_head (g := 1) (by kernel_rfl) (t := 92) (by kernel_rfl) Tryd.underlying92 Tryd.underlying80 (by kernel_rfl) (by kernel_rfl) (laidMet.tail (laidMet.tail hL))
  unfold Lib.TabIs World.var? at h
  rw [show Tryd.prog.globalNamed "internal/strconv.uint64pow10" = some 1 by kernel_rfl] at h
  cases hw : W.heap[1]? with
  | none =>
    replace h : (match W.heap[1]? with | some (Obj.cells cs _ _) => some cs | _ => none) = _ := h
    rw [hw] at h; cases h
  | some o =>
    refine ⟨(Array.getElem?_eq_some_iff.mp hw).1, ?_⟩
    replace h : (match W.heap[1]? with | some (Obj.cells cs _ _) => some cs | _ => none) = _ := h
    rw [hw] at h
    cases o with
    | cells cs T z => exact ⟨T, z, congrArg (fun c => some (Obj.cells c T z)) (Option.some.inj h)⟩
    | _ => cases h
set_option maxRecDepth 100000 in
theorem lifted (os : Os) (started : os.Started) (H : Type) (enc : TypeId × Value → H) :
    ReturnsInHanded {} Tryd.checked os 3 .any (fun w args => (Rows.fnExactProgramShowSpec.pre enc Tryd.prog Tryd.f3 Rows.fnExactProgramShowRow.domain false w args ∧ laidMet Tryd.prog Rows.fnExactProgramShowRow.laid w) ∧ sizedMet enc Tryd.prog Tryd.f3 (OpenSpec.ofChange Rows.fnExactProgramShowSpec) false w args) (Rows.fnExactProgramShowSpec.post enc Tryd.prog Tryd.f3 false true false false) := by
  refine returnsInHanded_of_change_and (C := Tryd.checked) (X := fun w _ => laidMet Tryd.prog Rows.fnExactProgramShowRow.laid w) (fun _ _ _ hh h => h.of_heap hh) own started (by kernel_rfl) Tryd.func3
    (ChangeSpec.witness_at (enc := enc) (C := Tryd.checked) (os := os) (X := fun w _ => laidMet Tryd.prog Rows.fnExactProgramShowRow.laid w) false (World.laidAll Tryd.prog os Rows.fnExactProgramShowRow.laid) #[(.slice none 0 0)] 8 (World.laidAll_os _ _ _) (by kernel_rfl) (by kernel_rfl) (by kernel_rfl) (by kernel_rfl) (by kernel_rfl) (laidMet_laidAll _ (by kernel_rfl) (by kernel_rfl))) ?_
  intro W base args ds gs before hval0 hW hcnd hsz0 hL _
  have hsz : (DataW.weightsEach Tryd.prog (Tryd.f3.params.toList ++ Rows.fnExactProgramShowSpec.plain.varTypes Tryd.prog) (ds ++ gs)).all (· ≤ reachBytes) = true := hsz0
  have hval : ∀ (j : Nat) t v, Tryd.f3.params[j]? = some t → args[j]? = some v → Value.okWide Tryd.prog W .any base t v := hval0
  have hW' := hW
  obtain ⟨p, q, hA0, hV, rfl, hfz, hnd⟩ := hW
  have hA : DataW.TrodAll enc Tryd.prog W 0 (fun _ => true) true Tryd.f3.params.toList args.toList ds p := hA0
  rw [Tryd.params3] at hA hval hsz
  obtain ⟨v0, vs0, d0, ds0, p0, q0, hargs, rfl, rfl, h0, r0⟩ := trodAll_cons hA
  obtain ⟨rfl, rfl, rfl⟩ := trodAll_nil r0
  obtain rfl : args = #[v0] := by cases args; simp_all
  obtain ⟨rfl, rfl⟩ := trodVars_none hV
  obtain ⟨x0, hk0, hb0⟩ := Sy.open_arg (e := fun l : List gIns => PV.lst (l.map gIns.enc)) (B := fun x : List gIns => (x.length * 24 ≤ 140737488351232 ∧ ∀ a ∈ x, (W_gIns a))) hsz (j := 0) rfl rfl (fun n => (opens_slice_lt (bs := 24) (sz := 3) Tryd.underlying22 (by kernel_rfl) (by decide) (fun _ => rfl) (by kernel_rfl) (fun m_ _ => (o_gIns m_)))) h0
  have lt0 : ∀ x ∈ p0, x.block < W.heap.size := by obtain ⟨m, hm⟩ := h0; exact DataW.trod_lt m _ _ _ hm
  obtain ⟨a0, len0, cap0, rfl⟩ := okWide_slice Tryd.underlying22 (hval 0 22 v0 rfl rfl)
  have pr0 := Sy.pr_one hk0
  clear hA0 hval0 hsz0 hsz
  refine (Sy.law_calls (tab_ok hL) (cShowRow x0 hb0) (vs := [_]) rfl (fun j x u hx hu => ?_)).mono fun e W' he => ?_
  · match j, hx, hu with
    | 0, hx, hu => cases hx; cases hu; exact pr0
    | (j + 1), hx, hu => simp at hx
  obtain ⟨he, bel0⟩ := he
  have bel : Below W.heap.size W W' := bel0
  subst he
  exact ⟨_, rfl, _, _, _, [], _, [], hW', trodAll_mk1 (shut_bool Tryd.underlying4 _), (trodAll_cons_mk (Below.trod laidOut (by kernel_rfl) (of_decide_eq_true (by kernel_rfl)) h0 bel lt0) trodAll_mk0), rfl, bel.frame _, fun h => by cases h⟩
theorem over : Rows.fnExactProgramShowRow.holds Tryd.pinned (OpenSpec.ofChange Rows.fnExactProgramShowSpec) :=
  OpenClaim.holds_of_wide 3 Tryd.f3 rfl rfl rfl rfl rfl rfl rfl ⟨rfl, rfl, rfl, rfl, rfl⟩ rfl rfl rfl rfl rfl (by kernel_rfl) Tryd.func3 (by kernel_rfl)
    (of_decide_eq_true (by kernel_rfl)) (by unfold Func.isWrapper; first | (rw [if_pos (by decide +kernel)]; kernel_rfl) | (rw [if_neg (by decide +kernel)]; exact ⟨rfl, rfl⟩))
    (fun os started H enc _ => lifted os started H enc)
theorem row_holds : Rows.FnExactProgramShowSaid := over
theorem proved : Rows.FnExactProgramShowCardSaid :=
  Claim7.holds_tied_plain_at .later [] [.data, .data, .data] true (true, "ce7a4cca0c0458c4bfed3d555fd34c1a3aec5edc52d39735ed753d08c68cade7") false
    row_holds (fun _ h => by cases h) (by kernel_rfl) (fun _ h => by cases h) fnExactProgramShow_row_tie rfl ⟨rfl, rfl⟩ (by kernel_rfl) rfl
    (fun f fn hf hfn => by
      obtain rfl : f = 3 := Option.some.inj ((show Tryd.prog.funcNamed "loop.example/g00037/laws.FnExactProgramShow" = some 3 by kernel_rfl).symm.trans hf) |>.symm
      obtain rfl : fn = Tryd.f3 := (Option.some.inj (Tryd.func3.symm.trans hfn)).symm
      exact ⟨by kernel_rfl, fun j t ht => by
        rw [Tryd.params3] at ht
        match j, ht with
        | 0, ht => cases ht; exact (show Tryd.prog.wantsStandIn 22 = false by kernel_rfl)
        | (j + 1), ht => simp at ht⟩)
    (by kernel_rfl)
#print axioms proved
end Go.Proofs.YtnnalcglfgapbaaDoor.fnExactProgramShow
namespace Go.Proofs.YtnnalcglfgapbaaDoor
theorem fnExactProgramShow_holds : Rows.FnExactProgramShowCardSaid := fnExactProgramShow.proved
end Go.Proofs.YtnnalcglfgapbaaDoor
