/-
  NARROWER THAN 'FOR EVERY INPUT', by the rows' own cells (each row's printed sentence says how): FnExactMatch: loops.
  DERIVED. THE GIVEN ROWS OF THIS SEAT. 9 by the template 'for every input the law returns true; each argument reads behind the call as it read before'; 0 by the template 'total and deterministic' (their statements: YtegpjjnedbbpjaaTotals.lean).
  GIVEN WITH THE SEED: the statements are not yours to turn. If you find one false, say at which input.
  Laid BY PROGRAM, IN A SANDBOX (cutbox-rows.mjs): the forced cells as the released guide's own fill.sh prints them over the translation 11d57f17ea387f9e… (all of the seat's roots in one cut). By AI agents, Wed Nov 11 2026. No macro, syntax, notation, axiom, sorry.
-/
import Derived.Test.YtegpjjnedbbpjaaChecked
import GoSem.Claim
import GoSem.ClaimJoined
import GoSem.ClaimMapViews
import Derived.JoinedTies
import Derived.KernelRfl
namespace Go.Proofs.Ytegpjjnedbbpjaa
/- THE CELL 'sum', in the pinned program and in every row, IS THE sha256 OF THE DUMP (.gsa) THAT YtegpjjnedbbpjaaProg.lean LOADS. Nothing in Lean hashes anything: it is a label: what it is worth is what the hold of that sum in a sandbox is worth. -/
noncomputable def Try.pinned : Pinned := { name := "ytegpjjnedbbpjaa", sum := "11d57f17ea387f9e80e4c9932338c59c6288b485b619f0f917fe1fbc8fe226d4", checked := Try.checked }
namespace Rows
def none {H : Type} : Left H := { results := [], args := [] }

/-- 'laws.FnExactMatch': WHATEVER THE INPUT: true; the input reads as it did. -/
def fnExactMatchSpec : ChangeSpec := { name := "fnExactMatch", fn := fun _ => fun
  | [d1, d2] => { results := [.lit (.bool true)], args := [d1, d2] }
  | _ => none }
def fnExactMatchRow : OpenClaim := { program := "ytegpjjnedbbpjaa", sum := "11d57f17ea387f9e80e4c9932338c59c6288b485b619f0f917fe1fbc8fe226d4", func := "loop.example/g00037/laws.FnExactMatch", spec := "fnExactMatch", recurses := true, loops := true, plainKeys := false, apart := false }
def FnExactMatchSaid : Prop := fnExactMatchRow.holds Try.pinned (OpenSpec.ofChange fnExactMatchSpec)

/-- ITS FALSE NEIGHBOUR: 'it returns false'. Refute it at one input. -/
def fnExactMatchWrong : ChangeSpec := { name := "fnExactMatch", fn := fun _ => fun
  | [d1, d2] => { results := [.lit (.bool false)], args := [d1, d2] }
  | _ => none }
def FnExactMatchWrongFalsely : Prop := fnExactMatchRow.holds Try.pinned (OpenSpec.ofChange fnExactMatchWrong)

/-- 'laws.FnMatched': WHATEVER THE INPUT: true; the input reads as it did. -/
def fnMatchedSpec : ChangeSpec := { name := "fnMatched", fn := fun _ => fun
  | [d] => { results := [.lit (.bool true)], args := [d] }
  | _ => none }
def fnMatchedRow : OpenClaim := { program := "ytegpjjnedbbpjaa", sum := "11d57f17ea387f9e80e4c9932338c59c6288b485b619f0f917fe1fbc8fe226d4", func := "loop.example/g00037/laws.FnMatched", spec := "fnMatched", unfollowed := true, recurses := true, plainKeys := false, apart := false }
def FnMatchedSaid : Prop := fnMatchedRow.holds Try.pinned (OpenSpec.ofChange fnMatchedSpec)

/-- ITS FALSE NEIGHBOUR: 'it returns false'. Refute it at one input. -/
def fnMatchedWrong : ChangeSpec := { name := "fnMatched", fn := fun _ => fun
  | [d] => { results := [.lit (.bool false)], args := [d] }
  | _ => none }
def FnMatchedWrongFalsely : Prop := fnMatchedRow.holds Try.pinned (OpenSpec.ofChange fnMatchedWrong)

/-- 'laws.FnMerged': WHATEVER THE INPUT: true; the input reads as it did. -/
def fnMergedSpec : ChangeSpec := { name := "fnMerged", fn := fun _ => fun
  | [d] => { results := [.lit (.bool true)], args := [d] }
  | _ => none }
def fnMergedRow : OpenClaim := { program := "ytegpjjnedbbpjaa", sum := "11d57f17ea387f9e80e4c9932338c59c6288b485b619f0f917fe1fbc8fe226d4", func := "loop.example/g00037/laws.FnMerged", spec := "fnMerged", unfollowed := true, recurses := true, plainKeys := false, apart := false }
def FnMergedSaid : Prop := fnMergedRow.holds Try.pinned (OpenSpec.ofChange fnMergedSpec)

/-- ITS FALSE NEIGHBOUR: 'it returns false'. Refute it at one input. -/
def fnMergedWrong : ChangeSpec := { name := "fnMerged", fn := fun _ => fun
  | [d] => { results := [.lit (.bool false)], args := [d] }
  | _ => none }
def FnMergedWrongFalsely : Prop := fnMergedRow.holds Try.pinned (OpenSpec.ofChange fnMergedWrong)

/-- 'laws.FnPatched': WHATEVER THE INPUT: true; the input reads as it did. -/
def fnPatchedSpec : ChangeSpec := { name := "fnPatched", fn := fun _ => fun
  | [d] => { results := [.lit (.bool true)], args := [d] }
  | _ => none }
def fnPatchedRow : OpenClaim := { program := "ytegpjjnedbbpjaa", sum := "11d57f17ea387f9e80e4c9932338c59c6288b485b619f0f917fe1fbc8fe226d4", func := "loop.example/g00037/laws.FnPatched", spec := "fnPatched", unfollowed := true, recurses := true, plainKeys := false, apart := false }
def FnPatchedSaid : Prop := fnPatchedRow.holds Try.pinned (OpenSpec.ofChange fnPatchedSpec)

/-- ITS FALSE NEIGHBOUR: 'it returns false'. Refute it at one input. -/
def fnPatchedWrong : ChangeSpec := { name := "fnPatched", fn := fun _ => fun
  | [d] => { results := [.lit (.bool false)], args := [d] }
  | _ => none }
def FnPatchedWrongFalsely : Prop := fnPatchedRow.holds Try.pinned (OpenSpec.ofChange fnPatchedWrong)

/-- 'laws.FnRenamed': WHATEVER THE INPUT: true; the input reads as it did. -/
def fnRenamedSpec : ChangeSpec := { name := "fnRenamed", fn := fun _ => fun
  | [d] => { results := [.lit (.bool true)], args := [d] }
  | _ => none }
def fnRenamedRow : OpenClaim := { program := "ytegpjjnedbbpjaa", sum := "11d57f17ea387f9e80e4c9932338c59c6288b485b619f0f917fe1fbc8fe226d4", func := "loop.example/g00037/laws.FnRenamed", spec := "fnRenamed", unfollowed := true, recurses := true, plainKeys := false, apart := false }
def FnRenamedSaid : Prop := fnRenamedRow.holds Try.pinned (OpenSpec.ofChange fnRenamedSpec)

/-- ITS FALSE NEIGHBOUR: 'it returns false'. Refute it at one input. -/
def fnRenamedWrong : ChangeSpec := { name := "fnRenamed", fn := fun _ => fun
  | [d] => { results := [.lit (.bool false)], args := [d] }
  | _ => none }
def FnRenamedWrongFalsely : Prop := fnRenamedRow.holds Try.pinned (OpenSpec.ofChange fnRenamedWrong)

/-- 'laws.FnTermScopes': WHATEVER THE INPUT: true; the input reads as it did. -/
def fnTermScopesSpec : ChangeSpec := { name := "fnTermScopes", fn := fun _ => fun
  | [d] => { results := [.lit (.bool true)], args := [d] }
  | _ => none }
def fnTermScopesRow : OpenClaim := { program := "ytegpjjnedbbpjaa", sum := "11d57f17ea387f9e80e4c9932338c59c6288b485b619f0f917fe1fbc8fe226d4", func := "loop.example/g00037/laws.FnTermScopes", spec := "fnTermScopes", unfollowed := true, recurses := true, plainKeys := false, apart := false }
def FnTermScopesSaid : Prop := fnTermScopesRow.holds Try.pinned (OpenSpec.ofChange fnTermScopesSpec)

/-- ITS FALSE NEIGHBOUR: 'it returns false'. Refute it at one input. -/
def fnTermScopesWrong : ChangeSpec := { name := "fnTermScopes", fn := fun _ => fun
  | [d] => { results := [.lit (.bool false)], args := [d] }
  | _ => none }
def FnTermScopesWrongFalsely : Prop := fnTermScopesRow.holds Try.pinned (OpenSpec.ofChange fnTermScopesWrong)

/-- 'laws.FnLaidOut': WHATEVER THE INPUT: true; the input reads as it did. -/
def fnLaidOutSpec : ChangeSpec := { name := "fnLaidOut", fn := fun _ => fun
  | [d] => { results := [.lit (.bool true)], args := [d] }
  | _ => none }
def fnLaidOutRow : OpenClaim := { program := "ytegpjjnedbbpjaa", sum := "11d57f17ea387f9e80e4c9932338c59c6288b485b619f0f917fe1fbc8fe226d4", func := "loop.example/g00037/laws.FnLaidOut", spec := "fnLaidOut", inPlace := ["internal/bytealg.IndexByteString", "internal/bytealg.IndexString", "internal/abi.NoEscape", "internal/bytealg.MakeNoZero"], unfollowed := true, recurses := true, named := ["internal/bytealg.MaxLen"], plainKeys := false, apart := false }
def FnLaidOutSaid : Prop := fnLaidOutRow.holds Try.pinned (OpenSpec.ofChange fnLaidOutSpec)

/-- ITS FALSE NEIGHBOUR: 'it returns false'. Refute it at one input. -/
def fnLaidOutWrong : ChangeSpec := { name := "fnLaidOut", fn := fun _ => fun
  | [d] => { results := [.lit (.bool false)], args := [d] }
  | _ => none }
def FnLaidOutWrongFalsely : Prop := fnLaidOutRow.holds Try.pinned (OpenSpec.ofChange fnLaidOutWrong)

/-- 'laws.FnUnified': WHATEVER THE INPUT: true; the input reads as it did. -/
def fnUnifiedSpec : ChangeSpec := { name := "fnUnified", fn := fun _ => fun
  | [d] => { results := [.lit (.bool true)], args := [d] }
  | _ => none }
def fnUnifiedRow : OpenClaim := { program := "ytegpjjnedbbpjaa", sum := "11d57f17ea387f9e80e4c9932338c59c6288b485b619f0f917fe1fbc8fe226d4", func := "loop.example/g00037/laws.FnUnified", spec := "fnUnified", recurses := true, plainKeys := false, apart := false }
def FnUnifiedSaid : Prop := fnUnifiedRow.holds Try.pinned (OpenSpec.ofChange fnUnifiedSpec)

/-- ITS FALSE NEIGHBOUR: 'it returns false'. Refute it at one input. -/
def fnUnifiedWrong : ChangeSpec := { name := "fnUnified", fn := fun _ => fun
  | [d] => { results := [.lit (.bool false)], args := [d] }
  | _ => none }
def FnUnifiedWrongFalsely : Prop := fnUnifiedRow.holds Try.pinned (OpenSpec.ofChange fnUnifiedWrong)

/-- 'laws.FnExactTreeRead': WHATEVER THE INPUT: true; the input reads as it did. -/
def fnExactTreeReadSpec : ChangeSpec := { name := "fnExactTreeRead", fn := fun _ => fun
  | [d] => { results := [.lit (.bool true)], args := [d] }
  | _ => none }
def fnExactTreeReadRow : OpenClaim := { program := "ytegpjjnedbbpjaa", sum := "11d57f17ea387f9e80e4c9932338c59c6288b485b619f0f917fe1fbc8fe226d4", func := "loop.example/g00037/laws.FnExactTreeRead", spec := "fnExactTreeRead", unfollowed := true, recurses := true, plainKeys := false, apart := false }
def FnExactTreeReadSaid : Prop := fnExactTreeReadRow.holds Try.pinned (OpenSpec.ofChange fnExactTreeReadSpec)

/-- ITS FALSE NEIGHBOUR: 'it returns false'. Refute it at one input. -/
def fnExactTreeReadWrong : ChangeSpec := { name := "fnExactTreeRead", fn := fun _ => fun
  | [d] => { results := [.lit (.bool false)], args := [d] }
  | _ => none }
def FnExactTreeReadWrongFalsely : Prop := fnExactTreeReadRow.holds Try.pinned (OpenSpec.ofChange fnExactTreeReadWrong)

/- THE SECOND FORM. 'bulk': how many values and letters a reading holds, each counted each time it is reached (what is shared counts as often as it is met; a slice's spare places count too). A statement '..UptoSaid' is the law's where the arguments, and the package variables that the reading takes, are together of bulk at most 1048576: NARROWER than '..Said'. Prove '..Said' where nothing that the law and all that it calls make is longer than what came in: it says more and counts as full. Else prove '..UptoSaid'. A law counts once. -/
mutual
def uptoBulk {H : Type} : DataW H → Nat
  | .lit (.string bytes) => bytes.length + 1
  | .lit _ => 1
  | .nil => 1
  | .ptr d => uptoBulk d + 1
  | .slice elems spare => uptoBulkAll elems + uptoBulkAll spare + 1
  | .agg parts => uptoBulkAll parts + 1
  | .iface _ d => uptoBulk d + 1
  | .map entries => uptoBulkEntries entries + 1
  | .held _ => 1
def uptoBulkAll {H : Type} : List (DataW H) → Nat
  | [] => 0
  | d :: r => uptoBulk d + uptoBulkAll r
def uptoBulkEntries {H : Type} : List (Lit × DataW H) → Nat
  | [] => 0
  | x :: r => uptoBulkEntry x + uptoBulkEntries r
def uptoBulkEntry {H : Type} : Lit × DataW H → Nat
  | (.string bytes, d) => bytes.length + uptoBulk d + 1
  | (_, d) => uptoBulk d + 1
 end
def uptoSmall : (H : Type) → List (DataW H) → Bool := fun _ ds => decide (uptoBulkAll ds ≤ 1048576)
def OpenSpec.upto (s : _root_.Go.ChangeSpec) : _root_.Go.OpenSpec := { _root_.Go.OpenSpec.ofChange s with cond := some uptoSmall }

/-- 'laws.FnExactMatch', WHERE WHAT IT READS IS OF BULK AT MOST 1048576: true; the input reads as it did. -/
def fnExactMatchUptoRow : OpenClaim := { program := "ytegpjjnedbbpjaa", sum := "11d57f17ea387f9e80e4c9932338c59c6288b485b619f0f917fe1fbc8fe226d4", func := "loop.example/g00037/laws.FnExactMatch", spec := "fnExactMatch", recurses := true, loops := true, plainKeys := false, apart := false, narrowed := true }
def FnExactMatchUptoSaid : Prop := fnExactMatchUptoRow.holds Try.pinned (OpenSpec.upto fnExactMatchSpec)

/-- 'laws.FnMatched', WHERE WHAT IT READS IS OF BULK AT MOST 1048576: true; the input reads as it did. -/
def fnMatchedUptoRow : OpenClaim := { program := "ytegpjjnedbbpjaa", sum := "11d57f17ea387f9e80e4c9932338c59c6288b485b619f0f917fe1fbc8fe226d4", func := "loop.example/g00037/laws.FnMatched", spec := "fnMatched", unfollowed := true, recurses := true, plainKeys := false, apart := false, narrowed := true }
def FnMatchedUptoSaid : Prop := fnMatchedUptoRow.holds Try.pinned (OpenSpec.upto fnMatchedSpec)

/-- 'laws.FnMerged', WHERE WHAT IT READS IS OF BULK AT MOST 1048576: true; the input reads as it did. -/
def fnMergedUptoRow : OpenClaim := { program := "ytegpjjnedbbpjaa", sum := "11d57f17ea387f9e80e4c9932338c59c6288b485b619f0f917fe1fbc8fe226d4", func := "loop.example/g00037/laws.FnMerged", spec := "fnMerged", unfollowed := true, recurses := true, plainKeys := false, apart := false, narrowed := true }
def FnMergedUptoSaid : Prop := fnMergedUptoRow.holds Try.pinned (OpenSpec.upto fnMergedSpec)

/-- 'laws.FnPatched', WHERE WHAT IT READS IS OF BULK AT MOST 1048576: true; the input reads as it did. -/
def fnPatchedUptoRow : OpenClaim := { program := "ytegpjjnedbbpjaa", sum := "11d57f17ea387f9e80e4c9932338c59c6288b485b619f0f917fe1fbc8fe226d4", func := "loop.example/g00037/laws.FnPatched", spec := "fnPatched", unfollowed := true, recurses := true, plainKeys := false, apart := false, narrowed := true }
def FnPatchedUptoSaid : Prop := fnPatchedUptoRow.holds Try.pinned (OpenSpec.upto fnPatchedSpec)

/-- 'laws.FnRenamed', WHERE WHAT IT READS IS OF BULK AT MOST 1048576: true; the input reads as it did. -/
def fnRenamedUptoRow : OpenClaim := { program := "ytegpjjnedbbpjaa", sum := "11d57f17ea387f9e80e4c9932338c59c6288b485b619f0f917fe1fbc8fe226d4", func := "loop.example/g00037/laws.FnRenamed", spec := "fnRenamed", unfollowed := true, recurses := true, plainKeys := false, apart := false, narrowed := true }
def FnRenamedUptoSaid : Prop := fnRenamedUptoRow.holds Try.pinned (OpenSpec.upto fnRenamedSpec)

/-- 'laws.FnTermScopes', WHERE WHAT IT READS IS OF BULK AT MOST 1048576: true; the input reads as it did. -/
def fnTermScopesUptoRow : OpenClaim := { program := "ytegpjjnedbbpjaa", sum := "11d57f17ea387f9e80e4c9932338c59c6288b485b619f0f917fe1fbc8fe226d4", func := "loop.example/g00037/laws.FnTermScopes", spec := "fnTermScopes", unfollowed := true, recurses := true, plainKeys := false, apart := false, narrowed := true }
def FnTermScopesUptoSaid : Prop := fnTermScopesUptoRow.holds Try.pinned (OpenSpec.upto fnTermScopesSpec)

/-- 'laws.FnLaidOut', WHERE WHAT IT READS IS OF BULK AT MOST 1048576: true; the input reads as it did. -/
def fnLaidOutUptoRow : OpenClaim := { program := "ytegpjjnedbbpjaa", sum := "11d57f17ea387f9e80e4c9932338c59c6288b485b619f0f917fe1fbc8fe226d4", func := "loop.example/g00037/laws.FnLaidOut", spec := "fnLaidOut", inPlace := ["internal/bytealg.IndexByteString", "internal/bytealg.IndexString", "internal/abi.NoEscape", "internal/bytealg.MakeNoZero"], unfollowed := true, recurses := true, named := ["internal/bytealg.MaxLen"], plainKeys := false, apart := false, narrowed := true }
def FnLaidOutUptoSaid : Prop := fnLaidOutUptoRow.holds Try.pinned (OpenSpec.upto fnLaidOutSpec)

/-- 'laws.FnUnified', WHERE WHAT IT READS IS OF BULK AT MOST 1048576: true; the input reads as it did. -/
def fnUnifiedUptoRow : OpenClaim := { program := "ytegpjjnedbbpjaa", sum := "11d57f17ea387f9e80e4c9932338c59c6288b485b619f0f917fe1fbc8fe226d4", func := "loop.example/g00037/laws.FnUnified", spec := "fnUnified", recurses := true, plainKeys := false, apart := false, narrowed := true }
def FnUnifiedUptoSaid : Prop := fnUnifiedUptoRow.holds Try.pinned (OpenSpec.upto fnUnifiedSpec)

/-- 'laws.FnExactTreeRead', WHERE WHAT IT READS IS OF BULK AT MOST 1048576: true; the input reads as it did. -/
def fnExactTreeReadUptoRow : OpenClaim := { program := "ytegpjjnedbbpjaa", sum := "11d57f17ea387f9e80e4c9932338c59c6288b485b619f0f917fe1fbc8fe226d4", func := "loop.example/g00037/laws.FnExactTreeRead", spec := "fnExactTreeRead", unfollowed := true, recurses := true, plainKeys := false, apart := false, narrowed := true }
def FnExactTreeReadUptoSaid : Prop := fnExactTreeReadUptoRow.holds Try.pinned (OpenSpec.upto fnExactTreeReadSpec)

end Rows
end Go.Proofs.Ytegpjjnedbbpjaa
