/-
  NARROWER THAN 'FOR EVERY INPUT', by the rows' own cells (each row's printed sentence says how): FnExactSemOK: loops.
  DERIVED. THE GIVEN ROWS OF THIS SEAT. 5 by the template 'for every input the law returns true; each argument reads behind the call as it read before'; 0 by the template 'total and deterministic' (their statements: YtnnalcglfgapbaaTotals.lean).
  GIVEN WITH THE SEED: the statements are not yours to turn. If you find one false, say at which input.
  Laid BY PROGRAM, IN A SANDBOX (cutbox-rows.mjs): the forced cells as the released guide's own fill.sh prints them over the translation 479f1ed68222aa3c… (all of the seat's roots in one cut). By AI agents, Wed Nov 11 2026. No macro, syntax, notation, axiom, sorry.
-/
import Derived.Test.YtnnalcglfgapbaaChecked
import GoSem.Claim
import GoSem.ClaimJoined
import GoSem.ClaimMapViews
import Derived.JoinedTies
import Derived.KernelRfl
namespace Go.Proofs.Ytnnalcglfgapbaa
/- THE CELL 'sum', in the pinned program and in every row, IS THE sha256 OF THE DUMP (.gsa) THAT YtnnalcglfgapbaaProg.lean LOADS. Nothing in Lean hashes anything: it is a label: what it is worth is what the hold of that sum in a sandbox is worth. -/
noncomputable def Try.pinned : Pinned := { name := "ytnnalcglfgapbaa", sum := "479f1ed68222aa3cff01e07ab77c9c4df2dbffcd48a514770ff1524f3cd2d32e", checked := Try.checked }
namespace Rows
def none {H : Type} : Left H := { results := [], args := [] }

/-- 'laws.FnExactGood': WHATEVER THE INPUT: true; the input reads as it did. -/
def fnExactGoodSpec : ChangeSpec := { name := "fnExactGood", fn := fun _ => fun
  | [d1, d2, d3] => { results := [.lit (.bool true)], args := [d1, d2, d3] }
  | _ => none }
def fnExactGoodRow : OpenClaim := { program := "ytnnalcglfgapbaa", sum := "479f1ed68222aa3cff01e07ab77c9c4df2dbffcd48a514770ff1524f3cd2d32e", func := "loop.example/g00037/laws.FnExactGood", spec := "fnExactGood", unfollowed := true, recurses := true, apart := false }
def FnExactGoodSaid : Prop := fnExactGoodRow.holds Try.pinned (OpenSpec.ofChange fnExactGoodSpec)

/-- ITS FALSE NEIGHBOUR: 'it returns false'. Refute it at one input. -/
def fnExactGoodWrong : ChangeSpec := { name := "fnExactGood", fn := fun _ => fun
  | [d1, d2, d3] => { results := [.lit (.bool false)], args := [d1, d2, d3] }
  | _ => none }
def FnExactGoodWrongFalsely : Prop := fnExactGoodRow.holds Try.pinned (OpenSpec.ofChange fnExactGoodWrong)

/-- 'laws.FnExactUpwards': WHATEVER THE INPUT: true; the input reads as it did. -/
def fnExactUpwardsSpec : ChangeSpec := { name := "fnExactUpwards", fn := fun _ => fun
  | [d1, d2, d3] => { results := [.lit (.bool true)], args := [d1, d2, d3] }
  | _ => none }
def fnExactUpwardsRow : OpenClaim := { program := "ytnnalcglfgapbaa", sum := "479f1ed68222aa3cff01e07ab77c9c4df2dbffcd48a514770ff1524f3cd2d32e", func := "loop.example/g00037/laws.FnExactUpwards", spec := "fnExactUpwards", unfollowed := true, recurses := true, apart := false }
def FnExactUpwardsSaid : Prop := fnExactUpwardsRow.holds Try.pinned (OpenSpec.ofChange fnExactUpwardsSpec)

/-- ITS FALSE NEIGHBOUR: 'it returns false'. Refute it at one input. -/
def fnExactUpwardsWrong : ChangeSpec := { name := "fnExactUpwards", fn := fun _ => fun
  | [d1, d2, d3] => { results := [.lit (.bool false)], args := [d1, d2, d3] }
  | _ => none }
def FnExactUpwardsWrongFalsely : Prop := fnExactUpwardsRow.holds Try.pinned (OpenSpec.ofChange fnExactUpwardsWrong)

/-- 'laws.FnExactSemOK': WHATEVER THE INPUT: true; the input reads as it did. -/
def fnExactSemOKSpec : ChangeSpec := { name := "fnExactSemOK", fn := fun _ => fun
  | [d] => { results := [.lit (.bool true)], args := [d] }
  | _ => none }
def fnExactSemOKRow : OpenClaim := { program := "ytnnalcglfgapbaa", sum := "479f1ed68222aa3cff01e07ab77c9c4df2dbffcd48a514770ff1524f3cd2d32e", func := "loop.example/g00037/laws.FnExactSemOK", spec := "fnExactSemOK", unfollowed := true, recurses := true, loops := true, apart := false }
def FnExactSemOKSaid : Prop := fnExactSemOKRow.holds Try.pinned (OpenSpec.ofChange fnExactSemOKSpec)

/-- ITS FALSE NEIGHBOUR: 'it returns false'. Refute it at one input. -/
def fnExactSemOKWrong : ChangeSpec := { name := "fnExactSemOK", fn := fun _ => fun
  | [d] => { results := [.lit (.bool false)], args := [d] }
  | _ => none }
def FnExactSemOKWrongFalsely : Prop := fnExactSemOKRow.holds Try.pinned (OpenSpec.ofChange fnExactSemOKWrong)

/-- 'laws.FnExactYield': WHATEVER THE INPUT: true; the input reads as it did. -/
def fnExactYieldSpec : ChangeSpec := { name := "fnExactYield", fn := fun _ => fun
  | [d1, d2, d3] => { results := [.lit (.bool true)], args := [d1, d2, d3] }
  | _ => none }
def fnExactYieldRow : OpenClaim := { program := "ytnnalcglfgapbaa", sum := "479f1ed68222aa3cff01e07ab77c9c4df2dbffcd48a514770ff1524f3cd2d32e", func := "loop.example/g00037/laws.FnExactYield", spec := "fnExactYield", unfollowed := true, recurses := true, apart := false }
def FnExactYieldSaid : Prop := fnExactYieldRow.holds Try.pinned (OpenSpec.ofChange fnExactYieldSpec)

/-- ITS FALSE NEIGHBOUR: 'it returns false'. Refute it at one input. -/
def fnExactYieldWrong : ChangeSpec := { name := "fnExactYield", fn := fun _ => fun
  | [d1, d2, d3] => { results := [.lit (.bool false)], args := [d1, d2, d3] }
  | _ => none }
def FnExactYieldWrongFalsely : Prop := fnExactYieldRow.holds Try.pinned (OpenSpec.ofChange fnExactYieldWrong)

/-- 'laws.FnExactDownwards': WHATEVER THE INPUT: true; the input reads as it did. -/
def fnExactDownwardsSpec : ChangeSpec := { name := "fnExactDownwards", fn := fun _ => fun
  | [d1, d2, d3] => { results := [.lit (.bool true)], args := [d1, d2, d3] }
  | _ => none }
def fnExactDownwardsRow : OpenClaim := { program := "ytnnalcglfgapbaa", sum := "479f1ed68222aa3cff01e07ab77c9c4df2dbffcd48a514770ff1524f3cd2d32e", func := "loop.example/g00037/laws.FnExactDownwards", spec := "fnExactDownwards", unfollowed := true, recurses := true, apart := false }
def FnExactDownwardsSaid : Prop := fnExactDownwardsRow.holds Try.pinned (OpenSpec.ofChange fnExactDownwardsSpec)

/-- ITS FALSE NEIGHBOUR: 'it returns false'. Refute it at one input. -/
def fnExactDownwardsWrong : ChangeSpec := { name := "fnExactDownwards", fn := fun _ => fun
  | [d1, d2, d3] => { results := [.lit (.bool false)], args := [d1, d2, d3] }
  | _ => none }
def FnExactDownwardsWrongFalsely : Prop := fnExactDownwardsRow.holds Try.pinned (OpenSpec.ofChange fnExactDownwardsWrong)

/- THE SECOND FORM. 'bulk': how many values and letters a reading holds, each counted each time it is reached (what is shared counts as often as it is met; a slice's spare places count too). A statement '..UptoSaid' is the law's where the arguments, and the package variables that the reading takes, are together of bulk at most 1048576: NARROWER than '..Said'. Prove '..Said' where nothing that the law and all that it calls make is longer than what came in: it says more and counts as full. Else prove '..UptoSaid'. A law counts once. -/
mutual
def uptoBulk {H : Type} : DataW H → Nat
  | .lit (.string bytes) => bytes.length + 1
  | .lit _ => 1
  | .nil => 1
  | .ptr d => uptoBulk d + 1
  | .slice elems spare => uptoBulkAll elems + uptoBulkAll spare + 1
  | .agg parts => uptoBulkAll parts + 1
  | .iface _ d => uptoBulk d + 1
  | .map entries => uptoBulkEntries entries + 1
  | .held _ => 1
def uptoBulkAll {H : Type} : List (DataW H) → Nat
  | [] => 0
  | d :: r => uptoBulk d + uptoBulkAll r
def uptoBulkEntries {H : Type} : List (Lit × DataW H) → Nat
  | [] => 0
  | x :: r => uptoBulkEntry x + uptoBulkEntries r
def uptoBulkEntry {H : Type} : Lit × DataW H → Nat
  | (.string bytes, d) => bytes.length + uptoBulk d + 1
  | (_, d) => uptoBulk d + 1
 end
def uptoSmall : (H : Type) → List (DataW H) → Bool := fun _ ds => decide (uptoBulkAll ds ≤ 1048576)
def OpenSpec.upto (s : _root_.Go.ChangeSpec) : _root_.Go.OpenSpec := { _root_.Go.OpenSpec.ofChange s with cond := some uptoSmall }

/-- 'laws.FnExactGood', WHERE WHAT IT READS IS OF BULK AT MOST 1048576: true; the input reads as it did. -/
def fnExactGoodUptoRow : OpenClaim := { program := "ytnnalcglfgapbaa", sum := "479f1ed68222aa3cff01e07ab77c9c4df2dbffcd48a514770ff1524f3cd2d32e", func := "loop.example/g00037/laws.FnExactGood", spec := "fnExactGood", unfollowed := true, recurses := true, apart := false, narrowed := true }
def FnExactGoodUptoSaid : Prop := fnExactGoodUptoRow.holds Try.pinned (OpenSpec.upto fnExactGoodSpec)

/-- 'laws.FnExactUpwards', WHERE WHAT IT READS IS OF BULK AT MOST 1048576: true; the input reads as it did. -/
def fnExactUpwardsUptoRow : OpenClaim := { program := "ytnnalcglfgapbaa", sum := "479f1ed68222aa3cff01e07ab77c9c4df2dbffcd48a514770ff1524f3cd2d32e", func := "loop.example/g00037/laws.FnExactUpwards", spec := "fnExactUpwards", unfollowed := true, recurses := true, apart := false, narrowed := true }
def FnExactUpwardsUptoSaid : Prop := fnExactUpwardsUptoRow.holds Try.pinned (OpenSpec.upto fnExactUpwardsSpec)

/-- 'laws.FnExactSemOK', WHERE WHAT IT READS IS OF BULK AT MOST 1048576: true; the input reads as it did. -/
def fnExactSemOKUptoRow : OpenClaim := { program := "ytnnalcglfgapbaa", sum := "479f1ed68222aa3cff01e07ab77c9c4df2dbffcd48a514770ff1524f3cd2d32e", func := "loop.example/g00037/laws.FnExactSemOK", spec := "fnExactSemOK", unfollowed := true, recurses := true, loops := true, apart := false, narrowed := true }
def FnExactSemOKUptoSaid : Prop := fnExactSemOKUptoRow.holds Try.pinned (OpenSpec.upto fnExactSemOKSpec)

/-- 'laws.FnExactYield', WHERE WHAT IT READS IS OF BULK AT MOST 1048576: true; the input reads as it did. -/
def fnExactYieldUptoRow : OpenClaim := { program := "ytnnalcglfgapbaa", sum := "479f1ed68222aa3cff01e07ab77c9c4df2dbffcd48a514770ff1524f3cd2d32e", func := "loop.example/g00037/laws.FnExactYield", spec := "fnExactYield", unfollowed := true, recurses := true, apart := false, narrowed := true }
def FnExactYieldUptoSaid : Prop := fnExactYieldUptoRow.holds Try.pinned (OpenSpec.upto fnExactYieldSpec)

/-- 'laws.FnExactDownwards', WHERE WHAT IT READS IS OF BULK AT MOST 1048576: true; the input reads as it did. -/
def fnExactDownwardsUptoRow : OpenClaim := { program := "ytnnalcglfgapbaa", sum := "479f1ed68222aa3cff01e07ab77c9c4df2dbffcd48a514770ff1524f3cd2d32e", func := "loop.example/g00037/laws.FnExactDownwards", spec := "fnExactDownwards", unfollowed := true, recurses := true, apart := false, narrowed := true }
def FnExactDownwardsUptoSaid : Prop := fnExactDownwardsUptoRow.holds Try.pinned (OpenSpec.upto fnExactDownwardsSpec)

end Rows
end Go.Proofs.Ytnnalcglfgapbaa
