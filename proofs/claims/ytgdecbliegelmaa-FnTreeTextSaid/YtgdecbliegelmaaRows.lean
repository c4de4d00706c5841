/-
  NARROWER THAN 'FOR EVERY INPUT', by the rows' own cells (each row's printed sentence says how): FnExactTreeShow: loops · FnExactTreeHash: loops · FnExactPlaces: loops.
  DERIVED. THE GIVEN ROWS OF THIS SEAT. 11 by the template 'for every input the law returns true; each argument reads behind the call as it read before'; 0 by the template 'total and deterministic' (their statements: YtgdecbliegelmaaTotals.lean).
  GIVEN WITH THE SEED: the statements are not yours to turn. If you find one false, say at which input.
  Laid BY PROGRAM, IN A SANDBOX (cutbox-rows.mjs): the forced cells as the released guide's own fill.sh prints them over the translation abc56bc04b126abe… (all of the seat's roots in one cut). By AI agents, Wed Nov 11 2026. No macro, syntax, notation, axiom, sorry.
-/
import Derived.Test.YtgdecbliegelmaaChecked
import GoSem.Claim
import GoSem.ClaimJoined
import GoSem.ClaimMapViews
import Derived.JoinedTies
import Derived.KernelRfl
namespace Go.Proofs.Ytgdecbliegelmaa
/- THE CELL 'sum', in the pinned program and in every row, IS THE sha256 OF THE DUMP (.gsa) THAT YtgdecbliegelmaaProg.lean LOADS. Nothing in Lean hashes anything: it is a label: what it is worth is what the hold of that sum in a sandbox is worth. -/
noncomputable def Try.pinned : Pinned := { name := "ytgdecbliegelmaa", sum := "abc56bc04b126abe4e947faf76bfdcd5e41283598161e3a5a40ec2b4c515daa0", checked := Try.checked }
namespace Rows
def none {H : Type} : Left H := { results := [], args := [] }

/-- 'laws.FnExactBackEdit': WHATEVER THE INPUT: true; the input reads as it did. -/
def fnExactBackEditSpec : ChangeSpec := { name := "fnExactBackEdit", fn := fun _ => fun
  | [d1, d2] => { results := [.lit (.bool true)], args := [d1, d2] }
  | _ => none }
def fnExactBackEditRow : OpenClaim := { program := "ytgdecbliegelmaa", sum := "abc56bc04b126abe4e947faf76bfdcd5e41283598161e3a5a40ec2b4c515daa0", func := "loop.example/g00037/laws.FnExactBackEdit", spec := "fnExactBackEdit", apart := false }
def FnExactBackEditSaid : Prop := fnExactBackEditRow.holds Try.pinned (OpenSpec.ofChange fnExactBackEditSpec)

/-- ITS FALSE NEIGHBOUR: 'it returns false'. Refute it at one input. -/
def fnExactBackEditWrong : ChangeSpec := { name := "fnExactBackEdit", fn := fun _ => fun
  | [d1, d2] => { results := [.lit (.bool false)], args := [d1, d2] }
  | _ => none }
def FnExactBackEditWrongFalsely : Prop := fnExactBackEditRow.holds Try.pinned (OpenSpec.ofChange fnExactBackEditWrong)

/-- 'laws.FnExactMoveEdit': WHATEVER THE INPUT: true; the input reads as it did. -/
def fnExactMoveEditSpec : ChangeSpec := { name := "fnExactMoveEdit", fn := fun _ => fun
  | [d1, d2] => { results := [.lit (.bool true)], args := [d1, d2] }
  | _ => none }
def fnExactMoveEditRow : OpenClaim := { program := "ytgdecbliegelmaa", sum := "abc56bc04b126abe4e947faf76bfdcd5e41283598161e3a5a40ec2b4c515daa0", func := "loop.example/g00037/laws.FnExactMoveEdit", spec := "fnExactMoveEdit", apart := false }
def FnExactMoveEditSaid : Prop := fnExactMoveEditRow.holds Try.pinned (OpenSpec.ofChange fnExactMoveEditSpec)

/-- ITS FALSE NEIGHBOUR: 'it returns false'. Refute it at one input. -/
def fnExactMoveEditWrong : ChangeSpec := { name := "fnExactMoveEdit", fn := fun _ => fun
  | [d1, d2] => { results := [.lit (.bool false)], args := [d1, d2] }
  | _ => none }
def FnExactMoveEditWrongFalsely : Prop := fnExactMoveEditRow.holds Try.pinned (OpenSpec.ofChange fnExactMoveEditWrong)

/-- 'laws.FnExactProgramOK': WHATEVER THE INPUT: true; the input reads as it did. -/
def fnExactProgramOKSpec : ChangeSpec := { name := "fnExactProgramOK", fn := fun _ => fun
  | [d] => { results := [.lit (.bool true)], args := [d] }
  | _ => none }
def fnExactProgramOKRow : OpenClaim := { program := "ytgdecbliegelmaa", sum := "abc56bc04b126abe4e947faf76bfdcd5e41283598161e3a5a40ec2b4c515daa0", func := "loop.example/g00037/laws.FnExactProgramOK", spec := "fnExactProgramOK", apart := false }
def FnExactProgramOKSaid : Prop := fnExactProgramOKRow.holds Try.pinned (OpenSpec.ofChange fnExactProgramOKSpec)

/-- ITS FALSE NEIGHBOUR: 'it returns false'. Refute it at one input. -/
def fnExactProgramOKWrong : ChangeSpec := { name := "fnExactProgramOK", fn := fun _ => fun
  | [d] => { results := [.lit (.bool false)], args := [d] }
  | _ => none }
def FnExactProgramOKWrongFalsely : Prop := fnExactProgramOKRow.holds Try.pinned (OpenSpec.ofChange fnExactProgramOKWrong)

/-- 'laws.FnEditsMeet': WHATEVER THE INPUT: true; the input reads as it did. -/
def fnEditsMeetSpec : ChangeSpec := { name := "fnEditsMeet", fn := fun _ => fun
  | [d] => { results := [.lit (.bool true)], args := [d] }
  | _ => none }
def fnEditsMeetRow : OpenClaim := { program := "ytgdecbliegelmaa", sum := "abc56bc04b126abe4e947faf76bfdcd5e41283598161e3a5a40ec2b4c515daa0", func := "loop.example/g00037/laws.FnEditsMeet", spec := "fnEditsMeet", apart := false }
def FnEditsMeetSaid : Prop := fnEditsMeetRow.holds Try.pinned (OpenSpec.ofChange fnEditsMeetSpec)

/-- ITS FALSE NEIGHBOUR: 'it returns false'. Refute it at one input. -/
def fnEditsMeetWrong : ChangeSpec := { name := "fnEditsMeet", fn := fun _ => fun
  | [d] => { results := [.lit (.bool false)], args := [d] }
  | _ => none }
def FnEditsMeetWrongFalsely : Prop := fnEditsMeetRow.holds Try.pinned (OpenSpec.ofChange fnEditsMeetWrong)

/-- 'laws.FnExactTreeShow': WHATEVER THE INPUT: true; the input reads as it did. -/
def fnExactTreeShowSpec : ChangeSpec := { name := "fnExactTreeShow", fn := fun _ => fun
  | [d] => { results := [.lit (.bool true)], args := [d] }
  | _ => none }
def fnExactTreeShowRow : OpenClaim := { program := "ytgdecbliegelmaa", sum := "abc56bc04b126abe4e947faf76bfdcd5e41283598161e3a5a40ec2b4c515daa0", func := "loop.example/g00037/laws.FnExactTreeShow", spec := "fnExactTreeShow", inPlace := ["internal/abi.NoEscape"], recurses := true, loops := true, apart := false }
def FnExactTreeShowSaid : Prop := fnExactTreeShowRow.holds Try.pinned (OpenSpec.ofChange fnExactTreeShowSpec)

/-- ITS FALSE NEIGHBOUR: 'it returns false'. Refute it at one input. -/
def fnExactTreeShowWrong : ChangeSpec := { name := "fnExactTreeShow", fn := fun _ => fun
  | [d] => { results := [.lit (.bool false)], args := [d] }
  | _ => none }
def FnExactTreeShowWrongFalsely : Prop := fnExactTreeShowRow.holds Try.pinned (OpenSpec.ofChange fnExactTreeShowWrong)

/-- 'laws.FnExactTreeHash': WHATEVER THE INPUT: true; the input reads as it did. -/
def fnExactTreeHashSpec : ChangeSpec := { name := "fnExactTreeHash", fn := fun _ => fun
  | [d] => { results := [.lit (.bool true)], args := [d] }
  | _ => none }
def fnExactTreeHashRow : OpenClaim := { program := "ytgdecbliegelmaa", sum := "abc56bc04b126abe4e947faf76bfdcd5e41283598161e3a5a40ec2b4c515daa0", func := "loop.example/g00037/laws.FnExactTreeHash", spec := "fnExactTreeHash", inPlace := ["internal/abi.NoEscape"], recurses := true, loops := true, apart := false }
def FnExactTreeHashSaid : Prop := fnExactTreeHashRow.holds Try.pinned (OpenSpec.ofChange fnExactTreeHashSpec)

/-- ITS FALSE NEIGHBOUR: 'it returns false'. Refute it at one input. -/
def fnExactTreeHashWrong : ChangeSpec := { name := "fnExactTreeHash", fn := fun _ => fun
  | [d] => { results := [.lit (.bool false)], args := [d] }
  | _ => none }
def FnExactTreeHashWrongFalsely : Prop := fnExactTreeHashRow.holds Try.pinned (OpenSpec.ofChange fnExactTreeHashWrong)

/-- 'laws.FnExactTighten': WHATEVER THE INPUT: true; the input reads as it did. -/
def fnExactTightenSpec : ChangeSpec := { name := "fnExactTighten", fn := fun _ => fun
  | [d] => { results := [.lit (.bool true)], args := [d] }
  | _ => none }
def fnExactTightenRow : OpenClaim := { program := "ytgdecbliegelmaa", sum := "abc56bc04b126abe4e947faf76bfdcd5e41283598161e3a5a40ec2b4c515daa0", func := "loop.example/g00037/laws.FnExactTighten", spec := "fnExactTighten", apart := false }
def FnExactTightenSaid : Prop := fnExactTightenRow.holds Try.pinned (OpenSpec.ofChange fnExactTightenSpec)

/-- ITS FALSE NEIGHBOUR: 'it returns false'. Refute it at one input. -/
def fnExactTightenWrong : ChangeSpec := { name := "fnExactTighten", fn := fun _ => fun
  | [d] => { results := [.lit (.bool false)], args := [d] }
  | _ => none }
def FnExactTightenWrongFalsely : Prop := fnExactTightenRow.holds Try.pinned (OpenSpec.ofChange fnExactTightenWrong)

/-- 'laws.FnExactRunProgram': WHATEVER THE INPUT: true; the input reads as it did. -/
def fnExactRunProgramSpec : ChangeSpec := { name := "fnExactRunProgram", fn := fun _ => fun
  | [d1, d2, d3] => { results := [.lit (.bool true)], args := [d1, d2, d3] }
  | _ => none }
def fnExactRunProgramRow : OpenClaim := { program := "ytgdecbliegelmaa", sum := "abc56bc04b126abe4e947faf76bfdcd5e41283598161e3a5a40ec2b4c515daa0", func := "loop.example/g00037/laws.FnExactRunProgram", spec := "fnExactRunProgram", apart := false }
def FnExactRunProgramSaid : Prop := fnExactRunProgramRow.holds Try.pinned (OpenSpec.ofChange fnExactRunProgramSpec)

/-- ITS FALSE NEIGHBOUR: 'it returns false'. Refute it at one input. -/
def fnExactRunProgramWrong : ChangeSpec := { name := "fnExactRunProgram", fn := fun _ => fun
  | [d1, d2, d3] => { results := [.lit (.bool false)], args := [d1, d2, d3] }
  | _ => none }
def FnExactRunProgramWrongFalsely : Prop := fnExactRunProgramRow.holds Try.pinned (OpenSpec.ofChange fnExactRunProgramWrong)

/-- 'laws.FnExactPlaces': WHATEVER THE INPUT: true; the input reads as it did. -/
def fnExactPlacesSpec : ChangeSpec := { name := "fnExactPlaces", fn := fun _ => fun
  | [d1, d2] => { results := [.lit (.bool true)], args := [d1, d2] }
  | _ => none }
def fnExactPlacesRow : OpenClaim := { program := "ytgdecbliegelmaa", sum := "abc56bc04b126abe4e947faf76bfdcd5e41283598161e3a5a40ec2b4c515daa0", func := "loop.example/g00037/laws.FnExactPlaces", spec := "fnExactPlaces", unfollowed := true, recurses := true, loops := true, apart := false }
def FnExactPlacesSaid : Prop := fnExactPlacesRow.holds Try.pinned (OpenSpec.ofChange fnExactPlacesSpec)

/-- ITS FALSE NEIGHBOUR: 'it returns false'. Refute it at one input. -/
def fnExactPlacesWrong : ChangeSpec := { name := "fnExactPlaces", fn := fun _ => fun
  | [d1, d2] => { results := [.lit (.bool false)], args := [d1, d2] }
  | _ => none }
def FnExactPlacesWrongFalsely : Prop := fnExactPlacesRow.holds Try.pinned (OpenSpec.ofChange fnExactPlacesWrong)

/-- 'laws.FnTreePut': WHATEVER THE INPUT: true; the input reads as it did. -/
def fnTreePutSpec : ChangeSpec := { name := "fnTreePut", fn := fun _ => fun
  | [d] => { results := [.lit (.bool true)], args := [d] }
  | _ => none }
def fnTreePutRow : OpenClaim := { program := "ytgdecbliegelmaa", sum := "abc56bc04b126abe4e947faf76bfdcd5e41283598161e3a5a40ec2b4c515daa0", func := "loop.example/g00037/laws.FnTreePut", spec := "fnTreePut", inPlace := ["internal/abi.NoEscape"], recurses := true, apart := false }
def FnTreePutSaid : Prop := fnTreePutRow.holds Try.pinned (OpenSpec.ofChange fnTreePutSpec)

/-- ITS FALSE NEIGHBOUR: 'it returns false'. Refute it at one input. -/
def fnTreePutWrong : ChangeSpec := { name := "fnTreePut", fn := fun _ => fun
  | [d] => { results := [.lit (.bool false)], args := [d] }
  | _ => none }
def FnTreePutWrongFalsely : Prop := fnTreePutRow.holds Try.pinned (OpenSpec.ofChange fnTreePutWrong)

/-- 'laws.FnTreeText': WHATEVER THE INPUT: true; the input reads as it did. -/
def fnTreeTextSpec : ChangeSpec := { name := "fnTreeText", fn := fun _ => fun
  | [d] => { results := [.lit (.bool true)], args := [d] }
  | _ => none }
def fnTreeTextRow : OpenClaim := { program := "ytgdecbliegelmaa", sum := "abc56bc04b126abe4e947faf76bfdcd5e41283598161e3a5a40ec2b4c515daa0", func := "loop.example/g00037/laws.FnTreeText", spec := "fnTreeText", inPlace := ["internal/abi.NoEscape"], unfollowed := true, recurses := true, apart := false }
def FnTreeTextSaid : Prop := fnTreeTextRow.holds Try.pinned (OpenSpec.ofChange fnTreeTextSpec)

/-- ITS FALSE NEIGHBOUR: 'it returns false'. Refute it at one input. -/
def fnTreeTextWrong : ChangeSpec := { name := "fnTreeText", fn := fun _ => fun
  | [d] => { results := [.lit (.bool false)], args := [d] }
  | _ => none }
def FnTreeTextWrongFalsely : Prop := fnTreeTextRow.holds Try.pinned (OpenSpec.ofChange fnTreeTextWrong)

/- THE SECOND FORM. 'bulk': how many values and letters a reading holds, each counted each time it is reached (what is shared counts as often as it is met; a slice's spare places count too). A statement '..UptoSaid' is the law's where the arguments, and the package variables that the reading takes, are together of bulk at most 1048576: NARROWER than '..Said'. Prove '..Said' where nothing that the law and all that it calls make is longer than what came in: it says more and counts as full. Else prove '..UptoSaid'. A law counts once. -/
mutual
def uptoBulk {H : Type} : DataW H → Nat
  | .lit (.string bytes) => bytes.length + 1
  | .lit _ => 1
  | .nil => 1
  | .ptr d => uptoBulk d + 1
  | .slice elems spare => uptoBulkAll elems + uptoBulkAll spare + 1
  | .agg parts => uptoBulkAll parts + 1
  | .iface _ d => uptoBulk d + 1
  | .map entries => uptoBulkEntries entries + 1
  | .held _ => 1
def uptoBulkAll {H : Type} : List (DataW H) → Nat
  | [] => 0
  | d :: r => uptoBulk d + uptoBulkAll r
def uptoBulkEntries {H : Type} : List (Lit × DataW H) → Nat
  | [] => 0
  | x :: r => uptoBulkEntry x + uptoBulkEntries r
def uptoBulkEntry {H : Type} : Lit × DataW H → Nat
  | (.string bytes, d) => bytes.length + uptoBulk d + 1
  | (_, d) => uptoBulk d + 1
 end
def uptoSmall : (H : Type) → List (DataW H) → Bool := fun _ ds => decide (uptoBulkAll ds ≤ 1048576)
def OpenSpec.upto (s : _root_.Go.ChangeSpec) : _root_.Go.OpenSpec := { _root_.Go.OpenSpec.ofChange s with cond := some uptoSmall }

/-- 'laws.FnExactBackEdit', WHERE WHAT IT READS IS OF BULK AT MOST 1048576: true; the input reads as it did. -/
def fnExactBackEditUptoRow : OpenClaim := { program := "ytgdecbliegelmaa", sum := "abc56bc04b126abe4e947faf76bfdcd5e41283598161e3a5a40ec2b4c515daa0", func := "loop.example/g00037/laws.FnExactBackEdit", spec := "fnExactBackEdit", apart := false, narrowed := true }
def FnExactBackEditUptoSaid : Prop := fnExactBackEditUptoRow.holds Try.pinned (OpenSpec.upto fnExactBackEditSpec)

/-- 'laws.FnExactMoveEdit', WHERE WHAT IT READS IS OF BULK AT MOST 1048576: true; the input reads as it did. -/
def fnExactMoveEditUptoRow : OpenClaim := { program := "ytgdecbliegelmaa", sum := "abc56bc04b126abe4e947faf76bfdcd5e41283598161e3a5a40ec2b4c515daa0", func := "loop.example/g00037/laws.FnExactMoveEdit", spec := "fnExactMoveEdit", apart := false, narrowed := true }
def FnExactMoveEditUptoSaid : Prop := fnExactMoveEditUptoRow.holds Try.pinned (OpenSpec.upto fnExactMoveEditSpec)

/-- 'laws.FnExactProgramOK', WHERE WHAT IT READS IS OF BULK AT MOST 1048576: true; the input reads as it did. -/
def fnExactProgramOKUptoRow : OpenClaim := { program := "ytgdecbliegelmaa", sum := "abc56bc04b126abe4e947faf76bfdcd5e41283598161e3a5a40ec2b4c515daa0", func := "loop.example/g00037/laws.FnExactProgramOK", spec := "fnExactProgramOK", apart := false, narrowed := true }
def FnExactProgramOKUptoSaid : Prop := fnExactProgramOKUptoRow.holds Try.pinned (OpenSpec.upto fnExactProgramOKSpec)

/-- 'laws.FnEditsMeet', WHERE WHAT IT READS IS OF BULK AT MOST 1048576: true; the input reads as it did. -/
def fnEditsMeetUptoRow : OpenClaim := { program := "ytgdecbliegelmaa", sum := "abc56bc04b126abe4e947faf76bfdcd5e41283598161e3a5a40ec2b4c515daa0", func := "loop.example/g00037/laws.FnEditsMeet", spec := "fnEditsMeet", apart := false, narrowed := true }
def FnEditsMeetUptoSaid : Prop := fnEditsMeetUptoRow.holds Try.pinned (OpenSpec.upto fnEditsMeetSpec)

/-- 'laws.FnExactTreeShow', WHERE WHAT IT READS IS OF BULK AT MOST 1048576: true; the input reads as it did. -/
def fnExactTreeShowUptoRow : OpenClaim := { program := "ytgdecbliegelmaa", sum := "abc56bc04b126abe4e947faf76bfdcd5e41283598161e3a5a40ec2b4c515daa0", func := "loop.example/g00037/laws.FnExactTreeShow", spec := "fnExactTreeShow", inPlace := ["internal/abi.NoEscape"], recurses := true, loops := true, apart := false, narrowed := true }
def FnExactTreeShowUptoSaid : Prop := fnExactTreeShowUptoRow.holds Try.pinned (OpenSpec.upto fnExactTreeShowSpec)

/-- 'laws.FnExactTreeHash', WHERE WHAT IT READS IS OF BULK AT MOST 1048576: true; the input reads as it did. -/
def fnExactTreeHashUptoRow : OpenClaim := { program := "ytgdecbliegelmaa", sum := "abc56bc04b126abe4e947faf76bfdcd5e41283598161e3a5a40ec2b4c515daa0", func := "loop.example/g00037/laws.FnExactTreeHash", spec := "fnExactTreeHash", inPlace := ["internal/abi.NoEscape"], recurses := true, loops := true, apart := false, narrowed := true }
def FnExactTreeHashUptoSaid : Prop := fnExactTreeHashUptoRow.holds Try.pinned (OpenSpec.upto fnExactTreeHashSpec)

/-- 'laws.FnExactTighten', WHERE WHAT IT READS IS OF BULK AT MOST 1048576: true; the input reads as it did. -/
def fnExactTightenUptoRow : OpenClaim := { program := "ytgdecbliegelmaa", sum := "abc56bc04b126abe4e947faf76bfdcd5e41283598161e3a5a40ec2b4c515daa0", func := "loop.example/g00037/laws.FnExactTighten", spec := "fnExactTighten", apart := false, narrowed := true }
def FnExactTightenUptoSaid : Prop := fnExactTightenUptoRow.holds Try.pinned (OpenSpec.upto fnExactTightenSpec)

/-- 'laws.FnExactRunProgram', WHERE WHAT IT READS IS OF BULK AT MOST 1048576: true; the input reads as it did. -/
def fnExactRunProgramUptoRow : OpenClaim := { program := "ytgdecbliegelmaa", sum := "abc56bc04b126abe4e947faf76bfdcd5e41283598161e3a5a40ec2b4c515daa0", func := "loop.example/g00037/laws.FnExactRunProgram", spec := "fnExactRunProgram", apart := false, narrowed := true }
def FnExactRunProgramUptoSaid : Prop := fnExactRunProgramUptoRow.holds Try.pinned (OpenSpec.upto fnExactRunProgramSpec)

/-- 'laws.FnExactPlaces', WHERE WHAT IT READS IS OF BULK AT MOST 1048576: true; the input reads as it did. -/
def fnExactPlacesUptoRow : OpenClaim := { program := "ytgdecbliegelmaa", sum := "abc56bc04b126abe4e947faf76bfdcd5e41283598161e3a5a40ec2b4c515daa0", func := "loop.example/g00037/laws.FnExactPlaces", spec := "fnExactPlaces", unfollowed := true, recurses := true, loops := true, apart := false, narrowed := true }
def FnExactPlacesUptoSaid : Prop := fnExactPlacesUptoRow.holds Try.pinned (OpenSpec.upto fnExactPlacesSpec)

/-- 'laws.FnTreePut', WHERE WHAT IT READS IS OF BULK AT MOST 1048576: true; the input reads as it did. -/
def fnTreePutUptoRow : OpenClaim := { program := "ytgdecbliegelmaa", sum := "abc56bc04b126abe4e947faf76bfdcd5e41283598161e3a5a40ec2b4c515daa0", func := "loop.example/g00037/laws.FnTreePut", spec := "fnTreePut", inPlace := ["internal/abi.NoEscape"], recurses := true, apart := false, narrowed := true }
def FnTreePutUptoSaid : Prop := fnTreePutUptoRow.holds Try.pinned (OpenSpec.upto fnTreePutSpec)

/-- 'laws.FnTreeText', WHERE WHAT IT READS IS OF BULK AT MOST 1048576: true; the input reads as it did. -/
def fnTreeTextUptoRow : OpenClaim := { program := "ytgdecbliegelmaa", sum := "abc56bc04b126abe4e947faf76bfdcd5e41283598161e3a5a40ec2b4c515daa0", func := "loop.example/g00037/laws.FnTreeText", spec := "fnTreeText", inPlace := ["internal/abi.NoEscape"], unfollowed := true, recurses := true, apart := false, narrowed := true }
def FnTreeTextUptoSaid : Prop := fnTreeTextUptoRow.holds Try.pinned (OpenSpec.upto fnTreeTextSpec)

end Rows
end Go.Proofs.Ytgdecbliegelmaa
