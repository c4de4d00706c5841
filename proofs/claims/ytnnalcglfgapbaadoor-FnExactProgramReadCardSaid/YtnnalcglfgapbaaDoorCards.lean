/-
  DERIVED. GIVEN WITH THE SEED: THE CARDS: each row of YtnnalcglfgapbaaDoorRows.lean that lists a variable, with what it lists TIED to the program's text (the seventh form; the later family's looks); each row that meets fmt, with fmt's text TOLD by the authors' own Lean function (tested against real Go, not proved from fmt's source: count such statements apart). THE CARD IS WHAT COUNTS. Prove the row's statement (the work); the ties are given (YtnnalcglfgapbaaDoorTie.lean); close each card by the builder's one call (the guide's Derived/Test/ToyasCard.lean, 'card_holds'). Laid BY PROGRAM, IN A SANDBOX (cutbox-door.mjs). By AI agents, Wed Nov 11 2026. No macro, syntax, notation, axiom, sorry.
-/
import Derived.Test.YtnnalcglfgapbaaDoorRows
import GoSem.ClaimSeven
namespace Go.Proofs.YtnnalcglfgapbaaDoor
namespace Rows

/-- THE TIED CARD OF 'laws.FnExactProgramShow'. -/
def fnExactProgramShowCard : Claim7 := { stood := { row := fnExactProgramShowRow, standIns := [], harness := (true, "ce7a4cca0c0458c4bfed3d555fd34c1a3aec5edc52d39735ed753d08c68cade7"), looks := false }, kinds := [], alts := [], laidByText := true, laidKinds := [.data, .data, .data], laidTests := true, laidLooks := .later }
def FnExactProgramShowCardSaid : Prop := Claim7.holds Tryd.pinned (.plain (OpenSpec.ofChange fnExactProgramShowSpec)) fnExactProgramShowCard

/-- THE TIED CARD OF 'laws.FnExactProgramRead'. -/
def fnExactProgramReadCard : Claim7 := { stood := { row := fnExactProgramReadRow, standIns := [], harness := (true, "ce7a4cca0c0458c4bfed3d555fd34c1a3aec5edc52d39735ed753d08c68cade7"), looks := false }, kinds := [], alts := [], laidByText := true, laidKinds := [.data, .pinned], laidTests := true, laidLooks := .later }
def FnExactProgramReadCardSaid : Prop := Claim7.holds Tryd.pinned (.plain (OpenSpec.ofChange fnExactProgramReadSpec)) fnExactProgramReadCard

/-- THE SECOND FORM's CARD OF 'laws.FnExactProgramShow'. -/
def fnExactProgramShowUptoCard : Claim7 := { stood := { row := fnExactProgramShowUptoRow, standIns := [], harness := (true, "ce7a4cca0c0458c4bfed3d555fd34c1a3aec5edc52d39735ed753d08c68cade7"), looks := false }, kinds := [], alts := [], laidByText := true, laidKinds := [.data, .data, .data], laidTests := true, laidLooks := .later }
def FnExactProgramShowUptoCardSaid : Prop := Claim7.holds Tryd.pinned (.plain (OpenSpec.upto fnExactProgramShowSpec)) fnExactProgramShowUptoCard

/-- THE SECOND FORM's CARD OF 'laws.FnExactProgramRead'. -/
def fnExactProgramReadUptoCard : Claim7 := { stood := { row := fnExactProgramReadUptoRow, standIns := [], harness := (true, "ce7a4cca0c0458c4bfed3d555fd34c1a3aec5edc52d39735ed753d08c68cade7"), looks := false }, kinds := [], alts := [], laidByText := true, laidKinds := [.data, .pinned], laidTests := true, laidLooks := .later }
def FnExactProgramReadUptoCardSaid : Prop := Claim7.holds Tryd.pinned (.plain (OpenSpec.upto fnExactProgramReadSpec)) fnExactProgramReadUptoCard
end Rows
end Go.Proofs.YtnnalcglfgapbaaDoor
