/-
  DERIVED. GIVEN WITH THE SEED: THE CARDS: each row of YtnjpjddliaoboaaDoorRows.lean that lists a variable, with what it lists TIED to the program's text (the seventh form; the later family's looks); each row that meets fmt, with fmt's text TOLD by the authors' own Lean function (tested against real Go, not proved from fmt's source: count such statements apart). THE CARD IS WHAT COUNTS. Prove the row's statement (the work); the ties are given (YtnjpjddliaoboaaDoorTie.lean); close each card by the builder's one call (the guide's Derived/Test/ToyasCard.lean, 'card_holds'). Laid BY PROGRAM, IN A SANDBOX (cutbox-door.mjs). By AI agents, Wed Nov 11 2026. No macro, syntax, notation, axiom, sorry.
-/
import Derived.Test.YtnjpjddliaoboaaDoorRows
import GoSem.ClaimSeven
namespace Go.Proofs.YtnjpjddliaoboaaDoor
namespace Rows

/-- THE TIED CARD OF 'laws.FnExactLessonText'. -/
def fnExactLessonTextCard : Claim7 := { stood := { row := fnExactLessonTextRow, standIns := [], harness := (true, "2a064d3a33534ff611381775d3ad0adf5f6ebb5256fac9abd8c288c98d4b4b04"), looks := true }, kinds := [], alts := [], laidByText := true, laidKinds := [.data, .data, .data], laidTests := true, laidLooks := .later }
def FnExactLessonTextCardSaid : Prop := Claim7.holds Tryd.pinned (.plain (OpenSpec.ofChange fnExactLessonTextSpec)) fnExactLessonTextCard

/-- THE TIED CARD OF 'laws.FnExactPatternText'. -/
def fnExactPatternTextCard : Claim7 := { stood := { row := fnExactPatternTextRow, standIns := [], harness := (true, "2a064d3a33534ff611381775d3ad0adf5f6ebb5256fac9abd8c288c98d4b4b04"), looks := true }, kinds := [], alts := [], laidByText := true, laidKinds := [.data, .data, .data], laidTests := true, laidLooks := .later }
def FnExactPatternTextCardSaid : Prop := Claim7.holds Tryd.pinned (.plain (OpenSpec.ofChange fnExactPatternTextSpec)) fnExactPatternTextCard

/-- THE TIED CARD OF 'laws.FnExactReadTurn'. -/
def fnExactReadTurnCard : Claim7 := { stood := { row := fnExactReadTurnRow, standIns := [], harness := (true, "2a064d3a33534ff611381775d3ad0adf5f6ebb5256fac9abd8c288c98d4b4b04"), looks := true }, kinds := [], alts := [], laidByText := true, laidKinds := [.data, .data, .data, .sentinel, .sentinel], laidTests := true, laidLooks := .later }
def FnExactReadTurnCardSaid : Prop := Claim7.holds Tryd.pinned (.plain (OpenSpec.ofChange fnExactReadTurnSpec)) fnExactReadTurnCard

/-- THE SECOND FORM's CARD OF 'laws.FnExactLessonText'. -/
def fnExactLessonTextUptoCard : Claim7 := { stood := { row := fnExactLessonTextUptoRow, standIns := [], harness := (true, "2a064d3a33534ff611381775d3ad0adf5f6ebb5256fac9abd8c288c98d4b4b04"), looks := true }, kinds := [], alts := [], laidByText := true, laidKinds := [.data, .data, .data], laidTests := true, laidLooks := .later }
def FnExactLessonTextUptoCardSaid : Prop := Claim7.holds Tryd.pinned (.plain (OpenSpec.upto fnExactLessonTextSpec)) fnExactLessonTextUptoCard

/-- THE SECOND FORM's CARD OF 'laws.FnExactPatternText'. -/
def fnExactPatternTextUptoCard : Claim7 := { stood := { row := fnExactPatternTextUptoRow, standIns := [], harness := (true, "2a064d3a33534ff611381775d3ad0adf5f6ebb5256fac9abd8c288c98d4b4b04"), looks := true }, kinds := [], alts := [], laidByText := true, laidKinds := [.data, .data, .data], laidTests := true, laidLooks := .later }
def FnExactPatternTextUptoCardSaid : Prop := Claim7.holds Tryd.pinned (.plain (OpenSpec.upto fnExactPatternTextSpec)) fnExactPatternTextUptoCard

/-- THE SECOND FORM's CARD OF 'laws.FnExactReadTurn'. -/
def fnExactReadTurnUptoCard : Claim7 := { stood := { row := fnExactReadTurnUptoRow, standIns := [], harness := (true, "2a064d3a33534ff611381775d3ad0adf5f6ebb5256fac9abd8c288c98d4b4b04"), looks := true }, kinds := [], alts := [], laidByText := true, laidKinds := [.data, .data, .data, .sentinel, .sentinel], laidTests := true, laidLooks := .later }
def FnExactReadTurnUptoCardSaid : Prop := Claim7.holds Tryd.pinned (.plain (OpenSpec.upto fnExactReadTurnSpec)) fnExactReadTurnUptoCard
end Rows
end Go.Proofs.YtnjpjddliaoboaaDoor
