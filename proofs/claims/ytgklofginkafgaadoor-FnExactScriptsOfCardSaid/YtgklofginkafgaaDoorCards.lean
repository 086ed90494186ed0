/-
  DERIVED. GIVEN WITH THE SEED: THE CARDS: each row of YtgklofginkafgaaDoorRows.lean that lists a variable, with what it lists TIED to the program's text (the seventh form; the later family's looks); each row that meets fmt, with fmt's text TOLD by the authors' own Lean function (tested against real Go, not proved from fmt's source: count such statements apart). THE CARD IS WHAT COUNTS. Prove the row's statement (the work); the ties are given (YtgklofginkafgaaDoorTie.lean); close each card by the builder's one call (the guide's Derived/Test/ToyasCard.lean, 'card_holds'). Laid BY PROGRAM, IN A SANDBOX (cutbox-door.mjs). By AI agents, Wed Nov 11 2026. No macro, syntax, notation, axiom, sorry.
-/
import Derived.Test.YtgklofginkafgaaDoorRows
import GoSem.ClaimSeven
namespace Go.Proofs.YtgklofginkafgaaDoor
namespace Rows

/-- THE TIED CARD OF 'laws.FnExactTonesIn'. -/
def fnExactTonesInCard : Claim7 := { stood := { row := fnExactTonesInRow, standIns := [], harness := (true, "97962af99bc47b41f161666163af6fcbaec8c8056be58839a889ab712b302c6b"), looks := true }, kinds := [], alts := [], laidByText := true, laidKinds := [.data, .data, .data], laidTests := true, laidLooks := .later }
def FnExactTonesInCardSaid : Prop := Claim7.holds Tryd.pinned (.plain (OpenSpec.ofChange fnExactTonesInSpec)) fnExactTonesInCard

/-- THE TIED CARD OF 'laws.FnExactNotesIn'. -/
def fnExactNotesInCard : Claim7 := { stood := { row := fnExactNotesInRow, standIns := [], harness := (true, "97962af99bc47b41f161666163af6fcbaec8c8056be58839a889ab712b302c6b"), looks := true }, kinds := [], alts := [], laidByText := true, laidKinds := [.data, .data, .data], laidTests := true, laidLooks := .later }
def FnExactNotesInCardSaid : Prop := Claim7.holds Tryd.pinned (.plain (OpenSpec.ofChange fnExactNotesInSpec)) fnExactNotesInCard

/-- THE TIED CARD OF 'laws.FnExactScriptsOf'. -/
def fnExactScriptsOfCard : Claim7 := { stood := { row := fnExactScriptsOfRow, standIns := [], harness := (true, "97962af99bc47b41f161666163af6fcbaec8c8056be58839a889ab712b302c6b"), looks := true }, kinds := [], alts := [], laidByText := true, laidKinds := [.data, .data, .data, .data, .sentinel, .sentinel, .pinned], laidTests := true, laidLooks := .later }
def FnExactScriptsOfCardSaid : Prop := Claim7.holds Tryd.pinned (.plain (OpenSpec.ofChange fnExactScriptsOfSpec)) fnExactScriptsOfCard

/-- THE TIED CARD OF 'laws.FnExactReadNotesIn'. -/
def fnExactReadNotesInCard : Claim7 := { stood := { row := fnExactReadNotesInRow, standIns := [], harness := (true, "97962af99bc47b41f161666163af6fcbaec8c8056be58839a889ab712b302c6b"), looks := true }, kinds := [], alts := [], laidByText := true, laidKinds := [.data, .data, .data, .data, .sentinel, .sentinel, .pinned], laidTests := true, laidLooks := .later }
def FnExactReadNotesInCardSaid : Prop := Claim7.holds Tryd.pinned (.plain (OpenSpec.ofChange fnExactReadNotesInSpec)) fnExactReadNotesInCard

/-- THE TIED CARD OF 'laws.FnExactConvertNotes'. -/
def fnExactConvertNotesCard : Claim7 := { stood := { row := fnExactConvertNotesRow, standIns := [], harness := (true, "97962af99bc47b41f161666163af6fcbaec8c8056be58839a889ab712b302c6b"), looks := true }, kinds := [], alts := [], laidByText := true, laidKinds := [.data, .data, .data, .data, .sentinel, .sentinel, .pinned], laidTests := true, laidLooks := .later }
def FnExactConvertNotesCardSaid : Prop := Claim7.holds Tryd.pinned (.plain (OpenSpec.ofChange fnExactConvertNotesSpec)) fnExactConvertNotesCard

/-- THE SECOND FORM's CARD OF 'laws.FnExactTonesIn'. -/
def fnExactTonesInUptoCard : Claim7 := { stood := { row := fnExactTonesInUptoRow, standIns := [], harness := (true, "97962af99bc47b41f161666163af6fcbaec8c8056be58839a889ab712b302c6b"), looks := true }, kinds := [], alts := [], laidByText := true, laidKinds := [.data, .data, .data], laidTests := true, laidLooks := .later }
def FnExactTonesInUptoCardSaid : Prop := Claim7.holds Tryd.pinned (.plain (OpenSpec.upto fnExactTonesInSpec)) fnExactTonesInUptoCard

/-- THE SECOND FORM's CARD OF 'laws.FnExactNotesIn'. -/
def fnExactNotesInUptoCard : Claim7 := { stood := { row := fnExactNotesInUptoRow, standIns := [], harness := (true, "97962af99bc47b41f161666163af6fcbaec8c8056be58839a889ab712b302c6b"), looks := true }, kinds := [], alts := [], laidByText := true, laidKinds := [.data, .data, .data], laidTests := true, laidLooks := .later }
def FnExactNotesInUptoCardSaid : Prop := Claim7.holds Tryd.pinned (.plain (OpenSpec.upto fnExactNotesInSpec)) fnExactNotesInUptoCard

/-- THE SECOND FORM's CARD OF 'laws.FnExactScriptsOf'. -/
def fnExactScriptsOfUptoCard : Claim7 := { stood := { row := fnExactScriptsOfUptoRow, standIns := [], harness := (true, "97962af99bc47b41f161666163af6fcbaec8c8056be58839a889ab712b302c6b"), looks := true }, kinds := [], alts := [], laidByText := true, laidKinds := [.data, .data, .data, .data, .sentinel, .sentinel, .pinned], laidTests := true, laidLooks := .later }
def FnExactScriptsOfUptoCardSaid : Prop := Claim7.holds Tryd.pinned (.plain (OpenSpec.upto fnExactScriptsOfSpec)) fnExactScriptsOfUptoCard

/-- THE SECOND FORM's CARD OF 'laws.FnExactReadNotesIn'. -/
def fnExactReadNotesInUptoCard : Claim7 := { stood := { row := fnExactReadNotesInUptoRow, standIns := [], harness := (true, "97962af99bc47b41f161666163af6fcbaec8c8056be58839a889ab712b302c6b"), looks := true }, kinds := [], alts := [], laidByText := true, laidKinds := [.data, .data, .data, .data, .sentinel, .sentinel, .pinned], laidTests := true, laidLooks := .later }
def FnExactReadNotesInUptoCardSaid : Prop := Claim7.holds Tryd.pinned (.plain (OpenSpec.upto fnExactReadNotesInSpec)) fnExactReadNotesInUptoCard

/-- THE SECOND FORM's CARD OF 'laws.FnExactConvertNotes'. -/
def fnExactConvertNotesUptoCard : Claim7 := { stood := { row := fnExactConvertNotesUptoRow, standIns := [], harness := (true, "97962af99bc47b41f161666163af6fcbaec8c8056be58839a889ab712b302c6b"), looks := true }, kinds := [], alts := [], laidByText := true, laidKinds := [.data, .data, .data, .data, .sentinel, .sentinel, .pinned], laidTests := true, laidLooks := .later }
def FnExactConvertNotesUptoCardSaid : Prop := Claim7.holds Tryd.pinned (.plain (OpenSpec.upto fnExactConvertNotesSpec)) fnExactConvertNotesUptoCard
end Rows
end Go.Proofs.YtgklofginkafgaaDoor
