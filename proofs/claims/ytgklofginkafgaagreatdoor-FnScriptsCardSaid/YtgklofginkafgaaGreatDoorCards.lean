/-
  DERIVED. GIVEN WITH THE SEED: THE CARDS: each row of YtgklofginkafgaaGreatDoorRows.lean that lists a variable, with what it lists TIED to the program's text (the seventh form; the later family's looks); each row that meets fmt, with fmt's text TOLD by the authors' own Lean function (tested against real Go, not proved from fmt's source: count such statements apart). THE CARD IS WHAT COUNTS. Prove the row's statement (the work); the ties are given (YtgklofginkafgaaGreatDoorTie.lean); close each card by the builder's one call (the guide's Derived/Test/ToyasCard.lean, 'card_holds'). Laid BY PROGRAM, IN A SANDBOX (cutbox-door.mjs). By AI agents, Wed Nov 11 2026. No macro, syntax, notation, axiom, sorry.
-/
import Derived.Test.YtgklofginkafgaaGreatDoorRows
import GoSem.ClaimSeven
namespace Go.Proofs.YtgklofginkafgaaGreatDoor
namespace Rows

/-- THE TIED CARD OF 'laws.FnScripts'. -/
def fnScriptsCard : Claim7 := { stood := { row := fnScriptsRow, standIns := [], harness := (true, "e7aa81c1a089b0204be1eb4ea0a4c5e64149658d08c57b35b7026cd73802c853"), looks := true }, kinds := [], alts := [], laidByText := true, laidKinds := [.data, .data, .data, .data, .sentinel, .sentinel, .pinned], laidTests := true, laidLooks := .later }
def FnScriptsCardSaid : Prop := Claim7.holds Tryz.pinned (.plain (OpenSpec.ofChange fnScriptsSpec)) fnScriptsCard

/-- THE TIED CARD OF 'laws.FnExactRetuneText'. -/
def fnExactRetuneTextCard : Claim7 := { stood := { row := fnExactRetuneTextRow, standIns := [], harness := (true, "e7aa81c1a089b0204be1eb4ea0a4c5e64149658d08c57b35b7026cd73802c853"), looks := true }, kinds := [], alts := [], laidByText := true, laidKinds := [.data, .data, .data, .data, .sentinel, .sentinel, .pinned], laidTests := true, laidLooks := .later }
def FnExactRetuneTextCardSaid : Prop := Claim7.holds Tryz.pinned (.plain (OpenSpec.ofChange fnExactRetuneTextSpec)) fnExactRetuneTextCard

/-- THE TIED CARD OF 'laws.FnConversions'. -/
def fnConversionsCard : Claim7 := { stood := { row := fnConversionsRow, standIns := [], harness := (true, "e7aa81c1a089b0204be1eb4ea0a4c5e64149658d08c57b35b7026cd73802c853"), looks := true }, kinds := [], alts := [], laidByText := true, laidKinds := [.data, .data, .data, .data, .sentinel, .sentinel, .pinned], laidTests := true, laidLooks := .later }
def FnConversionsCardSaid : Prop := Claim7.holds Tryz.pinned (.plain (OpenSpec.ofChange fnConversionsSpec)) fnConversionsCard

/-- THE SECOND FORM's CARD OF 'laws.FnScripts'. -/
def fnScriptsUptoCard : Claim7 := { stood := { row := fnScriptsUptoRow, standIns := [], harness := (true, "e7aa81c1a089b0204be1eb4ea0a4c5e64149658d08c57b35b7026cd73802c853"), looks := true }, kinds := [], alts := [], laidByText := true, laidKinds := [.data, .data, .data, .data, .sentinel, .sentinel, .pinned], laidTests := true, laidLooks := .later }
def FnScriptsUptoCardSaid : Prop := Claim7.holds Tryz.pinned (.plain (OpenSpec.upto fnScriptsSpec)) fnScriptsUptoCard

/-- THE SECOND FORM's CARD OF 'laws.FnExactRetuneText'. -/
def fnExactRetuneTextUptoCard : Claim7 := { stood := { row := fnExactRetuneTextUptoRow, standIns := [], harness := (true, "e7aa81c1a089b0204be1eb4ea0a4c5e64149658d08c57b35b7026cd73802c853"), looks := true }, kinds := [], alts := [], laidByText := true, laidKinds := [.data, .data, .data, .data, .sentinel, .sentinel, .pinned], laidTests := true, laidLooks := .later }
def FnExactRetuneTextUptoCardSaid : Prop := Claim7.holds Tryz.pinned (.plain (OpenSpec.upto fnExactRetuneTextSpec)) fnExactRetuneTextUptoCard

/-- THE SECOND FORM's CARD OF 'laws.FnConversions'. -/
def fnConversionsUptoCard : Claim7 := { stood := { row := fnConversionsUptoRow, standIns := [], harness := (true, "e7aa81c1a089b0204be1eb4ea0a4c5e64149658d08c57b35b7026cd73802c853"), looks := true }, kinds := [], alts := [], laidByText := true, laidKinds := [.data, .data, .data, .data, .sentinel, .sentinel, .pinned], laidTests := true, laidLooks := .later }
def FnConversionsUptoCardSaid : Prop := Claim7.holds Tryz.pinned (.plain (OpenSpec.upto fnConversionsSpec)) fnConversionsUptoCard
end Rows
end Go.Proofs.YtgklofginkafgaaGreatDoor
