/-
  DERIVED. GIVEN WITH THE SEED: THE CARDS: each row of YtjnfkomadgfggaaGreatDoorRows.lean that lists a variable, with what it lists TIED to the program's text (the seventh form; the later family's looks); each row that meets fmt, with fmt's text TOLD by the authors' own Lean function (tested against real Go, not proved from fmt's source: count such statements apart). THE CARD IS WHAT COUNTS. Prove the row's statement (the work); the ties are given (YtjnfkomadgfggaaGreatDoorTie.lean); close each card by the builder's one call (the guide's Derived/Test/ToyasCard.lean, 'card_holds'). Laid BY PROGRAM, IN A SANDBOX (cutbox-door.mjs). By AI agents, Wed Nov 11 2026. No macro, syntax, notation, axiom, sorry.
-/
import Derived.Test.YtjnfkomadgfggaaGreatDoorRows
import GoSem.ClaimSeven
namespace Go.Proofs.YtjnfkomadgfggaaGreatDoor
namespace Rows

/-- THE TIED CARD OF 'laws.FnExactBarSums'. -/
def fnExactBarSumsCard : Claim7 := { stood := { row := fnExactBarSumsRow, standIns := [], harness := (true, "07c45f30f16228a83d029ecc89eabc3ea4ccda6b0ea1df41cd1a054e7a9fb50f"), looks := true }, kinds := [], alts := [], laidByText := true, laidKinds := [.data, .data, .data, .data, .sentinel, .sentinel, .pinned], laidTests := true, laidLooks := .later }
def FnExactBarSumsCardSaid : Prop := Claim7.holds Tryz.pinned (.plain (OpenSpec.ofChange fnExactBarSumsSpec)) fnExactBarSumsCard

/-- THE TIED CARD OF 'laws.FnExactWrongBar'. -/
def fnExactWrongBarCard : Claim7 := { stood := { row := fnExactWrongBarRow, standIns := [], harness := (true, "07c45f30f16228a83d029ecc89eabc3ea4ccda6b0ea1df41cd1a054e7a9fb50f"), looks := true }, kinds := [], alts := [], laidByText := true, laidKinds := [.data, .data, .data, .data, .sentinel, .sentinel, .pinned], laidTests := true, laidLooks := .later }
def FnExactWrongBarCardSaid : Prop := Claim7.holds Tryz.pinned (.plain (OpenSpec.ofChange fnExactWrongBarSpec)) fnExactWrongBarCard

/-- THE TIED CARD OF 'laws.FnNotation'. -/
def fnNotationCard : Claim7 := { stood := { row := fnNotationRow, standIns := [], harness := (true, "07c45f30f16228a83d029ecc89eabc3ea4ccda6b0ea1df41cd1a054e7a9fb50f"), looks := true }, kinds := [], alts := [], laidByText := true, laidKinds := [.data, .data, .data, .data, .sentinel, .sentinel, .pinned], laidTests := true, laidLooks := .later }
def FnNotationCardSaid : Prop := Claim7.holds Tryz.pinned (.plain (OpenSpec.ofChange fnNotationSpec)) fnNotationCard

/-- THE TIED CARD OF 'laws.FnExactReadBars'. -/
def fnExactReadBarsCard : Claim7 := { stood := { row := fnExactReadBarsRow, standIns := [], harness := (true, "07c45f30f16228a83d029ecc89eabc3ea4ccda6b0ea1df41cd1a054e7a9fb50f"), looks := true }, kinds := [], alts := [], laidByText := true, laidKinds := [.data, .data, .data, .data, .sentinel, .sentinel, .pinned], laidTests := true, laidLooks := .later }
def FnExactReadBarsCardSaid : Prop := Claim7.holds Tryz.pinned (.plain (OpenSpec.ofChange fnExactReadBarsSpec)) fnExactReadBarsCard

/-- THE SECOND FORM's CARD OF 'laws.FnExactBarSums'. -/
def fnExactBarSumsUptoCard : Claim7 := { stood := { row := fnExactBarSumsUptoRow, standIns := [], harness := (true, "07c45f30f16228a83d029ecc89eabc3ea4ccda6b0ea1df41cd1a054e7a9fb50f"), looks := true }, kinds := [], alts := [], laidByText := true, laidKinds := [.data, .data, .data, .data, .sentinel, .sentinel, .pinned], laidTests := true, laidLooks := .later }
def FnExactBarSumsUptoCardSaid : Prop := Claim7.holds Tryz.pinned (.plain (OpenSpec.upto fnExactBarSumsSpec)) fnExactBarSumsUptoCard

/-- THE SECOND FORM's CARD OF 'laws.FnExactWrongBar'. -/
def fnExactWrongBarUptoCard : Claim7 := { stood := { row := fnExactWrongBarUptoRow, standIns := [], harness := (true, "07c45f30f16228a83d029ecc89eabc3ea4ccda6b0ea1df41cd1a054e7a9fb50f"), looks := true }, kinds := [], alts := [], laidByText := true, laidKinds := [.data, .data, .data, .data, .sentinel, .sentinel, .pinned], laidTests := true, laidLooks := .later }
def FnExactWrongBarUptoCardSaid : Prop := Claim7.holds Tryz.pinned (.plain (OpenSpec.upto fnExactWrongBarSpec)) fnExactWrongBarUptoCard

/-- THE SECOND FORM's CARD OF 'laws.FnNotation'. -/
def fnNotationUptoCard : Claim7 := { stood := { row := fnNotationUptoRow, standIns := [], harness := (true, "07c45f30f16228a83d029ecc89eabc3ea4ccda6b0ea1df41cd1a054e7a9fb50f"), looks := true }, kinds := [], alts := [], laidByText := true, laidKinds := [.data, .data, .data, .data, .sentinel, .sentinel, .pinned], laidTests := true, laidLooks := .later }
def FnNotationUptoCardSaid : Prop := Claim7.holds Tryz.pinned (.plain (OpenSpec.upto fnNotationSpec)) fnNotationUptoCard

/-- THE SECOND FORM's CARD OF 'laws.FnExactReadBars'. -/
def fnExactReadBarsUptoCard : Claim7 := { stood := { row := fnExactReadBarsUptoRow, standIns := [], harness := (true, "07c45f30f16228a83d029ecc89eabc3ea4ccda6b0ea1df41cd1a054e7a9fb50f"), looks := true }, kinds := [], alts := [], laidByText := true, laidKinds := [.data, .data, .data, .data, .sentinel, .sentinel, .pinned], laidTests := true, laidLooks := .later }
def FnExactReadBarsUptoCardSaid : Prop := Claim7.holds Tryz.pinned (.plain (OpenSpec.upto fnExactReadBarsSpec)) fnExactReadBarsUptoCard
end Rows
end Go.Proofs.YtjnfkomadgfggaaGreatDoor
