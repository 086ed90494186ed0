/-
  DERIVED. GIVEN WITH THE SEED: THE CARDS: each row of YtcnoamiidanhhaaDoorRows.lean that lists a variable, with what it lists TIED to the program's text (the seventh form; the later family's looks); each row that meets fmt, with fmt's text TOLD by the authors' own Lean function (tested against real Go, not proved from fmt's source: count such statements apart). THE CARD IS WHAT COUNTS. Prove the row's statement (the work); the ties are given (YtcnoamiidanhhaaDoorTie.lean); close each card by the builder's one call (the guide's Derived/Test/ToyasCard.lean, 'card_holds'). Laid BY PROGRAM, IN A SANDBOX (cutbox-door.mjs). By AI agents, Wed Nov 11 2026. No macro, syntax, notation, axiom, sorry.
-/
import Derived.Test.YtcnoamiidanhhaaDoorRows
import GoSem.ClaimSeven
namespace Go.Proofs.YtcnoamiidanhhaaDoor
namespace Rows

/-- THE TIED CARD OF 'laws.FnExactVersionText'. -/
def fnExactVersionTextCard : Claim7 := { stood := { row := fnExactVersionTextRow, standIns := [], harness := (true, "092b0d42eb87ac6a554b0a34482b6b9462ba3b1e1902c5c9fe011df3ace5418c"), looks := false }, kinds := [], alts := [], laidByText := true, laidKinds := [.data, .data, .data], laidTests := true, laidLooks := .later }
def FnExactVersionTextCardSaid : Prop := Claim7.holds Tryd.pinned (.plain (OpenSpec.ofChange fnExactVersionTextSpec)) fnExactVersionTextCard

/-- THE TIED CARD OF 'laws.FnExactUndoVersion'. -/
def fnExactUndoVersionCard : Claim7 := { stood := { row := fnExactUndoVersionRow, standIns := [], harness := (true, "092b0d42eb87ac6a554b0a34482b6b9462ba3b1e1902c5c9fe011df3ace5418c"), looks := false }, kinds := [], alts := [], laidByText := true, laidKinds := [.data, .data, .data], laidTests := true, laidLooks := .later }
def FnExactUndoVersionCardSaid : Prop := Claim7.holds Tryd.pinned (.plain (OpenSpec.ofChange fnExactUndoVersionSpec)) fnExactUndoVersionCard

/-- THE TIED CARD OF 'laws.FnVersions'. -/
def fnVersionsCard : Claim7 := { stood := { row := fnVersionsRow, standIns := [], harness := (true, "092b0d42eb87ac6a554b0a34482b6b9462ba3b1e1902c5c9fe011df3ace5418c"), looks := false }, kinds := [], alts := [], laidByText := true, laidKinds := [.data, .data, .data], laidTests := true, laidLooks := .later }
def FnVersionsCardSaid : Prop := Claim7.holds Tryd.pinned (.plain (OpenSpec.ofChange fnVersionsSpec)) fnVersionsCard

/-- THE SECOND FORM's CARD OF 'laws.FnExactVersionText'. -/
def fnExactVersionTextUptoCard : Claim7 := { stood := { row := fnExactVersionTextUptoRow, standIns := [], harness := (true, "092b0d42eb87ac6a554b0a34482b6b9462ba3b1e1902c5c9fe011df3ace5418c"), looks := false }, kinds := [], alts := [], laidByText := true, laidKinds := [.data, .data, .data], laidTests := true, laidLooks := .later }
def FnExactVersionTextUptoCardSaid : Prop := Claim7.holds Tryd.pinned (.plain (OpenSpec.upto fnExactVersionTextSpec)) fnExactVersionTextUptoCard

/-- THE SECOND FORM's CARD OF 'laws.FnExactUndoVersion'. -/
def fnExactUndoVersionUptoCard : Claim7 := { stood := { row := fnExactUndoVersionUptoRow, standIns := [], harness := (true, "092b0d42eb87ac6a554b0a34482b6b9462ba3b1e1902c5c9fe011df3ace5418c"), looks := false }, kinds := [], alts := [], laidByText := true, laidKinds := [.data, .data, .data], laidTests := true, laidLooks := .later }
def FnExactUndoVersionUptoCardSaid : Prop := Claim7.holds Tryd.pinned (.plain (OpenSpec.upto fnExactUndoVersionSpec)) fnExactUndoVersionUptoCard

/-- THE SECOND FORM's CARD OF 'laws.FnVersions'. -/
def fnVersionsUptoCard : Claim7 := { stood := { row := fnVersionsUptoRow, standIns := [], harness := (true, "092b0d42eb87ac6a554b0a34482b6b9462ba3b1e1902c5c9fe011df3ace5418c"), looks := false }, kinds := [], alts := [], laidByText := true, laidKinds := [.data, .data, .data], laidTests := true, laidLooks := .later }
def FnVersionsUptoCardSaid : Prop := Claim7.holds Tryd.pinned (.plain (OpenSpec.upto fnVersionsSpec)) fnVersionsUptoCard
end Rows
end Go.Proofs.YtcnoamiidanhhaaDoor
