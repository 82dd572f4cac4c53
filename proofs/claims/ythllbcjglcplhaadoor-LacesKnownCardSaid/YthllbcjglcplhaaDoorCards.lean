/-
  DERIVED. GIVEN WITH THE SEED: THE CARDS: each row of YthllbcjglcplhaaDoorRows.lean that lists a variable, with what it lists TIED to the program's text (the seventh form; the later family's looks); each row that meets fmt, with fmt's text TOLD by the authors' own Lean function (tested against real Go, not proved from fmt's source: count such statements apart). THE CARD IS WHAT COUNTS. Prove the row's statement (the work); the ties are given (YthllbcjglcplhaaDoorTie.lean); close each card by the builder's one call (the guide's Derived/Test/ToyasCard.lean, 'card_holds'). Laid BY PROGRAM, IN A SANDBOX (cutbox-door.mjs). By AI agents, Wed Nov 11 2026. No macro, syntax, notation, axiom, sorry.
-/
import Derived.Test.YthllbcjglcplhaaDoorRows
import GoSem.ClaimSeven
namespace Go.Proofs.YthllbcjglcplhaaDoor
namespace Rows

/-- THE TIED CARD OF 'ganseylaw20.LacesCheck'. -/
def lacesCheckCard : Claim7 := { stood := { row := lacesCheckRow, standIns := [], harness := (true, "cb2714227e051fcd88ef8e0fee66099dd952af8d2e0e7b45ec1bb0b2ffa37cc8"), looks := false }, kinds := [], alts := [], laidByText := true, laidKinds := [.data], laidTests := true, laidLooks := .later }
def LacesCheckCardSaid : Prop := Claim7.holds Tryd.pinned (.plain (OpenSpec.ofChange lacesCheckSpec)) lacesCheckCard

/-- THE TIED CARD OF 'ganseylaw20.LacesOf'. -/
def lacesOfCard : Claim7 := { stood := { row := lacesOfRow, standIns := [], harness := (true, "cb2714227e051fcd88ef8e0fee66099dd952af8d2e0e7b45ec1bb0b2ffa37cc8"), looks := false }, kinds := [], alts := [], laidByText := true, laidKinds := [.data], laidTests := true, laidLooks := .later }
def LacesOfCardSaid : Prop := Claim7.holds Tryd.pinned (.plain (OpenSpec.ofChange lacesOfSpec)) lacesOfCard

/-- THE TIED CARD OF 'ganseylaw20.LacesShift'. -/
def lacesShiftCard : Claim7 := { stood := { row := lacesShiftRow, standIns := [], harness := (true, "cb2714227e051fcd88ef8e0fee66099dd952af8d2e0e7b45ec1bb0b2ffa37cc8"), looks := false }, kinds := [], alts := [], laidByText := true, laidKinds := [.data], laidTests := true, laidLooks := .later }
def LacesShiftCardSaid : Prop := Claim7.holds Tryd.pinned (.plain (OpenSpec.ofChange lacesShiftSpec)) lacesShiftCard

/-- THE TIED CARD OF 'ganseylaw20.LacesChart'. -/
def lacesChartCard : Claim7 := { stood := { row := lacesChartRow, standIns := [], harness := (true, "cb2714227e051fcd88ef8e0fee66099dd952af8d2e0e7b45ec1bb0b2ffa37cc8"), looks := false }, kinds := [], alts := [], laidByText := true, laidKinds := [.data], laidTests := true, laidLooks := .later }
def LacesChartCardSaid : Prop := Claim7.holds Tryd.pinned (.plain (OpenSpec.ofChange lacesChartSpec)) lacesChartCard

/-- THE TIED CARD OF 'ganseylaw20.LacesPairs'. -/
def lacesPairsCard : Claim7 := { stood := { row := lacesPairsRow, standIns := [], harness := (true, "cb2714227e051fcd88ef8e0fee66099dd952af8d2e0e7b45ec1bb0b2ffa37cc8"), looks := false }, kinds := [], alts := [], laidByText := true, laidKinds := [.data], laidTests := true, laidLooks := .later }
def LacesPairsCardSaid : Prop := Claim7.holds Tryd.pinned (.plain (OpenSpec.ofChange lacesPairsSpec)) lacesPairsCard

/-- THE TIED CARD OF 'ganseylaw20.LacesMirror'. -/
def lacesMirrorCard : Claim7 := { stood := { row := lacesMirrorRow, standIns := [], harness := (true, "cb2714227e051fcd88ef8e0fee66099dd952af8d2e0e7b45ec1bb0b2ffa37cc8"), looks := false }, kinds := [], alts := [], laidByText := true, laidKinds := [.data], laidTests := true, laidLooks := .later }
def LacesMirrorCardSaid : Prop := Claim7.holds Tryd.pinned (.plain (OpenSpec.ofChange lacesMirrorSpec)) lacesMirrorCard

/-- THE TIED CARD OF 'ganseylaw20.LacesText'. -/
def lacesTextCard : Claim7 := { stood := { row := lacesTextRow, standIns := [], harness := (true, "cb2714227e051fcd88ef8e0fee66099dd952af8d2e0e7b45ec1bb0b2ffa37cc8"), looks := false }, kinds := [], alts := [], laidByText := true, laidKinds := [.data], laidTests := true, laidLooks := .later }
def LacesTextCardSaid : Prop := Claim7.holds Tryd.pinned (.plain (OpenSpec.ofChange lacesTextSpec)) lacesTextCard

/-- THE TIED CARD OF 'ganseylaw20.LacesKnown'. -/
def lacesKnownCard : Claim7 := { stood := { row := lacesKnownRow, standIns := [], harness := (true, "cb2714227e051fcd88ef8e0fee66099dd952af8d2e0e7b45ec1bb0b2ffa37cc8"), looks := false }, kinds := [], alts := [], laidByText := true, laidKinds := [.data], laidTests := true, laidLooks := .later }
def LacesKnownCardSaid : Prop := Claim7.holds Tryd.pinned (.plain (OpenSpec.ofChange lacesKnownSpec)) lacesKnownCard

/-- THE SECOND FORM's CARD OF 'ganseylaw20.LacesCheck'. -/
def lacesCheckUptoCard : Claim7 := { stood := { row := lacesCheckUptoRow, standIns := [], harness := (true, "cb2714227e051fcd88ef8e0fee66099dd952af8d2e0e7b45ec1bb0b2ffa37cc8"), looks := false }, kinds := [], alts := [], laidByText := true, laidKinds := [.data], laidTests := true, laidLooks := .later }
def LacesCheckUptoCardSaid : Prop := Claim7.holds Tryd.pinned (.plain (OpenSpec.upto lacesCheckSpec)) lacesCheckUptoCard

/-- THE SECOND FORM's CARD OF 'ganseylaw20.LacesOf'. -/
def lacesOfUptoCard : Claim7 := { stood := { row := lacesOfUptoRow, standIns := [], harness := (true, "cb2714227e051fcd88ef8e0fee66099dd952af8d2e0e7b45ec1bb0b2ffa37cc8"), looks := false }, kinds := [], alts := [], laidByText := true, laidKinds := [.data], laidTests := true, laidLooks := .later }
def LacesOfUptoCardSaid : Prop := Claim7.holds Tryd.pinned (.plain (OpenSpec.upto lacesOfSpec)) lacesOfUptoCard

/-- THE SECOND FORM's CARD OF 'ganseylaw20.LacesShift'. -/
def lacesShiftUptoCard : Claim7 := { stood := { row := lacesShiftUptoRow, standIns := [], harness := (true, "cb2714227e051fcd88ef8e0fee66099dd952af8d2e0e7b45ec1bb0b2ffa37cc8"), looks := false }, kinds := [], alts := [], laidByText := true, laidKinds := [.data], laidTests := true, laidLooks := .later }
def LacesShiftUptoCardSaid : Prop := Claim7.holds Tryd.pinned (.plain (OpenSpec.upto lacesShiftSpec)) lacesShiftUptoCard

/-- THE SECOND FORM's CARD OF 'ganseylaw20.LacesChart'. -/
def lacesChartUptoCard : Claim7 := { stood := { row := lacesChartUptoRow, standIns := [], harness := (true, "cb2714227e051fcd88ef8e0fee66099dd952af8d2e0e7b45ec1bb0b2ffa37cc8"), looks := false }, kinds := [], alts := [], laidByText := true, laidKinds := [.data], laidTests := true, laidLooks := .later }
def LacesChartUptoCardSaid : Prop := Claim7.holds Tryd.pinned (.plain (OpenSpec.upto lacesChartSpec)) lacesChartUptoCard

/-- THE SECOND FORM's CARD OF 'ganseylaw20.LacesPairs'. -/
def lacesPairsUptoCard : Claim7 := { stood := { row := lacesPairsUptoRow, standIns := [], harness := (true, "cb2714227e051fcd88ef8e0fee66099dd952af8d2e0e7b45ec1bb0b2ffa37cc8"), looks := false }, kinds := [], alts := [], laidByText := true, laidKinds := [.data], laidTests := true, laidLooks := .later }
def LacesPairsUptoCardSaid : Prop := Claim7.holds Tryd.pinned (.plain (OpenSpec.upto lacesPairsSpec)) lacesPairsUptoCard

/-- THE SECOND FORM's CARD OF 'ganseylaw20.LacesMirror'. -/
def lacesMirrorUptoCard : Claim7 := { stood := { row := lacesMirrorUptoRow, standIns := [], harness := (true, "cb2714227e051fcd88ef8e0fee66099dd952af8d2e0e7b45ec1bb0b2ffa37cc8"), looks := false }, kinds := [], alts := [], laidByText := true, laidKinds := [.data], laidTests := true, laidLooks := .later }
def LacesMirrorUptoCardSaid : Prop := Claim7.holds Tryd.pinned (.plain (OpenSpec.upto lacesMirrorSpec)) lacesMirrorUptoCard

/-- THE SECOND FORM's CARD OF 'ganseylaw20.LacesText'. -/
def lacesTextUptoCard : Claim7 := { stood := { row := lacesTextUptoRow, standIns := [], harness := (true, "cb2714227e051fcd88ef8e0fee66099dd952af8d2e0e7b45ec1bb0b2ffa37cc8"), looks := false }, kinds := [], alts := [], laidByText := true, laidKinds := [.data], laidTests := true, laidLooks := .later }
def LacesTextUptoCardSaid : Prop := Claim7.holds Tryd.pinned (.plain (OpenSpec.upto lacesTextSpec)) lacesTextUptoCard

/-- THE SECOND FORM's CARD OF 'ganseylaw20.LacesKnown'. -/
def lacesKnownUptoCard : Claim7 := { stood := { row := lacesKnownUptoRow, standIns := [], harness := (true, "cb2714227e051fcd88ef8e0fee66099dd952af8d2e0e7b45ec1bb0b2ffa37cc8"), looks := false }, kinds := [], alts := [], laidByText := true, laidKinds := [.data], laidTests := true, laidLooks := .later }
def LacesKnownUptoCardSaid : Prop := Claim7.holds Tryd.pinned (.plain (OpenSpec.upto lacesKnownSpec)) lacesKnownUptoCard
end Rows
end Go.Proofs.YthllbcjglcplhaaDoor
