/-
  DERIVED. GIVEN WITH THE SEED: THE CARDS: each row of YtinijapkipeamaaDoorRows.lean that lists a variable, with what it lists TIED to the program's text (the seventh form; the later family's looks); each row that meets fmt, with fmt's text TOLD by the authors' own Lean function (tested against real Go, not proved from fmt's source: count such statements apart). THE CARD IS WHAT COUNTS. Prove the row's statement (the work); the ties are given (YtinijapkipeamaaDoorTie.lean); close each card by the builder's one call (the guide's Derived/Test/ToyasCard.lean, 'card_holds'). Laid BY PROGRAM, IN A SANDBOX (cutbox-door.mjs). By AI agents, Wed Nov 11 2026. No macro, syntax, notation, axiom, sorry.
-/
import Derived.Test.YtinijapkipeamaaDoorRows
import GoSem.ClaimSeven
namespace Go.Proofs.YtinijapkipeamaaDoor
namespace Rows

/-- THE TIED CARD OF 'ganseylaw19.ShapesCheck'. -/
def shapesCheckCard : Claim7 := { stood := { row := shapesCheckRow, standIns := [], harness := (true, "1264c424047d960cee8013daa35bd8e3d9025230ccf64f38f2921cefb17c3fe1"), looks := false }, kinds := [], alts := [], laidByText := true, laidKinds := [.data], laidTests := true, laidLooks := .later }
def ShapesCheckCardSaid : Prop := Claim7.holds Tryd.pinned (.plain (OpenSpec.ofChange shapesCheckSpec)) shapesCheckCard

/-- THE TIED CARD OF 'ganseylaw19.ShapesSlope'. -/
def shapesSlopeCard : Claim7 := { stood := { row := shapesSlopeRow, standIns := [], harness := (true, "1264c424047d960cee8013daa35bd8e3d9025230ccf64f38f2921cefb17c3fe1"), looks := false }, kinds := [], alts := [], laidByText := true, laidKinds := [.data], laidTests := true, laidLooks := .later }
def ShapesSlopeCardSaid : Prop := Claim7.holds Tryd.pinned (.plain (OpenSpec.ofChange shapesSlopeSpec)) shapesSlopeCard

/-- THE TIED CARD OF 'ganseylaw19.ShapesBack'. -/
def shapesBackCard : Claim7 := { stood := { row := shapesBackRow, standIns := [], harness := (true, "1264c424047d960cee8013daa35bd8e3d9025230ccf64f38f2921cefb17c3fe1"), looks := false }, kinds := [], alts := [], laidByText := true, laidKinds := [.data], laidTests := true, laidLooks := .later }
def ShapesBackCardSaid : Prop := Claim7.holds Tryd.pinned (.plain (OpenSpec.ofChange shapesBackSpec)) shapesBackCard

/-- THE TIED CARD OF 'ganseylaw19.ShapesArea'. -/
def shapesAreaCard : Claim7 := { stood := { row := shapesAreaRow, standIns := [], harness := (true, "1264c424047d960cee8013daa35bd8e3d9025230ccf64f38f2921cefb17c3fe1"), looks := false }, kinds := [], alts := [], laidByText := true, laidKinds := [.data], laidTests := true, laidLooks := .later }
def ShapesAreaCardSaid : Prop := Claim7.holds Tryd.pinned (.plain (OpenSpec.ofChange shapesAreaSpec)) shapesAreaCard

/-- THE TIED CARD OF 'ganseylaw19.ShapesJoin'. -/
def shapesJoinCard : Claim7 := { stood := { row := shapesJoinRow, standIns := [], harness := (true, "1264c424047d960cee8013daa35bd8e3d9025230ccf64f38f2921cefb17c3fe1"), looks := false }, kinds := [], alts := [], laidByText := true, laidKinds := [.data], laidTests := true, laidLooks := .later }
def ShapesJoinCardSaid : Prop := Claim7.holds Tryd.pinned (.plain (OpenSpec.ofChange shapesJoinSpec)) shapesJoinCard

/-- THE TIED CARD OF 'ganseylaw19.ShapesChart'. -/
def shapesChartCard : Claim7 := { stood := { row := shapesChartRow, standIns := [], harness := (true, "1264c424047d960cee8013daa35bd8e3d9025230ccf64f38f2921cefb17c3fe1"), looks := false }, kinds := [], alts := [], laidByText := true, laidKinds := [.data], laidTests := true, laidLooks := .later }
def ShapesChartCardSaid : Prop := Claim7.holds Tryd.pinned (.plain (OpenSpec.ofChange shapesChartSpec)) shapesChartCard

/-- THE TIED CARD OF 'ganseylaw19.ShapesOf'. -/
def shapesOfCard : Claim7 := { stood := { row := shapesOfRow, standIns := [], harness := (true, "1264c424047d960cee8013daa35bd8e3d9025230ccf64f38f2921cefb17c3fe1"), looks := false }, kinds := [], alts := [], laidByText := true, laidKinds := [.data], laidTests := true, laidLooks := .later }
def ShapesOfCardSaid : Prop := Claim7.holds Tryd.pinned (.plain (OpenSpec.ofChange shapesOfSpec)) shapesOfCard

/-- THE TIED CARD OF 'ganseylaw19.ShapesKnown'. -/
def shapesKnownCard : Claim7 := { stood := { row := shapesKnownRow, standIns := [], harness := (true, "1264c424047d960cee8013daa35bd8e3d9025230ccf64f38f2921cefb17c3fe1"), looks := false }, kinds := [], alts := [], laidByText := true, laidKinds := [.data], laidTests := true, laidLooks := .later }
def ShapesKnownCardSaid : Prop := Claim7.holds Tryd.pinned (.plain (OpenSpec.ofChange shapesKnownSpec)) shapesKnownCard

/-- THE SECOND FORM's CARD OF 'ganseylaw19.ShapesCheck'. -/
def shapesCheckUptoCard : Claim7 := { stood := { row := shapesCheckUptoRow, standIns := [], harness := (true, "1264c424047d960cee8013daa35bd8e3d9025230ccf64f38f2921cefb17c3fe1"), looks := false }, kinds := [], alts := [], laidByText := true, laidKinds := [.data], laidTests := true, laidLooks := .later }
def ShapesCheckUptoCardSaid : Prop := Claim7.holds Tryd.pinned (.plain (OpenSpec.upto shapesCheckSpec)) shapesCheckUptoCard

/-- THE SECOND FORM's CARD OF 'ganseylaw19.ShapesSlope'. -/
def shapesSlopeUptoCard : Claim7 := { stood := { row := shapesSlopeUptoRow, standIns := [], harness := (true, "1264c424047d960cee8013daa35bd8e3d9025230ccf64f38f2921cefb17c3fe1"), looks := false }, kinds := [], alts := [], laidByText := true, laidKinds := [.data], laidTests := true, laidLooks := .later }
def ShapesSlopeUptoCardSaid : Prop := Claim7.holds Tryd.pinned (.plain (OpenSpec.upto shapesSlopeSpec)) shapesSlopeUptoCard

/-- THE SECOND FORM's CARD OF 'ganseylaw19.ShapesBack'. -/
def shapesBackUptoCard : Claim7 := { stood := { row := shapesBackUptoRow, standIns := [], harness := (true, "1264c424047d960cee8013daa35bd8e3d9025230ccf64f38f2921cefb17c3fe1"), looks := false }, kinds := [], alts := [], laidByText := true, laidKinds := [.data], laidTests := true, laidLooks := .later }
def ShapesBackUptoCardSaid : Prop := Claim7.holds Tryd.pinned (.plain (OpenSpec.upto shapesBackSpec)) shapesBackUptoCard

/-- THE SECOND FORM's CARD OF 'ganseylaw19.ShapesArea'. -/
def shapesAreaUptoCard : Claim7 := { stood := { row := shapesAreaUptoRow, standIns := [], harness := (true, "1264c424047d960cee8013daa35bd8e3d9025230ccf64f38f2921cefb17c3fe1"), looks := false }, kinds := [], alts := [], laidByText := true, laidKinds := [.data], laidTests := true, laidLooks := .later }
def ShapesAreaUptoCardSaid : Prop := Claim7.holds Tryd.pinned (.plain (OpenSpec.upto shapesAreaSpec)) shapesAreaUptoCard

/-- THE SECOND FORM's CARD OF 'ganseylaw19.ShapesJoin'. -/
def shapesJoinUptoCard : Claim7 := { stood := { row := shapesJoinUptoRow, standIns := [], harness := (true, "1264c424047d960cee8013daa35bd8e3d9025230ccf64f38f2921cefb17c3fe1"), looks := false }, kinds := [], alts := [], laidByText := true, laidKinds := [.data], laidTests := true, laidLooks := .later }
def ShapesJoinUptoCardSaid : Prop := Claim7.holds Tryd.pinned (.plain (OpenSpec.upto shapesJoinSpec)) shapesJoinUptoCard

/-- THE SECOND FORM's CARD OF 'ganseylaw19.ShapesChart'. -/
def shapesChartUptoCard : Claim7 := { stood := { row := shapesChartUptoRow, standIns := [], harness := (true, "1264c424047d960cee8013daa35bd8e3d9025230ccf64f38f2921cefb17c3fe1"), looks := false }, kinds := [], alts := [], laidByText := true, laidKinds := [.data], laidTests := true, laidLooks := .later }
def ShapesChartUptoCardSaid : Prop := Claim7.holds Tryd.pinned (.plain (OpenSpec.upto shapesChartSpec)) shapesChartUptoCard

/-- THE SECOND FORM's CARD OF 'ganseylaw19.ShapesOf'. -/
def shapesOfUptoCard : Claim7 := { stood := { row := shapesOfUptoRow, standIns := [], harness := (true, "1264c424047d960cee8013daa35bd8e3d9025230ccf64f38f2921cefb17c3fe1"), looks := false }, kinds := [], alts := [], laidByText := true, laidKinds := [.data], laidTests := true, laidLooks := .later }
def ShapesOfUptoCardSaid : Prop := Claim7.holds Tryd.pinned (.plain (OpenSpec.upto shapesOfSpec)) shapesOfUptoCard

/-- THE SECOND FORM's CARD OF 'ganseylaw19.ShapesKnown'. -/
def shapesKnownUptoCard : Claim7 := { stood := { row := shapesKnownUptoRow, standIns := [], harness := (true, "1264c424047d960cee8013daa35bd8e3d9025230ccf64f38f2921cefb17c3fe1"), looks := false }, kinds := [], alts := [], laidByText := true, laidKinds := [.data], laidTests := true, laidLooks := .later }
def ShapesKnownUptoCardSaid : Prop := Claim7.holds Tryd.pinned (.plain (OpenSpec.upto shapesKnownSpec)) shapesKnownUptoCard
end Rows
end Go.Proofs.YtinijapkipeamaaDoor
