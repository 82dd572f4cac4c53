/-
  DERIVED. GIVEN WITH THE SEED: THE CARDS: each row of YtkolebjpeaigcaaDoorRows.lean that lists a variable, with what it lists TIED to the program's text (the seventh form; the later family's looks); each row that meets fmt, with fmt's text TOLD by the authors' own Lean function (tested against real Go, not proved from fmt's source: count such statements apart). THE CARD IS WHAT COUNTS. Prove the row's statement (the work); the ties are given (YtkolebjpeaigcaaDoorTie.lean); close each card by the builder's one call (the guide's Derived/Test/ToyasCard.lean, 'card_holds'). Laid BY PROGRAM, IN A SANDBOX (cutbox-door.mjs). By AI agents, Wed Nov 11 2026. No macro, syntax, notation, axiom, sorry.
-/
import Derived.Test.YtkolebjpeaigcaaDoorRows
import GoSem.ClaimSeven
namespace Go.Proofs.YtkolebjpeaigcaaDoor
namespace Rows

/-- THE TIED CARD OF 'ganseylaw13.ChartsMake'. -/
def chartsMakeCard : Claim7 := { stood := { row := chartsMakeRow, standIns := [], harness := (true, "18a70c0172509917a508a85a0bdf48ff68c94412d8099887b44fd3aeb22e3de0"), looks := false }, kinds := [], alts := [], laidByText := true, laidKinds := [.data, .data, .pinned], laidTests := true, laidLooks := .later }
def ChartsMakeCardSaid : Prop := Claim7.holds Tryd.pinned (.plain (OpenSpec.ofChange chartsMakeSpec)) chartsMakeCard

/-- THE TIED CARD OF 'ganseylaw13.ChartsText'. -/
def chartsTextCard : Claim7 := { stood := { row := chartsTextRow, standIns := [], harness := (true, "18a70c0172509917a508a85a0bdf48ff68c94412d8099887b44fd3aeb22e3de0"), looks := false }, kinds := [], alts := [], laidByText := true, laidKinds := [.data, .data, .pinned], laidTests := true, laidLooks := .later }
def ChartsTextCardSaid : Prop := Claim7.holds Tryd.pinned (.plain (OpenSpec.ofChange chartsTextSpec)) chartsTextCard

/-- THE TIED CARD OF 'ganseylaw13.ChartsRow'. -/
def chartsRowCard : Claim7 := { stood := { row := chartsRowRow, standIns := [], harness := (true, "18a70c0172509917a508a85a0bdf48ff68c94412d8099887b44fd3aeb22e3de0"), looks := false }, kinds := [], alts := [], laidByText := true, laidKinds := [.data, .data, .pinned], laidTests := true, laidLooks := .later }
def ChartsRowCardSaid : Prop := Claim7.holds Tryd.pinned (.plain (OpenSpec.ofChange chartsRowSpec)) chartsRowCard

/-- THE TIED CARD OF 'ganseylaw13.ChartsSame'. -/
def chartsSameCard : Claim7 := { stood := { row := chartsSameRow, standIns := [], harness := (true, "18a70c0172509917a508a85a0bdf48ff68c94412d8099887b44fd3aeb22e3de0"), looks := false }, kinds := [], alts := [], laidByText := true, laidKinds := [.data, .data, .pinned], laidTests := true, laidLooks := .later }
def ChartsSameCardSaid : Prop := Claim7.holds Tryd.pinned (.plain (OpenSpec.ofChange chartsSameSpec)) chartsSameCard

/-- THE TIED CARD OF 'ganseylaw13.ChartsCheck'. -/
def chartsCheckCard : Claim7 := { stood := { row := chartsCheckRow, standIns := [], harness := (true, "18a70c0172509917a508a85a0bdf48ff68c94412d8099887b44fd3aeb22e3de0"), looks := false }, kinds := [], alts := [], laidByText := true, laidKinds := [.data, .data, .pinned], laidTests := true, laidLooks := .later }
def ChartsCheckCardSaid : Prop := Claim7.holds Tryd.pinned (.plain (OpenSpec.ofChange chartsCheckSpec)) chartsCheckCard

/-- THE TIED CARD OF 'ganseylaw13.ChartsMirror'. -/
def chartsMirrorCard : Claim7 := { stood := { row := chartsMirrorRow, standIns := [], harness := (true, "18a70c0172509917a508a85a0bdf48ff68c94412d8099887b44fd3aeb22e3de0"), looks := false }, kinds := [], alts := [], laidByText := true, laidKinds := [.data, .data, .pinned], laidTests := true, laidLooks := .later }
def ChartsMirrorCardSaid : Prop := Claim7.holds Tryd.pinned (.plain (OpenSpec.ofChange chartsMirrorSpec)) chartsMirrorCard

/-- THE SECOND FORM's CARD OF 'ganseylaw13.ChartsMake'. -/
def chartsMakeUptoCard : Claim7 := { stood := { row := chartsMakeUptoRow, standIns := [], harness := (true, "18a70c0172509917a508a85a0bdf48ff68c94412d8099887b44fd3aeb22e3de0"), looks := false }, kinds := [], alts := [], laidByText := true, laidKinds := [.data, .data, .pinned], laidTests := true, laidLooks := .later }
def ChartsMakeUptoCardSaid : Prop := Claim7.holds Tryd.pinned (.plain (OpenSpec.upto chartsMakeSpec)) chartsMakeUptoCard

/-- THE SECOND FORM's CARD OF 'ganseylaw13.ChartsText'. -/
def chartsTextUptoCard : Claim7 := { stood := { row := chartsTextUptoRow, standIns := [], harness := (true, "18a70c0172509917a508a85a0bdf48ff68c94412d8099887b44fd3aeb22e3de0"), looks := false }, kinds := [], alts := [], laidByText := true, laidKinds := [.data, .data, .pinned], laidTests := true, laidLooks := .later }
def ChartsTextUptoCardSaid : Prop := Claim7.holds Tryd.pinned (.plain (OpenSpec.upto chartsTextSpec)) chartsTextUptoCard

/-- THE SECOND FORM's CARD OF 'ganseylaw13.ChartsRow'. -/
def chartsRowUptoCard : Claim7 := { stood := { row := chartsRowUptoRow, standIns := [], harness := (true, "18a70c0172509917a508a85a0bdf48ff68c94412d8099887b44fd3aeb22e3de0"), looks := false }, kinds := [], alts := [], laidByText := true, laidKinds := [.data, .data, .pinned], laidTests := true, laidLooks := .later }
def ChartsRowUptoCardSaid : Prop := Claim7.holds Tryd.pinned (.plain (OpenSpec.upto chartsRowSpec)) chartsRowUptoCard

/-- THE SECOND FORM's CARD OF 'ganseylaw13.ChartsSame'. -/
def chartsSameUptoCard : Claim7 := { stood := { row := chartsSameUptoRow, standIns := [], harness := (true, "18a70c0172509917a508a85a0bdf48ff68c94412d8099887b44fd3aeb22e3de0"), looks := false }, kinds := [], alts := [], laidByText := true, laidKinds := [.data, .data, .pinned], laidTests := true, laidLooks := .later }
def ChartsSameUptoCardSaid : Prop := Claim7.holds Tryd.pinned (.plain (OpenSpec.upto chartsSameSpec)) chartsSameUptoCard

/-- THE SECOND FORM's CARD OF 'ganseylaw13.ChartsCheck'. -/
def chartsCheckUptoCard : Claim7 := { stood := { row := chartsCheckUptoRow, standIns := [], harness := (true, "18a70c0172509917a508a85a0bdf48ff68c94412d8099887b44fd3aeb22e3de0"), looks := false }, kinds := [], alts := [], laidByText := true, laidKinds := [.data, .data, .pinned], laidTests := true, laidLooks := .later }
def ChartsCheckUptoCardSaid : Prop := Claim7.holds Tryd.pinned (.plain (OpenSpec.upto chartsCheckSpec)) chartsCheckUptoCard

/-- THE SECOND FORM's CARD OF 'ganseylaw13.ChartsMirror'. -/
def chartsMirrorUptoCard : Claim7 := { stood := { row := chartsMirrorUptoRow, standIns := [], harness := (true, "18a70c0172509917a508a85a0bdf48ff68c94412d8099887b44fd3aeb22e3de0"), looks := false }, kinds := [], alts := [], laidByText := true, laidKinds := [.data, .data, .pinned], laidTests := true, laidLooks := .later }
def ChartsMirrorUptoCardSaid : Prop := Claim7.holds Tryd.pinned (.plain (OpenSpec.upto chartsMirrorSpec)) chartsMirrorUptoCard
end Rows
end Go.Proofs.YtkolebjpeaigcaaDoor
