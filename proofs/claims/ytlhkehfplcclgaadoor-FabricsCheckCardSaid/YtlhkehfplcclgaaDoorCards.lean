/-
  DERIVED. GIVEN WITH THE SEED: THE CARDS: each row of YtlhkehfplcclgaaDoorRows.lean that lists a variable, with what it lists TIED to the program's text (the seventh form; the later family's looks); each row that meets fmt, with fmt's text TOLD by the authors' own Lean function (tested against real Go, not proved from fmt's source: count such statements apart). THE CARD IS WHAT COUNTS. Prove the row's statement (the work); the ties are given (YtlhkehfplcclgaaDoorTie.lean); close each card by the builder's one call (the guide's Derived/Test/ToyasCard.lean, 'card_holds'). Laid BY PROGRAM, IN A SANDBOX (cutbox-door.mjs). By AI agents, Wed Nov 11 2026. No macro, syntax, notation, axiom, sorry.
-/
import Derived.Test.YtlhkehfplcclgaaDoorRows
import GoSem.ClaimSeven
namespace Go.Proofs.YtlhkehfplcclgaaDoor
namespace Rows

/-- THE TIED CARD OF 'ganseylaw06.FabricsSame'. -/
def fabricsSameCard : Claim7 := { stood := { row := fabricsSameRow, standIns := [], harness := (true, "2f121610df7812c4604bde833b6bf07b359139e884c377c12cd4410b702ae27d"), looks := false }, kinds := [], alts := [], laidByText := true, laidKinds := [.data, .data, .data], laidTests := true, laidLooks := .later }
def FabricsSameCardSaid : Prop := Claim7.holds Tryd.pinned (.plain (OpenSpec.ofChange fabricsSameSpec)) fabricsSameCard

/-- THE TIED CARD OF 'ganseylaw06.FabricsCheck'. -/
def fabricsCheckCard : Claim7 := { stood := { row := fabricsCheckRow, standIns := [], harness := (true, "2f121610df7812c4604bde833b6bf07b359139e884c377c12cd4410b702ae27d"), looks := false }, kinds := [], alts := [], laidByText := true, laidKinds := [.data, .data, .data], laidTests := true, laidLooks := .later }
def FabricsCheckCardSaid : Prop := Claim7.holds Tryd.pinned (.plain (OpenSpec.ofChange fabricsCheckSpec)) fabricsCheckCard

/-- THE TIED CARD OF 'ganseylaw06.FabricsUndone'. -/
def fabricsUndoneCard : Claim7 := { stood := { row := fabricsUndoneRow, standIns := [], harness := (true, "2f121610df7812c4604bde833b6bf07b359139e884c377c12cd4410b702ae27d"), looks := false }, kinds := [], alts := [], laidByText := true, laidKinds := [.data, .data, .data], laidTests := true, laidLooks := .later }
def FabricsUndoneCardSaid : Prop := Claim7.holds Tryd.pinned (.plain (OpenSpec.ofChange fabricsUndoneSpec)) fabricsUndoneCard

/-- THE TIED CARD OF 'ganseylaw06.FabricsText'. -/
def fabricsTextCard : Claim7 := { stood := { row := fabricsTextRow, standIns := [], harness := (true, "2f121610df7812c4604bde833b6bf07b359139e884c377c12cd4410b702ae27d"), looks := false }, kinds := [], alts := [], laidByText := true, laidKinds := [.data, .data, .data], laidTests := true, laidLooks := .later }
def FabricsTextCardSaid : Prop := Claim7.holds Tryd.pinned (.plain (OpenSpec.ofChange fabricsTextSpec)) fabricsTextCard

/-- THE TIED CARD OF 'ganseylaw06.FabricsCompare'. -/
def fabricsCompareCard : Claim7 := { stood := { row := fabricsCompareRow, standIns := [], harness := (true, "2f121610df7812c4604bde833b6bf07b359139e884c377c12cd4410b702ae27d"), looks := false }, kinds := [], alts := [], laidByText := true, laidKinds := [.data, .data, .data], laidTests := true, laidLooks := .later }
def FabricsCompareCardSaid : Prop := Claim7.holds Tryd.pinned (.plain (OpenSpec.ofChange fabricsCompareSpec)) fabricsCompareCard

/-- THE TIED CARD OF 'ganseylaw06.FabricsCross'. -/
def fabricsCrossCard : Claim7 := { stood := { row := fabricsCrossRow, standIns := [], harness := (true, "2f121610df7812c4604bde833b6bf07b359139e884c377c12cd4410b702ae27d"), looks := false }, kinds := [], alts := [], laidByText := true, laidKinds := [.data, .data, .data], laidTests := true, laidLooks := .later }
def FabricsCrossCardSaid : Prop := Claim7.holds Tryd.pinned (.plain (OpenSpec.ofChange fabricsCrossSpec)) fabricsCrossCard

/-- THE SECOND FORM's CARD OF 'ganseylaw06.FabricsSame'. -/
def fabricsSameUptoCard : Claim7 := { stood := { row := fabricsSameUptoRow, standIns := [], harness := (true, "2f121610df7812c4604bde833b6bf07b359139e884c377c12cd4410b702ae27d"), looks := false }, kinds := [], alts := [], laidByText := true, laidKinds := [.data, .data, .data], laidTests := true, laidLooks := .later }
def FabricsSameUptoCardSaid : Prop := Claim7.holds Tryd.pinned (.plain (OpenSpec.upto fabricsSameSpec)) fabricsSameUptoCard

/-- THE SECOND FORM's CARD OF 'ganseylaw06.FabricsCheck'. -/
def fabricsCheckUptoCard : Claim7 := { stood := { row := fabricsCheckUptoRow, standIns := [], harness := (true, "2f121610df7812c4604bde833b6bf07b359139e884c377c12cd4410b702ae27d"), looks := false }, kinds := [], alts := [], laidByText := true, laidKinds := [.data, .data, .data], laidTests := true, laidLooks := .later }
def FabricsCheckUptoCardSaid : Prop := Claim7.holds Tryd.pinned (.plain (OpenSpec.upto fabricsCheckSpec)) fabricsCheckUptoCard

/-- THE SECOND FORM's CARD OF 'ganseylaw06.FabricsUndone'. -/
def fabricsUndoneUptoCard : Claim7 := { stood := { row := fabricsUndoneUptoRow, standIns := [], harness := (true, "2f121610df7812c4604bde833b6bf07b359139e884c377c12cd4410b702ae27d"), looks := false }, kinds := [], alts := [], laidByText := true, laidKinds := [.data, .data, .data], laidTests := true, laidLooks := .later }
def FabricsUndoneUptoCardSaid : Prop := Claim7.holds Tryd.pinned (.plain (OpenSpec.upto fabricsUndoneSpec)) fabricsUndoneUptoCard

/-- THE SECOND FORM's CARD OF 'ganseylaw06.FabricsText'. -/
def fabricsTextUptoCard : Claim7 := { stood := { row := fabricsTextUptoRow, standIns := [], harness := (true, "2f121610df7812c4604bde833b6bf07b359139e884c377c12cd4410b702ae27d"), looks := false }, kinds := [], alts := [], laidByText := true, laidKinds := [.data, .data, .data], laidTests := true, laidLooks := .later }
def FabricsTextUptoCardSaid : Prop := Claim7.holds Tryd.pinned (.plain (OpenSpec.upto fabricsTextSpec)) fabricsTextUptoCard

/-- THE SECOND FORM's CARD OF 'ganseylaw06.FabricsCompare'. -/
def fabricsCompareUptoCard : Claim7 := { stood := { row := fabricsCompareUptoRow, standIns := [], harness := (true, "2f121610df7812c4604bde833b6bf07b359139e884c377c12cd4410b702ae27d"), looks := false }, kinds := [], alts := [], laidByText := true, laidKinds := [.data, .data, .data], laidTests := true, laidLooks := .later }
def FabricsCompareUptoCardSaid : Prop := Claim7.holds Tryd.pinned (.plain (OpenSpec.upto fabricsCompareSpec)) fabricsCompareUptoCard

/-- THE SECOND FORM's CARD OF 'ganseylaw06.FabricsCross'. -/
def fabricsCrossUptoCard : Claim7 := { stood := { row := fabricsCrossUptoRow, standIns := [], harness := (true, "2f121610df7812c4604bde833b6bf07b359139e884c377c12cd4410b702ae27d"), looks := false }, kinds := [], alts := [], laidByText := true, laidKinds := [.data, .data, .data], laidTests := true, laidLooks := .later }
def FabricsCrossUptoCardSaid : Prop := Claim7.holds Tryd.pinned (.plain (OpenSpec.upto fabricsCrossSpec)) fabricsCrossUptoCard
end Rows
end Go.Proofs.YtlhkehfplcclgaaDoor
