/-
  DERIVED. GIVEN WITH THE SEED: THE CARDS: each row of YtigffblelngpjaaDoorRows.lean that lists a variable, with what it lists TIED to the program's text (the seventh form; the later family's looks); each row that meets fmt, with fmt's text TOLD by the authors' own Lean function (tested against real Go, not proved from fmt's source: count such statements apart). THE CARD IS WHAT COUNTS. Prove the row's statement (the work); the ties are given (YtigffblelngpjaaDoorTie.lean); close each card by the builder's one call (the guide's Derived/Test/ToyasCard.lean, 'card_holds'). Laid BY PROGRAM, IN A SANDBOX (cutbox-door.mjs). By AI agents, Wed Nov 11 2026. No macro, syntax, notation, axiom, sorry.
-/
import Derived.Test.YtigffblelngpjaaDoorRows
import GoSem.ClaimSeven
namespace Go.Proofs.YtigffblelngpjaaDoor
namespace Rows

/-- THE TIED CARD OF 'ganseylaw25.NormalsMoves'. -/
def normalsMovesCard : Claim7 := { stood := { row := normalsMovesRow, standIns := [], harness := (true, "f3367dc590a0df62e9c548e469c836a7698308af0d21eac4e0725f5b7622e18d"), looks := false }, kinds := [], alts := [], laidByText := true, laidKinds := [.data, .data, .data], laidTests := true, laidLooks := .later }
def NormalsMovesCardSaid : Prop := Claim7.holds Tryd.pinned (.plain (OpenSpec.ofChange normalsMovesSpec)) normalsMovesCard

/-- THE TIED CARD OF 'ganseylaw25.NormalsEqual'. -/
def normalsEqualCard : Claim7 := { stood := { row := normalsEqualRow, standIns := [], harness := (true, "f3367dc590a0df62e9c548e469c836a7698308af0d21eac4e0725f5b7622e18d"), looks := false }, kinds := [], alts := [], laidByText := true, laidKinds := [.data, .data, .data], laidTests := true, laidLooks := .later }
def NormalsEqualCardSaid : Prop := Claim7.holds Tryd.pinned (.plain (OpenSpec.ofChange normalsEqualSpec)) normalsEqualCard

/-- THE TIED CARD OF 'ganseylaw25.NormalsTimes'. -/
def normalsTimesCard : Claim7 := { stood := { row := normalsTimesRow, standIns := [], harness := (true, "f3367dc590a0df62e9c548e469c836a7698308af0d21eac4e0725f5b7622e18d"), looks := false }, kinds := [], alts := [], laidByText := true, laidKinds := [.data, .data, .data], laidTests := true, laidLooks := .later }
def NormalsTimesCardSaid : Prop := Claim7.holds Tryd.pinned (.plain (OpenSpec.ofChange normalsTimesSpec)) normalsTimesCard

/-- THE TIED CARD OF 'ganseylaw25.NormalsCycle'. -/
def normalsCycleCard : Claim7 := { stood := { row := normalsCycleRow, standIns := [], harness := (true, "f3367dc590a0df62e9c548e469c836a7698308af0d21eac4e0725f5b7622e18d"), looks := false }, kinds := [], alts := [], laidByText := true, laidKinds := [.data, .data, .data], laidTests := true, laidLooks := .later }
def NormalsCycleCardSaid : Prop := Claim7.holds Tryd.pinned (.plain (OpenSpec.ofChange normalsCycleSpec)) normalsCycleCard

/-- THE TIED CARD OF 'ganseylaw25.NormalsForm'. -/
def normalsFormCard : Claim7 := { stood := { row := normalsFormRow, standIns := [], harness := (true, "f3367dc590a0df62e9c548e469c836a7698308af0d21eac4e0725f5b7622e18d"), looks := false }, kinds := [], alts := [], laidByText := true, laidKinds := [.data, .data, .data], laidTests := true, laidLooks := .later }
def NormalsFormCardSaid : Prop := Claim7.holds Tryd.pinned (.plain (OpenSpec.ofChange normalsFormSpec)) normalsFormCard

/-- THE SECOND FORM's CARD OF 'ganseylaw25.NormalsMoves'. -/
def normalsMovesUptoCard : Claim7 := { stood := { row := normalsMovesUptoRow, standIns := [], harness := (true, "f3367dc590a0df62e9c548e469c836a7698308af0d21eac4e0725f5b7622e18d"), looks := false }, kinds := [], alts := [], laidByText := true, laidKinds := [.data, .data, .data], laidTests := true, laidLooks := .later }
def NormalsMovesUptoCardSaid : Prop := Claim7.holds Tryd.pinned (.plain (OpenSpec.upto normalsMovesSpec)) normalsMovesUptoCard

/-- THE SECOND FORM's CARD OF 'ganseylaw25.NormalsEqual'. -/
def normalsEqualUptoCard : Claim7 := { stood := { row := normalsEqualUptoRow, standIns := [], harness := (true, "f3367dc590a0df62e9c548e469c836a7698308af0d21eac4e0725f5b7622e18d"), looks := false }, kinds := [], alts := [], laidByText := true, laidKinds := [.data, .data, .data], laidTests := true, laidLooks := .later }
def NormalsEqualUptoCardSaid : Prop := Claim7.holds Tryd.pinned (.plain (OpenSpec.upto normalsEqualSpec)) normalsEqualUptoCard

/-- THE SECOND FORM's CARD OF 'ganseylaw25.NormalsTimes'. -/
def normalsTimesUptoCard : Claim7 := { stood := { row := normalsTimesUptoRow, standIns := [], harness := (true, "f3367dc590a0df62e9c548e469c836a7698308af0d21eac4e0725f5b7622e18d"), looks := false }, kinds := [], alts := [], laidByText := true, laidKinds := [.data, .data, .data], laidTests := true, laidLooks := .later }
def NormalsTimesUptoCardSaid : Prop := Claim7.holds Tryd.pinned (.plain (OpenSpec.upto normalsTimesSpec)) normalsTimesUptoCard

/-- THE SECOND FORM's CARD OF 'ganseylaw25.NormalsCycle'. -/
def normalsCycleUptoCard : Claim7 := { stood := { row := normalsCycleUptoRow, standIns := [], harness := (true, "f3367dc590a0df62e9c548e469c836a7698308af0d21eac4e0725f5b7622e18d"), looks := false }, kinds := [], alts := [], laidByText := true, laidKinds := [.data, .data, .data], laidTests := true, laidLooks := .later }
def NormalsCycleUptoCardSaid : Prop := Claim7.holds Tryd.pinned (.plain (OpenSpec.upto normalsCycleSpec)) normalsCycleUptoCard

/-- THE SECOND FORM's CARD OF 'ganseylaw25.NormalsForm'. -/
def normalsFormUptoCard : Claim7 := { stood := { row := normalsFormUptoRow, standIns := [], harness := (true, "f3367dc590a0df62e9c548e469c836a7698308af0d21eac4e0725f5b7622e18d"), looks := false }, kinds := [], alts := [], laidByText := true, laidKinds := [.data, .data, .data], laidTests := true, laidLooks := .later }
def NormalsFormUptoCardSaid : Prop := Claim7.holds Tryd.pinned (.plain (OpenSpec.upto normalsFormSpec)) normalsFormUptoCard
end Rows
end Go.Proofs.YtigffblelngpjaaDoor
