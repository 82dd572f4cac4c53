/-
  DERIVED. GIVEN WITH THE SEED: THE CARDS: each row of YtbappfeojdehgaaDoorRows.lean that lists a variable, with what it lists TIED to the program's text (the seventh form; the later family's looks); each row that meets fmt, with fmt's text TOLD by the authors' own Lean function (tested against real Go, not proved from fmt's source: count such statements apart). THE CARD IS WHAT COUNTS. Prove the row's statement (the work); the ties are given (YtbappfeojdehgaaDoorTie.lean); close each card by the builder's one call (the guide's Derived/Test/ToyasCard.lean, 'card_holds'). Laid BY PROGRAM, IN A SANDBOX (cutbox-door.mjs). By AI agents, Wed Nov 11 2026. No macro, syntax, notation, axiom, sorry.
-/
import Derived.Test.YtbappfeojdehgaaDoorRows
import GoSem.ClaimSeven
namespace Go.Proofs.YtbappfeojdehgaaDoor
namespace Rows

/-- THE TIED CARD OF 'ganseylaw24.WordsText'. -/
def wordsTextCard : Claim7 := { stood := { row := wordsTextRow, standIns := [], harness := (true, "181a2998f4ac6b13417ddae3ae91477b031eb6a2d275670b56e81ef363d06c90"), looks := false }, kinds := [], alts := [], laidByText := true, laidKinds := [.data, .data, .data, .data, .pinned], laidTests := true, laidLooks := .later }
def WordsTextCardSaid : Prop := Claim7.holds Tryd.pinned (.plain (OpenSpec.ofChange wordsTextSpec)) wordsTextCard

/-- THE TIED CARD OF 'ganseylaw24.WordsLong'. -/
def wordsLongCard : Claim7 := { stood := { row := wordsLongRow, standIns := [], harness := (true, "181a2998f4ac6b13417ddae3ae91477b031eb6a2d275670b56e81ef363d06c90"), looks := false }, kinds := [], alts := [], laidByText := true, laidKinds := [.data, .data, .data, .data, .pinned], laidTests := true, laidLooks := .later }
def WordsLongCardSaid : Prop := Claim7.holds Tryd.pinned (.plain (OpenSpec.ofChange wordsLongSpec)) wordsLongCard

/-- THE SECOND FORM's CARD OF 'ganseylaw24.WordsText'. -/
def wordsTextUptoCard : Claim7 := { stood := { row := wordsTextUptoRow, standIns := [], harness := (true, "181a2998f4ac6b13417ddae3ae91477b031eb6a2d275670b56e81ef363d06c90"), looks := false }, kinds := [], alts := [], laidByText := true, laidKinds := [.data, .data, .data, .data, .pinned], laidTests := true, laidLooks := .later }
def WordsTextUptoCardSaid : Prop := Claim7.holds Tryd.pinned (.plain (OpenSpec.upto wordsTextSpec)) wordsTextUptoCard

/-- THE SECOND FORM's CARD OF 'ganseylaw24.WordsLong'. -/
def wordsLongUptoCard : Claim7 := { stood := { row := wordsLongUptoRow, standIns := [], harness := (true, "181a2998f4ac6b13417ddae3ae91477b031eb6a2d275670b56e81ef363d06c90"), looks := false }, kinds := [], alts := [], laidByText := true, laidKinds := [.data, .data, .data, .data, .pinned], laidTests := true, laidLooks := .later }
def WordsLongUptoCardSaid : Prop := Claim7.holds Tryd.pinned (.plain (OpenSpec.upto wordsLongSpec)) wordsLongUptoCard
end Rows
end Go.Proofs.YtbappfeojdehgaaDoor
