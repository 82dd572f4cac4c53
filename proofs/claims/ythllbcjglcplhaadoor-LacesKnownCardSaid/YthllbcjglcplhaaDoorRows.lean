/-
  NARROWER THAN 'FOR EVERY INPUT', by the rows' own cells (each row's printed sentence says how): LacesCheck: laid · LacesOf: laid · LacesShift: laid · LacesChart: laid · LacesPairs: laid · LacesMirror: laid · LacesText: laid · LacesKnown: laid.
  DERIVED. THE GIVEN ROWS OF THIS SEAT. 8 by the template 'for every input the law returns true; each argument reads behind the call as it read before'; 0 by the template 'total and deterministic' (their statements: YthllbcjglcplhaaDoorTotals.lean).
  GIVEN WITH THE SEED: the statements are not yours to turn. If you find one false, say at which input.
  Laid BY PROGRAM, IN A SANDBOX (cutbox-rows.mjs): the forced cells as the released guide's own fill.sh prints them over the translation 49e55e96ae1a4c30… (all of the seat's roots in one cut). By AI agents, Wed Nov 11 2026. No macro, syntax, notation, axiom, sorry.
-/
import Derived.Test.YthllbcjglcplhaaDoorChecked
import GoSem.Claim
import GoSem.ClaimJoined
import GoSem.ClaimMapViews
import Derived.JoinedTies
import Derived.KernelRfl
namespace Go.Proofs.YthllbcjglcplhaaDoor
/- THE CELL 'sum', in the pinned program and in every row, IS THE sha256 OF THE DUMP (.gsa) THAT YthllbcjglcplhaaDoorProg.lean LOADS. Nothing in Lean hashes anything: it is a label: what it is worth is what the hold of that sum in a sandbox is worth. -/
noncomputable def Tryd.pinned : Pinned := { name := "ythllbcjglcplhaadoor", sum := "49e55e96ae1a4c30b016d426480d014b53ca27cf7fb46369bfe9226b895a18a2", checked := Tryd.checked }
namespace Rows
def none {H : Type} : Left H := { results := [], args := [] }

/- WHAT THE LISTED PACKAGE-LEVEL VARIABLES READ AS WHEN THE CALL BEGINS. Each datum BY PROGRAM (the guide's laid-datum.mjs) off the statement by which the dump's own 'gosem.cut.vars' lays the variable. In a bare row this is a premise. The card (YthllbcjglcplhaaDoorCards.lean) ties it to the program's text. -/
def laid_gansey_stitches_symbols {H : Type} : DataW H := .agg [.lit (.int .u8 107), .lit (.int .u8 112), .lit (.int .u8 111), .lit (.int .u8 47), .lit (.int .u8 118), .lit (.int .u8 116), .lit (.int .u8 115), .lit (.int .u8 99)]

/-- 'ganseylaw20.LacesCheck': WHATEVER THE INPUT: true; the input reads as it did. -/
def lacesCheckSpec : ChangeSpec := { name := "lacesCheck", fn := fun _ => fun
  | [d1, d2, d3] => { results := [.lit (.bool true)], args := [d1, d2, d3] }
  | _ => none }
def lacesCheckRow : OpenClaim := { program := "ythllbcjglcplhaadoor", sum := "49e55e96ae1a4c30b016d426480d014b53ca27cf7fb46369bfe9226b895a18a2", func := "gansey/ganseylaw20.LacesCheck", spec := "lacesCheck", inPlace := ["internal/abi.NoEscape", "internal/bytealg.MakeNoZero"], unfollowed := true, recurses := true, named := ["gansey/stitches.symbols"], apart := false, laid := [("gansey/stitches.symbols", laid_gansey_stitches_symbols)] }
def LacesCheckSaid : Prop := lacesCheckRow.holds Tryd.pinned (OpenSpec.ofChange lacesCheckSpec)

/-- ITS FALSE NEIGHBOUR: 'it returns false'. Refute it at one input. -/
def lacesCheckWrong : ChangeSpec := { name := "lacesCheck", fn := fun _ => fun
  | [d1, d2, d3] => { results := [.lit (.bool false)], args := [d1, d2, d3] }
  | _ => none }
def LacesCheckWrongFalsely : Prop := lacesCheckRow.holds Tryd.pinned (OpenSpec.ofChange lacesCheckWrong)

/-- 'ganseylaw20.LacesOf': WHATEVER THE INPUT: true; the input reads as it did. -/
def lacesOfSpec : ChangeSpec := { name := "lacesOf", fn := fun _ => fun
  | [d] => { results := [.lit (.bool true)], args := [d] }
  | _ => none }
def lacesOfRow : OpenClaim := { program := "ythllbcjglcplhaadoor", sum := "49e55e96ae1a4c30b016d426480d014b53ca27cf7fb46369bfe9226b895a18a2", func := "gansey/ganseylaw20.LacesOf", spec := "lacesOf", inPlace := ["internal/abi.NoEscape", "internal/bytealg.MakeNoZero"], unfollowed := true, recurses := true, named := ["gansey/stitches.symbols"], apart := false, laid := [("gansey/stitches.symbols", laid_gansey_stitches_symbols)] }
def LacesOfSaid : Prop := lacesOfRow.holds Tryd.pinned (OpenSpec.ofChange lacesOfSpec)

/-- ITS FALSE NEIGHBOUR: 'it returns false'. Refute it at one input. -/
def lacesOfWrong : ChangeSpec := { name := "lacesOf", fn := fun _ => fun
  | [d] => { results := [.lit (.bool false)], args := [d] }
  | _ => none }
def LacesOfWrongFalsely : Prop := lacesOfRow.holds Tryd.pinned (OpenSpec.ofChange lacesOfWrong)

/-- 'ganseylaw20.LacesShift': WHATEVER THE INPUT: true; the input reads as it did. -/
def lacesShiftSpec : ChangeSpec := { name := "lacesShift", fn := fun _ => fun
  | [d1, d2] => { results := [.lit (.bool true)], args := [d1, d2] }
  | _ => none }
def lacesShiftRow : OpenClaim := { program := "ythllbcjglcplhaadoor", sum := "49e55e96ae1a4c30b016d426480d014b53ca27cf7fb46369bfe9226b895a18a2", func := "gansey/ganseylaw20.LacesShift", spec := "lacesShift", inPlace := ["internal/abi.NoEscape", "internal/bytealg.MakeNoZero"], unfollowed := true, recurses := true, named := ["gansey/stitches.symbols"], apart := false, laid := [("gansey/stitches.symbols", laid_gansey_stitches_symbols)] }
def LacesShiftSaid : Prop := lacesShiftRow.holds Tryd.pinned (OpenSpec.ofChange lacesShiftSpec)

/-- ITS FALSE NEIGHBOUR: 'it returns false'. Refute it at one input. -/
def lacesShiftWrong : ChangeSpec := { name := "lacesShift", fn := fun _ => fun
  | [d1, d2] => { results := [.lit (.bool false)], args := [d1, d2] }
  | _ => none }
def LacesShiftWrongFalsely : Prop := lacesShiftRow.holds Tryd.pinned (OpenSpec.ofChange lacesShiftWrong)

/-- 'ganseylaw20.LacesChart': WHATEVER THE INPUT: true; the input reads as it did. -/
def lacesChartSpec : ChangeSpec := { name := "lacesChart", fn := fun _ => fun
  | [d1, d2] => { results := [.lit (.bool true)], args := [d1, d2] }
  | _ => none }
def lacesChartRow : OpenClaim := { program := "ythllbcjglcplhaadoor", sum := "49e55e96ae1a4c30b016d426480d014b53ca27cf7fb46369bfe9226b895a18a2", func := "gansey/ganseylaw20.LacesChart", spec := "lacesChart", inPlace := ["internal/abi.NoEscape", "internal/bytealg.MakeNoZero"], unfollowed := true, recurses := true, named := ["gansey/stitches.symbols"], apart := false, laid := [("gansey/stitches.symbols", laid_gansey_stitches_symbols)] }
def LacesChartSaid : Prop := lacesChartRow.holds Tryd.pinned (OpenSpec.ofChange lacesChartSpec)

/-- ITS FALSE NEIGHBOUR: 'it returns false'. Refute it at one input. -/
def lacesChartWrong : ChangeSpec := { name := "lacesChart", fn := fun _ => fun
  | [d1, d2] => { results := [.lit (.bool false)], args := [d1, d2] }
  | _ => none }
def LacesChartWrongFalsely : Prop := lacesChartRow.holds Tryd.pinned (OpenSpec.ofChange lacesChartWrong)

/-- 'ganseylaw20.LacesPairs': WHATEVER THE INPUT: true; the input reads as it did. -/
def lacesPairsSpec : ChangeSpec := { name := "lacesPairs", fn := fun _ => fun
  | [d] => { results := [.lit (.bool true)], args := [d] }
  | _ => none }
def lacesPairsRow : OpenClaim := { program := "ythllbcjglcplhaadoor", sum := "49e55e96ae1a4c30b016d426480d014b53ca27cf7fb46369bfe9226b895a18a2", func := "gansey/ganseylaw20.LacesPairs", spec := "lacesPairs", inPlace := ["internal/abi.NoEscape", "internal/bytealg.MakeNoZero"], unfollowed := true, recurses := true, named := ["gansey/stitches.symbols"], apart := false, laid := [("gansey/stitches.symbols", laid_gansey_stitches_symbols)] }
def LacesPairsSaid : Prop := lacesPairsRow.holds Tryd.pinned (OpenSpec.ofChange lacesPairsSpec)

/-- ITS FALSE NEIGHBOUR: 'it returns false'. Refute it at one input. -/
def lacesPairsWrong : ChangeSpec := { name := "lacesPairs", fn := fun _ => fun
  | [d] => { results := [.lit (.bool false)], args := [d] }
  | _ => none }
def LacesPairsWrongFalsely : Prop := lacesPairsRow.holds Tryd.pinned (OpenSpec.ofChange lacesPairsWrong)

/-- 'ganseylaw20.LacesMirror': WHATEVER THE INPUT: true; the input reads as it did. -/
def lacesMirrorSpec : ChangeSpec := { name := "lacesMirror", fn := fun _ => fun
  | [d] => { results := [.lit (.bool true)], args := [d] }
  | _ => none }
def lacesMirrorRow : OpenClaim := { program := "ythllbcjglcplhaadoor", sum := "49e55e96ae1a4c30b016d426480d014b53ca27cf7fb46369bfe9226b895a18a2", func := "gansey/ganseylaw20.LacesMirror", spec := "lacesMirror", inPlace := ["internal/abi.NoEscape", "internal/bytealg.MakeNoZero"], unfollowed := true, recurses := true, named := ["gansey/stitches.symbols"], apart := false, laid := [("gansey/stitches.symbols", laid_gansey_stitches_symbols)] }
def LacesMirrorSaid : Prop := lacesMirrorRow.holds Tryd.pinned (OpenSpec.ofChange lacesMirrorSpec)

/-- ITS FALSE NEIGHBOUR: 'it returns false'. Refute it at one input. -/
def lacesMirrorWrong : ChangeSpec := { name := "lacesMirror", fn := fun _ => fun
  | [d] => { results := [.lit (.bool false)], args := [d] }
  | _ => none }
def LacesMirrorWrongFalsely : Prop := lacesMirrorRow.holds Tryd.pinned (OpenSpec.ofChange lacesMirrorWrong)

/-- 'ganseylaw20.LacesText': WHATEVER THE INPUT: true; the input reads as it did. -/
def lacesTextSpec : ChangeSpec := { name := "lacesText", fn := fun _ => fun
  | [d1, d2] => { results := [.lit (.bool true)], args := [d1, d2] }
  | _ => none }
def lacesTextRow : OpenClaim := { program := "ythllbcjglcplhaadoor", sum := "49e55e96ae1a4c30b016d426480d014b53ca27cf7fb46369bfe9226b895a18a2", func := "gansey/ganseylaw20.LacesText", spec := "lacesText", inPlace := ["internal/bytealg.IndexByteString", "internal/bytealg.IndexString", "internal/abi.NoEscape", "internal/bytealg.MakeNoZero"], unfollowed := true, recurses := true, named := ["internal/bytealg.MaxLen", "gansey/stitches.symbols"], apart := false, laid := [("gansey/stitches.symbols", laid_gansey_stitches_symbols)] }
def LacesTextSaid : Prop := lacesTextRow.holds Tryd.pinned (OpenSpec.ofChange lacesTextSpec)

/-- ITS FALSE NEIGHBOUR: 'it returns false'. Refute it at one input. -/
def lacesTextWrong : ChangeSpec := { name := "lacesText", fn := fun _ => fun
  | [d1, d2] => { results := [.lit (.bool false)], args := [d1, d2] }
  | _ => none }
def LacesTextWrongFalsely : Prop := lacesTextRow.holds Tryd.pinned (OpenSpec.ofChange lacesTextWrong)

/-- 'ganseylaw20.LacesKnown': WHATEVER THE INPUT: true; the input reads as it did. -/
def lacesKnownSpec : ChangeSpec := { name := "lacesKnown", fn := fun _ => fun
  | [] => { results := [.lit (.bool true)], args := [] }
  | _ => none }
def lacesKnownRow : OpenClaim := { program := "ythllbcjglcplhaadoor", sum := "49e55e96ae1a4c30b016d426480d014b53ca27cf7fb46369bfe9226b895a18a2", func := "gansey/ganseylaw20.LacesKnown", spec := "lacesKnown", inPlace := ["internal/abi.NoEscape", "internal/bytealg.MakeNoZero", "internal/bytealg.IndexByteString", "internal/bytealg.IndexString"], unfollowed := true, recurses := true, named := ["gansey/stitches.symbols", "internal/bytealg.MaxLen"], apart := false, laid := [("gansey/stitches.symbols", laid_gansey_stitches_symbols)] }
def LacesKnownSaid : Prop := lacesKnownRow.holds Tryd.pinned (OpenSpec.ofChange lacesKnownSpec)

/-- ITS FALSE NEIGHBOUR: 'it returns false'. Refute it at one input. -/
def lacesKnownWrong : ChangeSpec := { name := "lacesKnown", fn := fun _ => fun
  | [] => { results := [.lit (.bool false)], args := [] }
  | _ => none }
def LacesKnownWrongFalsely : Prop := lacesKnownRow.holds Tryd.pinned (OpenSpec.ofChange lacesKnownWrong)

/- THE SECOND FORM. 'bulk': how many values and letters a reading holds, each counted each time it is reached (what is shared counts as often as it is met; a slice's spare places count too). A statement '..UptoSaid' is the law's where the arguments, and the package variables that the reading takes, are together of bulk at most 1048576: NARROWER than '..Said'. Prove '..Said' where nothing that the law and all that it calls make is longer than what came in: it says more and counts as full. Else prove '..UptoSaid'. A law counts once. -/
mutual
def uptoBulk {H : Type} : DataW H → Nat
  | .lit (.string bytes) => bytes.length + 1
  | .lit _ => 1
  | .nil => 1
  | .ptr d => uptoBulk d + 1
  | .slice elems spare => uptoBulkAll elems + uptoBulkAll spare + 1
  | .agg parts => uptoBulkAll parts + 1
  | .iface _ d => uptoBulk d + 1
  | .map entries => uptoBulkEntries entries + 1
  | .held _ => 1
def uptoBulkAll {H : Type} : List (DataW H) → Nat
  | [] => 0
  | d :: r => uptoBulk d + uptoBulkAll r
def uptoBulkEntries {H : Type} : List (Lit × DataW H) → Nat
  | [] => 0
  | x :: r => uptoBulkEntry x + uptoBulkEntries r
def uptoBulkEntry {H : Type} : Lit × DataW H → Nat
  | (.string bytes, d) => bytes.length + uptoBulk d + 1
  | (_, d) => uptoBulk d + 1
 end
def uptoSmall : (H : Type) → List (DataW H) → Bool := fun _ ds => decide (uptoBulkAll ds ≤ 1048576)
def OpenSpec.upto (s : _root_.Go.ChangeSpec) : _root_.Go.OpenSpec := { _root_.Go.OpenSpec.ofChange s with cond := some uptoSmall }

/-- 'ganseylaw20.LacesCheck', WHERE WHAT IT READS IS OF BULK AT MOST 1048576: true; the input reads as it did. -/
def lacesCheckUptoRow : OpenClaim := { program := "ythllbcjglcplhaadoor", sum := "49e55e96ae1a4c30b016d426480d014b53ca27cf7fb46369bfe9226b895a18a2", func := "gansey/ganseylaw20.LacesCheck", spec := "lacesCheck", inPlace := ["internal/abi.NoEscape", "internal/bytealg.MakeNoZero"], unfollowed := true, recurses := true, named := ["gansey/stitches.symbols"], apart := false, laid := [("gansey/stitches.symbols", laid_gansey_stitches_symbols)], narrowed := true }
def LacesCheckUptoSaid : Prop := lacesCheckUptoRow.holds Tryd.pinned (OpenSpec.upto lacesCheckSpec)

/-- 'ganseylaw20.LacesOf', WHERE WHAT IT READS IS OF BULK AT MOST 1048576: true; the input reads as it did. -/
def lacesOfUptoRow : OpenClaim := { program := "ythllbcjglcplhaadoor", sum := "49e55e96ae1a4c30b016d426480d014b53ca27cf7fb46369bfe9226b895a18a2", func := "gansey/ganseylaw20.LacesOf", spec := "lacesOf", inPlace := ["internal/abi.NoEscape", "internal/bytealg.MakeNoZero"], unfollowed := true, recurses := true, named := ["gansey/stitches.symbols"], apart := false, laid := [("gansey/stitches.symbols", laid_gansey_stitches_symbols)], narrowed := true }
def LacesOfUptoSaid : Prop := lacesOfUptoRow.holds Tryd.pinned (OpenSpec.upto lacesOfSpec)

/-- 'ganseylaw20.LacesShift', WHERE WHAT IT READS IS OF BULK AT MOST 1048576: true; the input reads as it did. -/
def lacesShiftUptoRow : OpenClaim := { program := "ythllbcjglcplhaadoor", sum := "49e55e96ae1a4c30b016d426480d014b53ca27cf7fb46369bfe9226b895a18a2", func := "gansey/ganseylaw20.LacesShift", spec := "lacesShift", inPlace := ["internal/abi.NoEscape", "internal/bytealg.MakeNoZero"], unfollowed := true, recurses := true, named := ["gansey/stitches.symbols"], apart := false, laid := [("gansey/stitches.symbols", laid_gansey_stitches_symbols)], narrowed := true }
def LacesShiftUptoSaid : Prop := lacesShiftUptoRow.holds Tryd.pinned (OpenSpec.upto lacesShiftSpec)

/-- 'ganseylaw20.LacesChart', WHERE WHAT IT READS IS OF BULK AT MOST 1048576: true; the input reads as it did. -/
def lacesChartUptoRow : OpenClaim := { program := "ythllbcjglcplhaadoor", sum := "49e55e96ae1a4c30b016d426480d014b53ca27cf7fb46369bfe9226b895a18a2", func := "gansey/ganseylaw20.LacesChart", spec := "lacesChart", inPlace := ["internal/abi.NoEscape", "internal/bytealg.MakeNoZero"], unfollowed := true, recurses := true, named := ["gansey/stitches.symbols"], apart := false, laid := [("gansey/stitches.symbols", laid_gansey_stitches_symbols)], narrowed := true }
def LacesChartUptoSaid : Prop := lacesChartUptoRow.holds Tryd.pinned (OpenSpec.upto lacesChartSpec)

/-- 'ganseylaw20.LacesPairs', WHERE WHAT IT READS IS OF BULK AT MOST 1048576: true; the input reads as it did. -/
def lacesPairsUptoRow : OpenClaim := { program := "ythllbcjglcplhaadoor", sum := "49e55e96ae1a4c30b016d426480d014b53ca27cf7fb46369bfe9226b895a18a2", func := "gansey/ganseylaw20.LacesPairs", spec := "lacesPairs", inPlace := ["internal/abi.NoEscape", "internal/bytealg.MakeNoZero"], unfollowed := true, recurses := true, named := ["gansey/stitches.symbols"], apart := false, laid := [("gansey/stitches.symbols", laid_gansey_stitches_symbols)], narrowed := true }
def LacesPairsUptoSaid : Prop := lacesPairsUptoRow.holds Tryd.pinned (OpenSpec.upto lacesPairsSpec)

/-- 'ganseylaw20.LacesMirror', WHERE WHAT IT READS IS OF BULK AT MOST 1048576: true; the input reads as it did. -/
def lacesMirrorUptoRow : OpenClaim := { program := "ythllbcjglcplhaadoor", sum := "49e55e96ae1a4c30b016d426480d014b53ca27cf7fb46369bfe9226b895a18a2", func := "gansey/ganseylaw20.LacesMirror", spec := "lacesMirror", inPlace := ["internal/abi.NoEscape", "internal/bytealg.MakeNoZero"], unfollowed := true, recurses := true, named := ["gansey/stitches.symbols"], apart := false, laid := [("gansey/stitches.symbols", laid_gansey_stitches_symbols)], narrowed := true }
def LacesMirrorUptoSaid : Prop := lacesMirrorUptoRow.holds Tryd.pinned (OpenSpec.upto lacesMirrorSpec)

/-- 'ganseylaw20.LacesText', WHERE WHAT IT READS IS OF BULK AT MOST 1048576: true; the input reads as it did. -/
def lacesTextUptoRow : OpenClaim := { program := "ythllbcjglcplhaadoor", sum := "49e55e96ae1a4c30b016d426480d014b53ca27cf7fb46369bfe9226b895a18a2", func := "gansey/ganseylaw20.LacesText", spec := "lacesText", inPlace := ["internal/bytealg.IndexByteString", "internal/bytealg.IndexString", "internal/abi.NoEscape", "internal/bytealg.MakeNoZero"], unfollowed := true, recurses := true, named := ["internal/bytealg.MaxLen", "gansey/stitches.symbols"], apart := false, laid := [("gansey/stitches.symbols", laid_gansey_stitches_symbols)], narrowed := true }
def LacesTextUptoSaid : Prop := lacesTextUptoRow.holds Tryd.pinned (OpenSpec.upto lacesTextSpec)

/-- 'ganseylaw20.LacesKnown', WHERE WHAT IT READS IS OF BULK AT MOST 1048576: true; the input reads as it did. -/
def lacesKnownUptoRow : OpenClaim := { program := "ythllbcjglcplhaadoor", sum := "49e55e96ae1a4c30b016d426480d014b53ca27cf7fb46369bfe9226b895a18a2", func := "gansey/ganseylaw20.LacesKnown", spec := "lacesKnown", inPlace := ["internal/abi.NoEscape", "internal/bytealg.MakeNoZero", "internal/bytealg.IndexByteString", "internal/bytealg.IndexString"], unfollowed := true, recurses := true, named := ["gansey/stitches.symbols", "internal/bytealg.MaxLen"], apart := false, laid := [("gansey/stitches.symbols", laid_gansey_stitches_symbols)], narrowed := true }
def LacesKnownUptoSaid : Prop := lacesKnownUptoRow.holds Tryd.pinned (OpenSpec.upto lacesKnownSpec)

end Rows
end Go.Proofs.YthllbcjglcplhaaDoor
