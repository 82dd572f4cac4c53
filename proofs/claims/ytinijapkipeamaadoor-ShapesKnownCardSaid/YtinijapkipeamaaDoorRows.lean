/-
  NARROWER THAN 'FOR EVERY INPUT', by the rows' own cells (each row's printed sentence says how): ShapesCheck: laid · ShapesSlope: laid · ShapesBack: laid · ShapesArea: laid · ShapesJoin: laid · ShapesChart: laid · ShapesOf: laid · ShapesKnown: laid.
  DERIVED. THE GIVEN ROWS OF THIS SEAT. 8 by the template 'for every input the law returns true; each argument reads behind the call as it read before'; 0 by the template 'total and deterministic' (their statements: YtinijapkipeamaaDoorTotals.lean).
  GIVEN WITH THE SEED: the statements are not yours to turn. If you find one false, say at which input.
  Laid BY PROGRAM, IN A SANDBOX (cutbox-rows.mjs): the forced cells as the released guide's own fill.sh prints them over the translation 5e2550e6e9a0f015… (all of the seat's roots in one cut). By AI agents, Wed Nov 11 2026. No macro, syntax, notation, axiom, sorry.
-/
import Derived.Test.YtinijapkipeamaaDoorChecked
import GoSem.Claim
import GoSem.ClaimJoined
import GoSem.ClaimMapViews
import Derived.JoinedTies
import Derived.KernelRfl
namespace Go.Proofs.YtinijapkipeamaaDoor
/- THE CELL 'sum', in the pinned program and in every row, IS THE sha256 OF THE DUMP (.gsa) THAT YtinijapkipeamaaDoorProg.lean LOADS. Nothing in Lean hashes anything: it is a label: what it is worth is what the hold of that sum in a sandbox is worth. -/
noncomputable def Tryd.pinned : Pinned := { name := "ytinijapkipeamaadoor", sum := "5e2550e6e9a0f015d6b300ab97ba0cc2dd6c201bfb65e09c446a7e2d54a17d7a", checked := Tryd.checked }
namespace Rows
def none {H : Type} : Left H := { results := [], args := [] }

/- WHAT THE LISTED PACKAGE-LEVEL VARIABLES READ AS WHEN THE CALL BEGINS. Each datum BY PROGRAM (the guide's laid-datum.mjs) off the statement by which the dump's own 'gosem.cut.vars' lays the variable. In a bare row this is a premise. The card (YtinijapkipeamaaDoorCards.lean) ties it to the program's text. -/
def laid_gansey_stitches_symbols {H : Type} : DataW H := .agg [.lit (.int .u8 107), .lit (.int .u8 112), .lit (.int .u8 111), .lit (.int .u8 47), .lit (.int .u8 118), .lit (.int .u8 116), .lit (.int .u8 115), .lit (.int .u8 99)]

/-- 'ganseylaw19.ShapesCheck': WHATEVER THE INPUT: true; the input reads as it did. -/
def shapesCheckSpec : ChangeSpec := { name := "shapesCheck", fn := fun _ => fun
  | [d1, d2] => { results := [.lit (.bool true)], args := [d1, d2] }
  | _ => none }
def shapesCheckRow : OpenClaim := { program := "ytinijapkipeamaadoor", sum := "5e2550e6e9a0f015d6b300ab97ba0cc2dd6c201bfb65e09c446a7e2d54a17d7a", func := "gansey/ganseylaw19.ShapesCheck", spec := "shapesCheck", inPlace := ["internal/abi.NoEscape"], unfollowed := true, recurses := true, named := ["gansey/stitches.symbols"], apart := false, laid := [("gansey/stitches.symbols", laid_gansey_stitches_symbols)] }
def ShapesCheckSaid : Prop := shapesCheckRow.holds Tryd.pinned (OpenSpec.ofChange shapesCheckSpec)

/-- ITS FALSE NEIGHBOUR: 'it returns false'. Refute it at one input. -/
def shapesCheckWrong : ChangeSpec := { name := "shapesCheck", fn := fun _ => fun
  | [d1, d2] => { results := [.lit (.bool false)], args := [d1, d2] }
  | _ => none }
def ShapesCheckWrongFalsely : Prop := shapesCheckRow.holds Tryd.pinned (OpenSpec.ofChange shapesCheckWrong)

/-- 'ganseylaw19.ShapesSlope': WHATEVER THE INPUT: true; the input reads as it did. -/
def shapesSlopeSpec : ChangeSpec := { name := "shapesSlope", fn := fun _ => fun
  | [d1, d2, d3] => { results := [.lit (.bool true)], args := [d1, d2, d3] }
  | _ => none }
def shapesSlopeRow : OpenClaim := { program := "ytinijapkipeamaadoor", sum := "5e2550e6e9a0f015d6b300ab97ba0cc2dd6c201bfb65e09c446a7e2d54a17d7a", func := "gansey/ganseylaw19.ShapesSlope", spec := "shapesSlope", inPlace := ["internal/abi.NoEscape"], unfollowed := true, recurses := true, named := ["gansey/stitches.symbols"], apart := false, laid := [("gansey/stitches.symbols", laid_gansey_stitches_symbols)] }
def ShapesSlopeSaid : Prop := shapesSlopeRow.holds Tryd.pinned (OpenSpec.ofChange shapesSlopeSpec)

/-- ITS FALSE NEIGHBOUR: 'it returns false'. Refute it at one input. -/
def shapesSlopeWrong : ChangeSpec := { name := "shapesSlope", fn := fun _ => fun
  | [d1, d2, d3] => { results := [.lit (.bool false)], args := [d1, d2, d3] }
  | _ => none }
def ShapesSlopeWrongFalsely : Prop := shapesSlopeRow.holds Tryd.pinned (OpenSpec.ofChange shapesSlopeWrong)

/-- 'ganseylaw19.ShapesBack': WHATEVER THE INPUT: true; the input reads as it did. -/
def shapesBackSpec : ChangeSpec := { name := "shapesBack", fn := fun _ => fun
  | [d1, d2, d3] => { results := [.lit (.bool true)], args := [d1, d2, d3] }
  | _ => none }
def shapesBackRow : OpenClaim := { program := "ytinijapkipeamaadoor", sum := "5e2550e6e9a0f015d6b300ab97ba0cc2dd6c201bfb65e09c446a7e2d54a17d7a", func := "gansey/ganseylaw19.ShapesBack", spec := "shapesBack", inPlace := ["internal/abi.NoEscape"], unfollowed := true, recurses := true, named := ["gansey/stitches.symbols"], apart := false, laid := [("gansey/stitches.symbols", laid_gansey_stitches_symbols)] }
def ShapesBackSaid : Prop := shapesBackRow.holds Tryd.pinned (OpenSpec.ofChange shapesBackSpec)

/-- ITS FALSE NEIGHBOUR: 'it returns false'. Refute it at one input. -/
def shapesBackWrong : ChangeSpec := { name := "shapesBack", fn := fun _ => fun
  | [d1, d2, d3] => { results := [.lit (.bool false)], args := [d1, d2, d3] }
  | _ => none }
def ShapesBackWrongFalsely : Prop := shapesBackRow.holds Tryd.pinned (OpenSpec.ofChange shapesBackWrong)

/-- 'ganseylaw19.ShapesArea': WHATEVER THE INPUT: true; the input reads as it did. -/
def shapesAreaSpec : ChangeSpec := { name := "shapesArea", fn := fun _ => fun
  | [d1, d2] => { results := [.lit (.bool true)], args := [d1, d2] }
  | _ => none }
def shapesAreaRow : OpenClaim := { program := "ytinijapkipeamaadoor", sum := "5e2550e6e9a0f015d6b300ab97ba0cc2dd6c201bfb65e09c446a7e2d54a17d7a", func := "gansey/ganseylaw19.ShapesArea", spec := "shapesArea", inPlace := ["internal/abi.NoEscape"], unfollowed := true, recurses := true, named := ["gansey/stitches.symbols"], apart := false, laid := [("gansey/stitches.symbols", laid_gansey_stitches_symbols)] }
def ShapesAreaSaid : Prop := shapesAreaRow.holds Tryd.pinned (OpenSpec.ofChange shapesAreaSpec)

/-- ITS FALSE NEIGHBOUR: 'it returns false'. Refute it at one input. -/
def shapesAreaWrong : ChangeSpec := { name := "shapesArea", fn := fun _ => fun
  | [d1, d2] => { results := [.lit (.bool false)], args := [d1, d2] }
  | _ => none }
def ShapesAreaWrongFalsely : Prop := shapesAreaRow.holds Tryd.pinned (OpenSpec.ofChange shapesAreaWrong)

/-- 'ganseylaw19.ShapesJoin': WHATEVER THE INPUT: true; the input reads as it did. -/
def shapesJoinSpec : ChangeSpec := { name := "shapesJoin", fn := fun _ => fun
  | [d] => { results := [.lit (.bool true)], args := [d] }
  | _ => none }
def shapesJoinRow : OpenClaim := { program := "ytinijapkipeamaadoor", sum := "5e2550e6e9a0f015d6b300ab97ba0cc2dd6c201bfb65e09c446a7e2d54a17d7a", func := "gansey/ganseylaw19.ShapesJoin", spec := "shapesJoin", inPlace := ["internal/abi.NoEscape"], unfollowed := true, recurses := true, named := ["gansey/stitches.symbols"], apart := false, laid := [("gansey/stitches.symbols", laid_gansey_stitches_symbols)] }
def ShapesJoinSaid : Prop := shapesJoinRow.holds Tryd.pinned (OpenSpec.ofChange shapesJoinSpec)

/-- ITS FALSE NEIGHBOUR: 'it returns false'. Refute it at one input. -/
def shapesJoinWrong : ChangeSpec := { name := "shapesJoin", fn := fun _ => fun
  | [d] => { results := [.lit (.bool false)], args := [d] }
  | _ => none }
def ShapesJoinWrongFalsely : Prop := shapesJoinRow.holds Tryd.pinned (OpenSpec.ofChange shapesJoinWrong)

/-- 'ganseylaw19.ShapesChart': WHATEVER THE INPUT: true; the input reads as it did. -/
def shapesChartSpec : ChangeSpec := { name := "shapesChart", fn := fun _ => fun
  | [d1, d2] => { results := [.lit (.bool true)], args := [d1, d2] }
  | _ => none }
def shapesChartRow : OpenClaim := { program := "ytinijapkipeamaadoor", sum := "5e2550e6e9a0f015d6b300ab97ba0cc2dd6c201bfb65e09c446a7e2d54a17d7a", func := "gansey/ganseylaw19.ShapesChart", spec := "shapesChart", inPlace := ["internal/abi.NoEscape"], unfollowed := true, recurses := true, named := ["gansey/stitches.symbols"], apart := false, laid := [("gansey/stitches.symbols", laid_gansey_stitches_symbols)] }
def ShapesChartSaid : Prop := shapesChartRow.holds Tryd.pinned (OpenSpec.ofChange shapesChartSpec)

/-- ITS FALSE NEIGHBOUR: 'it returns false'. Refute it at one input. -/
def shapesChartWrong : ChangeSpec := { name := "shapesChart", fn := fun _ => fun
  | [d1, d2] => { results := [.lit (.bool false)], args := [d1, d2] }
  | _ => none }
def ShapesChartWrongFalsely : Prop := shapesChartRow.holds Tryd.pinned (OpenSpec.ofChange shapesChartWrong)

/-- 'ganseylaw19.ShapesOf': WHATEVER THE INPUT: true; the input reads as it did. -/
def shapesOfSpec : ChangeSpec := { name := "shapesOf", fn := fun _ => fun
  | [d] => { results := [.lit (.bool true)], args := [d] }
  | _ => none }
def shapesOfRow : OpenClaim := { program := "ytinijapkipeamaadoor", sum := "5e2550e6e9a0f015d6b300ab97ba0cc2dd6c201bfb65e09c446a7e2d54a17d7a", func := "gansey/ganseylaw19.ShapesOf", spec := "shapesOf", inPlace := ["internal/abi.NoEscape"], unfollowed := true, recurses := true, named := ["gansey/stitches.symbols"], apart := false, laid := [("gansey/stitches.symbols", laid_gansey_stitches_symbols)] }
def ShapesOfSaid : Prop := shapesOfRow.holds Tryd.pinned (OpenSpec.ofChange shapesOfSpec)

/-- ITS FALSE NEIGHBOUR: 'it returns false'. Refute it at one input. -/
def shapesOfWrong : ChangeSpec := { name := "shapesOf", fn := fun _ => fun
  | [d] => { results := [.lit (.bool false)], args := [d] }
  | _ => none }
def ShapesOfWrongFalsely : Prop := shapesOfRow.holds Tryd.pinned (OpenSpec.ofChange shapesOfWrong)

/-- 'ganseylaw19.ShapesKnown': WHATEVER THE INPUT: true; the input reads as it did. -/
def shapesKnownSpec : ChangeSpec := { name := "shapesKnown", fn := fun _ => fun
  | [] => { results := [.lit (.bool true)], args := [] }
  | _ => none }
def shapesKnownRow : OpenClaim := { program := "ytinijapkipeamaadoor", sum := "5e2550e6e9a0f015d6b300ab97ba0cc2dd6c201bfb65e09c446a7e2d54a17d7a", func := "gansey/ganseylaw19.ShapesKnown", spec := "shapesKnown", inPlace := ["internal/abi.NoEscape"], unfollowed := true, recurses := true, named := ["gansey/stitches.symbols"], apart := false, laid := [("gansey/stitches.symbols", laid_gansey_stitches_symbols)] }
def ShapesKnownSaid : Prop := shapesKnownRow.holds Tryd.pinned (OpenSpec.ofChange shapesKnownSpec)

/-- ITS FALSE NEIGHBOUR: 'it returns false'. Refute it at one input. -/
def shapesKnownWrong : ChangeSpec := { name := "shapesKnown", fn := fun _ => fun
  | [] => { results := [.lit (.bool false)], args := [] }
  | _ => none }
def ShapesKnownWrongFalsely : Prop := shapesKnownRow.holds Tryd.pinned (OpenSpec.ofChange shapesKnownWrong)

/- THE SECOND FORM. 'bulk': how many values and letters a reading holds, each counted each time it is reached (what is shared counts as often as it is met; a slice's spare places count too). A statement '..UptoSaid' is the law's where the arguments, and the package variables that the reading takes, are together of bulk at most 1048576: NARROWER than '..Said'. Prove '..Said' where nothing that the law and all that it calls make is longer than what came in: it says more and counts as full. Else prove '..UptoSaid'. A law counts once. -/
mutual
def uptoBulk {H : Type} : DataW H → Nat
  | .lit (.string bytes) => bytes.length + 1
  | .lit _ => 1
  | .nil => 1
  | .ptr d => uptoBulk d + 1
  | .slice elems spare => uptoBulkAll elems + uptoBulkAll spare + 1
  | .agg parts => uptoBulkAll parts + 1
  | .iface _ d => uptoBulk d + 1
  | .map entries => uptoBulkEntries entries + 1
  | .held _ => 1
def uptoBulkAll {H : Type} : List (DataW H) → Nat
  | [] => 0
  | d :: r => uptoBulk d + uptoBulkAll r
def uptoBulkEntries {H : Type} : List (Lit × DataW H) → Nat
  | [] => 0
  | x :: r => uptoBulkEntry x + uptoBulkEntries r
def uptoBulkEntry {H : Type} : Lit × DataW H → Nat
  | (.string bytes, d) => bytes.length + uptoBulk d + 1
  | (_, d) => uptoBulk d + 1
 end
def uptoSmall : (H : Type) → List (DataW H) → Bool := fun _ ds => decide (uptoBulkAll ds ≤ 1048576)
def OpenSpec.upto (s : _root_.Go.ChangeSpec) : _root_.Go.OpenSpec := { _root_.Go.OpenSpec.ofChange s with cond := some uptoSmall }

/-- 'ganseylaw19.ShapesCheck', WHERE WHAT IT READS IS OF BULK AT MOST 1048576: true; the input reads as it did. -/
def shapesCheckUptoRow : OpenClaim := { program := "ytinijapkipeamaadoor", sum := "5e2550e6e9a0f015d6b300ab97ba0cc2dd6c201bfb65e09c446a7e2d54a17d7a", func := "gansey/ganseylaw19.ShapesCheck", spec := "shapesCheck", inPlace := ["internal/abi.NoEscape"], unfollowed := true, recurses := true, named := ["gansey/stitches.symbols"], apart := false, laid := [("gansey/stitches.symbols", laid_gansey_stitches_symbols)], narrowed := true }
def ShapesCheckUptoSaid : Prop := shapesCheckUptoRow.holds Tryd.pinned (OpenSpec.upto shapesCheckSpec)

/-- 'ganseylaw19.ShapesSlope', WHERE WHAT IT READS IS OF BULK AT MOST 1048576: true; the input reads as it did. -/
def shapesSlopeUptoRow : OpenClaim := { program := "ytinijapkipeamaadoor", sum := "5e2550e6e9a0f015d6b300ab97ba0cc2dd6c201bfb65e09c446a7e2d54a17d7a", func := "gansey/ganseylaw19.ShapesSlope", spec := "shapesSlope", inPlace := ["internal/abi.NoEscape"], unfollowed := true, recurses := true, named := ["gansey/stitches.symbols"], apart := false, laid := [("gansey/stitches.symbols", laid_gansey_stitches_symbols)], narrowed := true }
def ShapesSlopeUptoSaid : Prop := shapesSlopeUptoRow.holds Tryd.pinned (OpenSpec.upto shapesSlopeSpec)

/-- 'ganseylaw19.ShapesBack', WHERE WHAT IT READS IS OF BULK AT MOST 1048576: true; the input reads as it did. -/
def shapesBackUptoRow : OpenClaim := { program := "ytinijapkipeamaadoor", sum := "5e2550e6e9a0f015d6b300ab97ba0cc2dd6c201bfb65e09c446a7e2d54a17d7a", func := "gansey/ganseylaw19.ShapesBack", spec := "shapesBack", inPlace := ["internal/abi.NoEscape"], unfollowed := true, recurses := true, named := ["gansey/stitches.symbols"], apart := false, laid := [("gansey/stitches.symbols", laid_gansey_stitches_symbols)], narrowed := true }
def ShapesBackUptoSaid : Prop := shapesBackUptoRow.holds Tryd.pinned (OpenSpec.upto shapesBackSpec)

/-- 'ganseylaw19.ShapesArea', WHERE WHAT IT READS IS OF BULK AT MOST 1048576: true; the input reads as it did. -/
def shapesAreaUptoRow : OpenClaim := { program := "ytinijapkipeamaadoor", sum := "5e2550e6e9a0f015d6b300ab97ba0cc2dd6c201bfb65e09c446a7e2d54a17d7a", func := "gansey/ganseylaw19.ShapesArea", spec := "shapesArea", inPlace := ["internal/abi.NoEscape"], unfollowed := true, recurses := true, named := ["gansey/stitches.symbols"], apart := false, laid := [("gansey/stitches.symbols", laid_gansey_stitches_symbols)], narrowed := true }
def ShapesAreaUptoSaid : Prop := shapesAreaUptoRow.holds Tryd.pinned (OpenSpec.upto shapesAreaSpec)

/-- 'ganseylaw19.ShapesJoin', WHERE WHAT IT READS IS OF BULK AT MOST 1048576: true; the input reads as it did. -/
def shapesJoinUptoRow : OpenClaim := { program := "ytinijapkipeamaadoor", sum := "5e2550e6e9a0f015d6b300ab97ba0cc2dd6c201bfb65e09c446a7e2d54a17d7a", func := "gansey/ganseylaw19.ShapesJoin", spec := "shapesJoin", inPlace := ["internal/abi.NoEscape"], unfollowed := true, recurses := true, named := ["gansey/stitches.symbols"], apart := false, laid := [("gansey/stitches.symbols", laid_gansey_stitches_symbols)], narrowed := true }
def ShapesJoinUptoSaid : Prop := shapesJoinUptoRow.holds Tryd.pinned (OpenSpec.upto shapesJoinSpec)

/-- 'ganseylaw19.ShapesChart', WHERE WHAT IT READS IS OF BULK AT MOST 1048576: true; the input reads as it did. -/
def shapesChartUptoRow : OpenClaim := { program := "ytinijapkipeamaadoor", sum := "5e2550e6e9a0f015d6b300ab97ba0cc2dd6c201bfb65e09c446a7e2d54a17d7a", func := "gansey/ganseylaw19.ShapesChart", spec := "shapesChart", inPlace := ["internal/abi.NoEscape"], unfollowed := true, recurses := true, named := ["gansey/stitches.symbols"], apart := false, laid := [("gansey/stitches.symbols", laid_gansey_stitches_symbols)], narrowed := true }
def ShapesChartUptoSaid : Prop := shapesChartUptoRow.holds Tryd.pinned (OpenSpec.upto shapesChartSpec)

/-- 'ganseylaw19.ShapesOf', WHERE WHAT IT READS IS OF BULK AT MOST 1048576: true; the input reads as it did. -/
def shapesOfUptoRow : OpenClaim := { program := "ytinijapkipeamaadoor", sum := "5e2550e6e9a0f015d6b300ab97ba0cc2dd6c201bfb65e09c446a7e2d54a17d7a", func := "gansey/ganseylaw19.ShapesOf", spec := "shapesOf", inPlace := ["internal/abi.NoEscape"], unfollowed := true, recurses := true, named := ["gansey/stitches.symbols"], apart := false, laid := [("gansey/stitches.symbols", laid_gansey_stitches_symbols)], narrowed := true }
def ShapesOfUptoSaid : Prop := shapesOfUptoRow.holds Tryd.pinned (OpenSpec.upto shapesOfSpec)

/-- 'ganseylaw19.ShapesKnown', WHERE WHAT IT READS IS OF BULK AT MOST 1048576: true; the input reads as it did. -/
def shapesKnownUptoRow : OpenClaim := { program := "ytinijapkipeamaadoor", sum := "5e2550e6e9a0f015d6b300ab97ba0cc2dd6c201bfb65e09c446a7e2d54a17d7a", func := "gansey/ganseylaw19.ShapesKnown", spec := "shapesKnown", inPlace := ["internal/abi.NoEscape"], unfollowed := true, recurses := true, named := ["gansey/stitches.symbols"], apart := false, laid := [("gansey/stitches.symbols", laid_gansey_stitches_symbols)], narrowed := true }
def ShapesKnownUptoSaid : Prop := shapesKnownUptoRow.holds Tryd.pinned (OpenSpec.upto shapesKnownSpec)

end Rows
end Go.Proofs.YtinijapkipeamaaDoor
