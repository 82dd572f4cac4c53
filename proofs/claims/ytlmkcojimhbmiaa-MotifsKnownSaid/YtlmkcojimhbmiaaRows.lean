/-
  No cell of these rows narrows 'for every input' (looked for: loops, veiled, ifaces, maps, wideKeys, modest, calm, conditions, laid).
  DERIVED. THE GIVEN ROWS OF THIS SEAT. 8 by the template 'for every input the law returns true; each argument reads behind the call as it read before'; 0 by the template 'total and deterministic' (their statements: YtlmkcojimhbmiaaTotals.lean).
  GIVEN WITH THE SEED: the statements are not yours to turn. If you find one false, say at which input.
  Laid BY PROGRAM, IN A SANDBOX (cutbox-rows.mjs): the forced cells as the released guide's own fill.sh prints them over the translation 45b955c06e590f3e… (all of the seat's roots in one cut). By AI agents, Wed Nov 11 2026. No macro, syntax, notation, axiom, sorry.
-/
import Derived.Test.YtlmkcojimhbmiaaChecked
import GoSem.Claim
import GoSem.ClaimJoined
import GoSem.ClaimMapViews
import Derived.JoinedTies
import Derived.KernelRfl
namespace Go.Proofs.Ytlmkcojimhbmiaa
/- THE CELL 'sum', in the pinned program and in every row, IS THE sha256 OF THE DUMP (.gsa) THAT YtlmkcojimhbmiaaProg.lean LOADS. Nothing in Lean hashes anything: it is a label: what it is worth is what the hold of that sum in a sandbox is worth. -/
noncomputable def Try.pinned : Pinned := { name := "ytlmkcojimhbmiaa", sum := "45b955c06e590f3e06fbb8b34908fcd2e190cab4b6ca9b8dac228622eabe6b40", checked := Try.checked }
namespace Rows
def none {H : Type} : Left H := { results := [], args := [] }

/-- 'ganseylaw15.MotifsCheck': WHATEVER THE INPUT: true; the input reads as it did. -/
def motifsCheckSpec : ChangeSpec := { name := "motifsCheck", fn := fun _ => fun
  | [d1, d2, d3] => { results := [.lit (.bool true)], args := [d1, d2, d3] }
  | _ => none }
def motifsCheckRow : OpenClaim := { program := "ytlmkcojimhbmiaa", sum := "45b955c06e590f3e06fbb8b34908fcd2e190cab4b6ca9b8dac228622eabe6b40", func := "gansey/ganseylaw15.MotifsCheck", spec := "motifsCheck", unfollowed := true, recurses := true, apart := false }
def MotifsCheckSaid : Prop := motifsCheckRow.holds Try.pinned (OpenSpec.ofChange motifsCheckSpec)

/-- ITS FALSE NEIGHBOUR: 'it returns false'. Refute it at one input. -/
def motifsCheckWrong : ChangeSpec := { name := "motifsCheck", fn := fun _ => fun
  | [d1, d2, d3] => { results := [.lit (.bool false)], args := [d1, d2, d3] }
  | _ => none }
def MotifsCheckWrongFalsely : Prop := motifsCheckRow.holds Try.pinned (OpenSpec.ofChange motifsCheckWrong)

/-- 'ganseylaw15.MotifsBeside': WHATEVER THE INPUT: true; the input reads as it did. -/
def motifsBesideSpec : ChangeSpec := { name := "motifsBeside", fn := fun _ => fun
  | [d] => { results := [.lit (.bool true)], args := [d] }
  | _ => none }
def motifsBesideRow : OpenClaim := { program := "ytlmkcojimhbmiaa", sum := "45b955c06e590f3e06fbb8b34908fcd2e190cab4b6ca9b8dac228622eabe6b40", func := "gansey/ganseylaw15.MotifsBeside", spec := "motifsBeside", unfollowed := true, recurses := true, apart := false }
def MotifsBesideSaid : Prop := motifsBesideRow.holds Try.pinned (OpenSpec.ofChange motifsBesideSpec)

/-- ITS FALSE NEIGHBOUR: 'it returns false'. Refute it at one input. -/
def motifsBesideWrong : ChangeSpec := { name := "motifsBeside", fn := fun _ => fun
  | [d] => { results := [.lit (.bool false)], args := [d] }
  | _ => none }
def MotifsBesideWrongFalsely : Prop := motifsBesideRow.holds Try.pinned (OpenSpec.ofChange motifsBesideWrong)

/-- 'ganseylaw15.MotifsAbove': WHATEVER THE INPUT: true; the input reads as it did. -/
def motifsAboveSpec : ChangeSpec := { name := "motifsAbove", fn := fun _ => fun
  | [d] => { results := [.lit (.bool true)], args := [d] }
  | _ => none }
def motifsAboveRow : OpenClaim := { program := "ytlmkcojimhbmiaa", sum := "45b955c06e590f3e06fbb8b34908fcd2e190cab4b6ca9b8dac228622eabe6b40", func := "gansey/ganseylaw15.MotifsAbove", spec := "motifsAbove", unfollowed := true, recurses := true, apart := false }
def MotifsAboveSaid : Prop := motifsAboveRow.holds Try.pinned (OpenSpec.ofChange motifsAboveSpec)

/-- ITS FALSE NEIGHBOUR: 'it returns false'. Refute it at one input. -/
def motifsAboveWrong : ChangeSpec := { name := "motifsAbove", fn := fun _ => fun
  | [d] => { results := [.lit (.bool false)], args := [d] }
  | _ => none }
def MotifsAboveWrongFalsely : Prop := motifsAboveRow.holds Try.pinned (OpenSpec.ofChange motifsAboveWrong)

/-- 'ganseylaw15.MotifsMirror': WHATEVER THE INPUT: true; the input reads as it did. -/
def motifsMirrorSpec : ChangeSpec := { name := "motifsMirror", fn := fun _ => fun
  | [d1, d2] => { results := [.lit (.bool true)], args := [d1, d2] }
  | _ => none }
def motifsMirrorRow : OpenClaim := { program := "ytlmkcojimhbmiaa", sum := "45b955c06e590f3e06fbb8b34908fcd2e190cab4b6ca9b8dac228622eabe6b40", func := "gansey/ganseylaw15.MotifsMirror", spec := "motifsMirror", unfollowed := true, recurses := true, apart := false }
def MotifsMirrorSaid : Prop := motifsMirrorRow.holds Try.pinned (OpenSpec.ofChange motifsMirrorSpec)

/-- ITS FALSE NEIGHBOUR: 'it returns false'. Refute it at one input. -/
def motifsMirrorWrong : ChangeSpec := { name := "motifsMirror", fn := fun _ => fun
  | [d1, d2] => { results := [.lit (.bool false)], args := [d1, d2] }
  | _ => none }
def MotifsMirrorWrongFalsely : Prop := motifsMirrorRow.holds Try.pinned (OpenSpec.ofChange motifsMirrorWrong)

/-- 'ganseylaw15.MotifsAssociate': WHATEVER THE INPUT: true; the input reads as it did. -/
def motifsAssociateSpec : ChangeSpec := { name := "motifsAssociate", fn := fun _ => fun
  | [d1, d2] => { results := [.lit (.bool true)], args := [d1, d2] }
  | _ => none }
def motifsAssociateRow : OpenClaim := { program := "ytlmkcojimhbmiaa", sum := "45b955c06e590f3e06fbb8b34908fcd2e190cab4b6ca9b8dac228622eabe6b40", func := "gansey/ganseylaw15.MotifsAssociate", spec := "motifsAssociate", unfollowed := true, recurses := true, apart := false }
def MotifsAssociateSaid : Prop := motifsAssociateRow.holds Try.pinned (OpenSpec.ofChange motifsAssociateSpec)

/-- ITS FALSE NEIGHBOUR: 'it returns false'. Refute it at one input. -/
def motifsAssociateWrong : ChangeSpec := { name := "motifsAssociate", fn := fun _ => fun
  | [d1, d2] => { results := [.lit (.bool false)], args := [d1, d2] }
  | _ => none }
def MotifsAssociateWrongFalsely : Prop := motifsAssociateRow.holds Try.pinned (OpenSpec.ofChange motifsAssociateWrong)

/-- 'ganseylaw15.MotifsTile': WHATEVER THE INPUT: true; the input reads as it did. -/
def motifsTileSpec : ChangeSpec := { name := "motifsTile", fn := fun _ => fun
  | [d1, d2, d3] => { results := [.lit (.bool true)], args := [d1, d2, d3] }
  | _ => none }
def motifsTileRow : OpenClaim := { program := "ytlmkcojimhbmiaa", sum := "45b955c06e590f3e06fbb8b34908fcd2e190cab4b6ca9b8dac228622eabe6b40", func := "gansey/ganseylaw15.MotifsTile", spec := "motifsTile", unfollowed := true, recurses := true, apart := false }
def MotifsTileSaid : Prop := motifsTileRow.holds Try.pinned (OpenSpec.ofChange motifsTileSpec)

/-- ITS FALSE NEIGHBOUR: 'it returns false'. Refute it at one input. -/
def motifsTileWrong : ChangeSpec := { name := "motifsTile", fn := fun _ => fun
  | [d1, d2, d3] => { results := [.lit (.bool false)], args := [d1, d2, d3] }
  | _ => none }
def MotifsTileWrongFalsely : Prop := motifsTileRow.holds Try.pinned (OpenSpec.ofChange motifsTileWrong)

/-- 'ganseylaw15.MotifsFit': WHATEVER THE INPUT: true; the input reads as it did. -/
def motifsFitSpec : ChangeSpec := { name := "motifsFit", fn := fun _ => fun
  | [d1, d2] => { results := [.lit (.bool true)], args := [d1, d2] }
  | _ => none }
def motifsFitRow : OpenClaim := { program := "ytlmkcojimhbmiaa", sum := "45b955c06e590f3e06fbb8b34908fcd2e190cab4b6ca9b8dac228622eabe6b40", func := "gansey/ganseylaw15.MotifsFit", spec := "motifsFit", unfollowed := true, recurses := true, apart := false }
def MotifsFitSaid : Prop := motifsFitRow.holds Try.pinned (OpenSpec.ofChange motifsFitSpec)

/-- ITS FALSE NEIGHBOUR: 'it returns false'. Refute it at one input. -/
def motifsFitWrong : ChangeSpec := { name := "motifsFit", fn := fun _ => fun
  | [d1, d2] => { results := [.lit (.bool false)], args := [d1, d2] }
  | _ => none }
def MotifsFitWrongFalsely : Prop := motifsFitRow.holds Try.pinned (OpenSpec.ofChange motifsFitWrong)

/-- 'ganseylaw15.MotifsKnown': WHATEVER THE INPUT: true; the input reads as it did. -/
def motifsKnownSpec : ChangeSpec := { name := "motifsKnown", fn := fun _ => fun
  | [] => { results := [.lit (.bool true)], args := [] }
  | _ => none }
def motifsKnownRow : OpenClaim := { program := "ytlmkcojimhbmiaa", sum := "45b955c06e590f3e06fbb8b34908fcd2e190cab4b6ca9b8dac228622eabe6b40", func := "gansey/ganseylaw15.MotifsKnown", spec := "motifsKnown", unfollowed := true, recurses := true, apart := false }
def MotifsKnownSaid : Prop := motifsKnownRow.holds Try.pinned (OpenSpec.ofChange motifsKnownSpec)

/-- ITS FALSE NEIGHBOUR: 'it returns false'. Refute it at one input. -/
def motifsKnownWrong : ChangeSpec := { name := "motifsKnown", fn := fun _ => fun
  | [] => { results := [.lit (.bool false)], args := [] }
  | _ => none }
def MotifsKnownWrongFalsely : Prop := motifsKnownRow.holds Try.pinned (OpenSpec.ofChange motifsKnownWrong)

/- THE SECOND FORM. 'bulk': how many values and letters a reading holds, each counted each time it is reached (what is shared counts as often as it is met; a slice's spare places count too). A statement '..UptoSaid' is the law's where the arguments, and the package variables that the reading takes, are together of bulk at most 1048576: NARROWER than '..Said'. Prove '..Said' where nothing that the law and all that it calls make is longer than what came in: it says more and counts as full. Else prove '..UptoSaid'. A law counts once. -/
mutual
def uptoBulk {H : Type} : DataW H → Nat
  | .lit (.string bytes) => bytes.length + 1
  | .lit _ => 1
  | .nil => 1
  | .ptr d => uptoBulk d + 1
  | .slice elems spare => uptoBulkAll elems + uptoBulkAll spare + 1
  | .agg parts => uptoBulkAll parts + 1
  | .iface _ d => uptoBulk d + 1
  | .map entries => uptoBulkEntries entries + 1
  | .held _ => 1
def uptoBulkAll {H : Type} : List (DataW H) → Nat
  | [] => 0
  | d :: r => uptoBulk d + uptoBulkAll r
def uptoBulkEntries {H : Type} : List (Lit × DataW H) → Nat
  | [] => 0
  | x :: r => uptoBulkEntry x + uptoBulkEntries r
def uptoBulkEntry {H : Type} : Lit × DataW H → Nat
  | (.string bytes, d) => bytes.length + uptoBulk d + 1
  | (_, d) => uptoBulk d + 1
 end
def uptoSmall : (H : Type) → List (DataW H) → Bool := fun _ ds => decide (uptoBulkAll ds ≤ 1048576)
def OpenSpec.upto (s : _root_.Go.ChangeSpec) : _root_.Go.OpenSpec := { _root_.Go.OpenSpec.ofChange s with cond := some uptoSmall }

/-- 'ganseylaw15.MotifsCheck', WHERE WHAT IT READS IS OF BULK AT MOST 1048576: true; the input reads as it did. -/
def motifsCheckUptoRow : OpenClaim := { program := "ytlmkcojimhbmiaa", sum := "45b955c06e590f3e06fbb8b34908fcd2e190cab4b6ca9b8dac228622eabe6b40", func := "gansey/ganseylaw15.MotifsCheck", spec := "motifsCheck", unfollowed := true, recurses := true, apart := false, narrowed := true }
def MotifsCheckUptoSaid : Prop := motifsCheckUptoRow.holds Try.pinned (OpenSpec.upto motifsCheckSpec)

/-- 'ganseylaw15.MotifsBeside', WHERE WHAT IT READS IS OF BULK AT MOST 1048576: true; the input reads as it did. -/
def motifsBesideUptoRow : OpenClaim := { program := "ytlmkcojimhbmiaa", sum := "45b955c06e590f3e06fbb8b34908fcd2e190cab4b6ca9b8dac228622eabe6b40", func := "gansey/ganseylaw15.MotifsBeside", spec := "motifsBeside", unfollowed := true, recurses := true, apart := false, narrowed := true }
def MotifsBesideUptoSaid : Prop := motifsBesideUptoRow.holds Try.pinned (OpenSpec.upto motifsBesideSpec)

/-- 'ganseylaw15.MotifsAbove', WHERE WHAT IT READS IS OF BULK AT MOST 1048576: true; the input reads as it did. -/
def motifsAboveUptoRow : OpenClaim := { program := "ytlmkcojimhbmiaa", sum := "45b955c06e590f3e06fbb8b34908fcd2e190cab4b6ca9b8dac228622eabe6b40", func := "gansey/ganseylaw15.MotifsAbove", spec := "motifsAbove", unfollowed := true, recurses := true, apart := false, narrowed := true }
def MotifsAboveUptoSaid : Prop := motifsAboveUptoRow.holds Try.pinned (OpenSpec.upto motifsAboveSpec)

/-- 'ganseylaw15.MotifsMirror', WHERE WHAT IT READS IS OF BULK AT MOST 1048576: true; the input reads as it did. -/
def motifsMirrorUptoRow : OpenClaim := { program := "ytlmkcojimhbmiaa", sum := "45b955c06e590f3e06fbb8b34908fcd2e190cab4b6ca9b8dac228622eabe6b40", func := "gansey/ganseylaw15.MotifsMirror", spec := "motifsMirror", unfollowed := true, recurses := true, apart := false, narrowed := true }
def MotifsMirrorUptoSaid : Prop := motifsMirrorUptoRow.holds Try.pinned (OpenSpec.upto motifsMirrorSpec)

/-- 'ganseylaw15.MotifsAssociate', WHERE WHAT IT READS IS OF BULK AT MOST 1048576: true; the input reads as it did. -/
def motifsAssociateUptoRow : OpenClaim := { program := "ytlmkcojimhbmiaa", sum := "45b955c06e590f3e06fbb8b34908fcd2e190cab4b6ca9b8dac228622eabe6b40", func := "gansey/ganseylaw15.MotifsAssociate", spec := "motifsAssociate", unfollowed := true, recurses := true, apart := false, narrowed := true }
def MotifsAssociateUptoSaid : Prop := motifsAssociateUptoRow.holds Try.pinned (OpenSpec.upto motifsAssociateSpec)

/-- 'ganseylaw15.MotifsTile', WHERE WHAT IT READS IS OF BULK AT MOST 1048576: true; the input reads as it did. -/
def motifsTileUptoRow : OpenClaim := { program := "ytlmkcojimhbmiaa", sum := "45b955c06e590f3e06fbb8b34908fcd2e190cab4b6ca9b8dac228622eabe6b40", func := "gansey/ganseylaw15.MotifsTile", spec := "motifsTile", unfollowed := true, recurses := true, apart := false, narrowed := true }
def MotifsTileUptoSaid : Prop := motifsTileUptoRow.holds Try.pinned (OpenSpec.upto motifsTileSpec)

/-- 'ganseylaw15.MotifsFit', WHERE WHAT IT READS IS OF BULK AT MOST 1048576: true; the input reads as it did. -/
def motifsFitUptoRow : OpenClaim := { program := "ytlmkcojimhbmiaa", sum := "45b955c06e590f3e06fbb8b34908fcd2e190cab4b6ca9b8dac228622eabe6b40", func := "gansey/ganseylaw15.MotifsFit", spec := "motifsFit", unfollowed := true, recurses := true, apart := false, narrowed := true }
def MotifsFitUptoSaid : Prop := motifsFitUptoRow.holds Try.pinned (OpenSpec.upto motifsFitSpec)

/-- 'ganseylaw15.MotifsKnown', WHERE WHAT IT READS IS OF BULK AT MOST 1048576: true; the input reads as it did. -/
def motifsKnownUptoRow : OpenClaim := { program := "ytlmkcojimhbmiaa", sum := "45b955c06e590f3e06fbb8b34908fcd2e190cab4b6ca9b8dac228622eabe6b40", func := "gansey/ganseylaw15.MotifsKnown", spec := "motifsKnown", unfollowed := true, recurses := true, apart := false, narrowed := true }
def MotifsKnownUptoSaid : Prop := motifsKnownUptoRow.holds Try.pinned (OpenSpec.upto motifsKnownSpec)

end Rows
end Go.Proofs.Ytlmkcojimhbmiaa
