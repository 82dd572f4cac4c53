/-
  No cell of these rows narrows 'for every input' (looked for: loops, veiled, ifaces, maps, wideKeys, modest, calm, conditions, laid).
  DERIVED. THE GIVEN ROWS OF THIS SEAT. 5 by the template 'for every input the law returns true; each argument reads behind the call as it read before'; 0 by the template 'total and deterministic' (their statements: YtbappfeojdehgaaTotals.lean).
  GIVEN WITH THE SEED: the statements are not yours to turn. If you find one false, say at which input.
  Laid BY PROGRAM, IN A SANDBOX (cutbox-rows.mjs): the forced cells as the released guide's own fill.sh prints them over the translation 38258fa7b1abd0f5… (all of the seat's roots in one cut). By AI agents, Wed Nov 11 2026. No macro, syntax, notation, axiom, sorry.
-/
import Derived.Test.YtbappfeojdehgaaChecked
import GoSem.Claim
import GoSem.ClaimJoined
import GoSem.ClaimMapViews
import Derived.JoinedTies
import Derived.KernelRfl
namespace Go.Proofs.Ytbappfeojdehgaa
/- THE CELL 'sum', in the pinned program and in every row, IS THE sha256 OF THE DUMP (.gsa) THAT YtbappfeojdehgaaProg.lean LOADS. Nothing in Lean hashes anything: it is a label: what it is worth is what the hold of that sum in a sandbox is worth. -/
noncomputable def Try.pinned : Pinned := { name := "ytbappfeojdehgaa", sum := "38258fa7b1abd0f594b19879418e72e13e88273fcd798de7fa89d667bf186283", checked := Try.checked }
namespace Rows
def none {H : Type} : Left H := { results := [], args := [] }

/-- 'ganseylaw24.WordsReduce': WHATEVER THE INPUT: true; the input reads as it did. -/
def wordsReduceSpec : ChangeSpec := { name := "wordsReduce", fn := fun _ => fun
  | [d1, d2] => { results := [.lit (.bool true)], args := [d1, d2] }
  | _ => none }
def wordsReduceRow : OpenClaim := { program := "ytbappfeojdehgaa", sum := "38258fa7b1abd0f594b19879418e72e13e88273fcd798de7fa89d667bf186283", func := "gansey/ganseylaw24.WordsReduce", spec := "wordsReduce", unfollowed := true, recurses := true, apart := false }
def WordsReduceSaid : Prop := wordsReduceRow.holds Try.pinned (OpenSpec.ofChange wordsReduceSpec)

/-- ITS FALSE NEIGHBOUR: 'it returns false'. Refute it at one input. -/
def wordsReduceWrong : ChangeSpec := { name := "wordsReduce", fn := fun _ => fun
  | [d1, d2] => { results := [.lit (.bool false)], args := [d1, d2] }
  | _ => none }
def WordsReduceWrongFalsely : Prop := wordsReduceRow.holds Try.pinned (OpenSpec.ofChange wordsReduceWrong)

/-- 'ganseylaw24.WordsImages': WHATEVER THE INPUT: true; the input reads as it did. -/
def wordsImagesSpec : ChangeSpec := { name := "wordsImages", fn := fun _ => fun
  | [d1, d2] => { results := [.lit (.bool true)], args := [d1, d2] }
  | _ => none }
def wordsImagesRow : OpenClaim := { program := "ytbappfeojdehgaa", sum := "38258fa7b1abd0f594b19879418e72e13e88273fcd798de7fa89d667bf186283", func := "gansey/ganseylaw24.WordsImages", spec := "wordsImages", unfollowed := true, recurses := true, apart := false }
def WordsImagesSaid : Prop := wordsImagesRow.holds Try.pinned (OpenSpec.ofChange wordsImagesSpec)

/-- ITS FALSE NEIGHBOUR: 'it returns false'. Refute it at one input. -/
def wordsImagesWrong : ChangeSpec := { name := "wordsImages", fn := fun _ => fun
  | [d1, d2] => { results := [.lit (.bool false)], args := [d1, d2] }
  | _ => none }
def WordsImagesWrongFalsely : Prop := wordsImagesRow.holds Try.pinned (OpenSpec.ofChange wordsImagesWrong)

/-- 'ganseylaw24.WordsFollow': WHATEVER THE INPUT: true; the input reads as it did. -/
def wordsFollowSpec : ChangeSpec := { name := "wordsFollow", fn := fun _ => fun
  | [d1, d2] => { results := [.lit (.bool true)], args := [d1, d2] }
  | _ => none }
def wordsFollowRow : OpenClaim := { program := "ytbappfeojdehgaa", sum := "38258fa7b1abd0f594b19879418e72e13e88273fcd798de7fa89d667bf186283", func := "gansey/ganseylaw24.WordsFollow", spec := "wordsFollow", unfollowed := true, recurses := true, apart := false }
def WordsFollowSaid : Prop := wordsFollowRow.holds Try.pinned (OpenSpec.ofChange wordsFollowSpec)

/-- ITS FALSE NEIGHBOUR: 'it returns false'. Refute it at one input. -/
def wordsFollowWrong : ChangeSpec := { name := "wordsFollow", fn := fun _ => fun
  | [d1, d2] => { results := [.lit (.bool false)], args := [d1, d2] }
  | _ => none }
def WordsFollowWrongFalsely : Prop := wordsFollowRow.holds Try.pinned (OpenSpec.ofChange wordsFollowWrong)

/-- 'ganseylaw24.WordsAct': WHATEVER THE INPUT: true; the input reads as it did. -/
def wordsActSpec : ChangeSpec := { name := "wordsAct", fn := fun _ => fun
  | [d1, d2] => { results := [.lit (.bool true)], args := [d1, d2] }
  | _ => none }
def wordsActRow : OpenClaim := { program := "ytbappfeojdehgaa", sum := "38258fa7b1abd0f594b19879418e72e13e88273fcd798de7fa89d667bf186283", func := "gansey/ganseylaw24.WordsAct", spec := "wordsAct", unfollowed := true, recurses := true, apart := false }
def WordsActSaid : Prop := wordsActRow.holds Try.pinned (OpenSpec.ofChange wordsActSpec)

/-- ITS FALSE NEIGHBOUR: 'it returns false'. Refute it at one input. -/
def wordsActWrong : ChangeSpec := { name := "wordsAct", fn := fun _ => fun
  | [d1, d2] => { results := [.lit (.bool false)], args := [d1, d2] }
  | _ => none }
def WordsActWrongFalsely : Prop := wordsActRow.holds Try.pinned (OpenSpec.ofChange wordsActWrong)

/-- 'ganseylaw24.WordsErrors': WHATEVER THE INPUT: true; the input reads as it did. -/
def wordsErrorsSpec : ChangeSpec := { name := "wordsErrors", fn := fun _ => fun
  | [d1, d2, d3] => { results := [.lit (.bool true)], args := [d1, d2, d3] }
  | _ => none }
def wordsErrorsRow : OpenClaim := { program := "ytbappfeojdehgaa", sum := "38258fa7b1abd0f594b19879418e72e13e88273fcd798de7fa89d667bf186283", func := "gansey/ganseylaw24.WordsErrors", spec := "wordsErrors", unfollowed := true, recurses := true, apart := false }
def WordsErrorsSaid : Prop := wordsErrorsRow.holds Try.pinned (OpenSpec.ofChange wordsErrorsSpec)

/-- ITS FALSE NEIGHBOUR: 'it returns false'. Refute it at one input. -/
def wordsErrorsWrong : ChangeSpec := { name := "wordsErrors", fn := fun _ => fun
  | [d1, d2, d3] => { results := [.lit (.bool false)], args := [d1, d2, d3] }
  | _ => none }
def WordsErrorsWrongFalsely : Prop := wordsErrorsRow.holds Try.pinned (OpenSpec.ofChange wordsErrorsWrong)

/- THE SECOND FORM. 'bulk': how many values and letters a reading holds, each counted each time it is reached (what is shared counts as often as it is met; a slice's spare places count too). A statement '..UptoSaid' is the law's where the arguments, and the package variables that the reading takes, are together of bulk at most 1048576: NARROWER than '..Said'. Prove '..Said' where nothing that the law and all that it calls make is longer than what came in: it says more and counts as full. Else prove '..UptoSaid'. A law counts once. -/
mutual
def uptoBulk {H : Type} : DataW H → Nat
  | .lit (.string bytes) => bytes.length + 1
  | .lit _ => 1
  | .nil => 1
  | .ptr d => uptoBulk d + 1
  | .slice elems spare => uptoBulkAll elems + uptoBulkAll spare + 1
  | .agg parts => uptoBulkAll parts + 1
  | .iface _ d => uptoBulk d + 1
  | .map entries => uptoBulkEntries entries + 1
  | .held _ => 1
def uptoBulkAll {H : Type} : List (DataW H) → Nat
  | [] => 0
  | d :: r => uptoBulk d + uptoBulkAll r
def uptoBulkEntries {H : Type} : List (Lit × DataW H) → Nat
  | [] => 0
  | x :: r => uptoBulkEntry x + uptoBulkEntries r
def uptoBulkEntry {H : Type} : Lit × DataW H → Nat
  | (.string bytes, d) => bytes.length + uptoBulk d + 1
  | (_, d) => uptoBulk d + 1
 end
def uptoSmall : (H : Type) → List (DataW H) → Bool := fun _ ds => decide (uptoBulkAll ds ≤ 1048576)
def OpenSpec.upto (s : _root_.Go.ChangeSpec) : _root_.Go.OpenSpec := { _root_.Go.OpenSpec.ofChange s with cond := some uptoSmall }

/-- 'ganseylaw24.WordsReduce', WHERE WHAT IT READS IS OF BULK AT MOST 1048576: true; the input reads as it did. -/
def wordsReduceUptoRow : OpenClaim := { program := "ytbappfeojdehgaa", sum := "38258fa7b1abd0f594b19879418e72e13e88273fcd798de7fa89d667bf186283", func := "gansey/ganseylaw24.WordsReduce", spec := "wordsReduce", unfollowed := true, recurses := true, apart := false, narrowed := true }
def WordsReduceUptoSaid : Prop := wordsReduceUptoRow.holds Try.pinned (OpenSpec.upto wordsReduceSpec)

/-- 'ganseylaw24.WordsImages', WHERE WHAT IT READS IS OF BULK AT MOST 1048576: true; the input reads as it did. -/
def wordsImagesUptoRow : OpenClaim := { program := "ytbappfeojdehgaa", sum := "38258fa7b1abd0f594b19879418e72e13e88273fcd798de7fa89d667bf186283", func := "gansey/ganseylaw24.WordsImages", spec := "wordsImages", unfollowed := true, recurses := true, apart := false, narrowed := true }
def WordsImagesUptoSaid : Prop := wordsImagesUptoRow.holds Try.pinned (OpenSpec.upto wordsImagesSpec)

/-- 'ganseylaw24.WordsFollow', WHERE WHAT IT READS IS OF BULK AT MOST 1048576: true; the input reads as it did. -/
def wordsFollowUptoRow : OpenClaim := { program := "ytbappfeojdehgaa", sum := "38258fa7b1abd0f594b19879418e72e13e88273fcd798de7fa89d667bf186283", func := "gansey/ganseylaw24.WordsFollow", spec := "wordsFollow", unfollowed := true, recurses := true, apart := false, narrowed := true }
def WordsFollowUptoSaid : Prop := wordsFollowUptoRow.holds Try.pinned (OpenSpec.upto wordsFollowSpec)

/-- 'ganseylaw24.WordsAct', WHERE WHAT IT READS IS OF BULK AT MOST 1048576: true; the input reads as it did. -/
def wordsActUptoRow : OpenClaim := { program := "ytbappfeojdehgaa", sum := "38258fa7b1abd0f594b19879418e72e13e88273fcd798de7fa89d667bf186283", func := "gansey/ganseylaw24.WordsAct", spec := "wordsAct", unfollowed := true, recurses := true, apart := false, narrowed := true }
def WordsActUptoSaid : Prop := wordsActUptoRow.holds Try.pinned (OpenSpec.upto wordsActSpec)

/-- 'ganseylaw24.WordsErrors', WHERE WHAT IT READS IS OF BULK AT MOST 1048576: true; the input reads as it did. -/
def wordsErrorsUptoRow : OpenClaim := { program := "ytbappfeojdehgaa", sum := "38258fa7b1abd0f594b19879418e72e13e88273fcd798de7fa89d667bf186283", func := "gansey/ganseylaw24.WordsErrors", spec := "wordsErrors", unfollowed := true, recurses := true, apart := false, narrowed := true }
def WordsErrorsUptoSaid : Prop := wordsErrorsUptoRow.holds Try.pinned (OpenSpec.upto wordsErrorsSpec)

end Rows
end Go.Proofs.Ytbappfeojdehgaa
