/-
  NARROWER THAN 'FOR EVERY INPUT', by the rows' own cells (each row's printed sentence says how): FabricsSame: laid · FabricsCheck: laid · FabricsUndone: laid · FabricsText: laid · FabricsCompare: laid · FabricsCross: laid.
  DERIVED. THE GIVEN ROWS OF THIS SEAT. 6 by the template 'for every input the law returns true; each argument reads behind the call as it read before'; 0 by the template 'total and deterministic' (their statements: YtlhkehfplcclgaaDoorTotals.lean).
  GIVEN WITH THE SEED: the statements are not yours to turn. If you find one false, say at which input.
  Laid BY PROGRAM, IN A SANDBOX (cutbox-rows.mjs): the forced cells as the released guide's own fill.sh prints them over the translation ca7236672e0cd2e3… (all of the seat's roots in one cut). By AI agents, Wed Nov 11 2026. No macro, syntax, notation, axiom, sorry.
-/
import Derived.Test.YtlhkehfplcclgaaDoorChecked
import GoSem.Claim
import GoSem.ClaimJoined
import GoSem.ClaimMapViews
import Derived.JoinedTies
import Derived.KernelRfl
namespace Go.Proofs.YtlhkehfplcclgaaDoor
/- THE CELL 'sum', in the pinned program and in every row, IS THE sha256 OF THE DUMP (.gsa) THAT YtlhkehfplcclgaaDoorProg.lean LOADS. Nothing in Lean hashes anything: it is a label: what it is worth is what the hold of that sum in a sandbox is worth. -/
noncomputable def Tryd.pinned : Pinned := { name := "ytlhkehfplcclgaadoor", sum := "ca7236672e0cd2e35812607e245883df38ac16a6aef8f3a0e0cf3e28fd5892bc", checked := Tryd.checked }
namespace Rows
def none {H : Type} : Left H := { results := [], args := [] }

/- WHAT THE LISTED PACKAGE-LEVEL VARIABLES READ AS WHEN THE CALL BEGINS. Each datum BY PROGRAM (the guide's laid-datum.mjs) off the statement by which the dump's own 'gosem.cut.vars' lays the variable. In a bare row this is a premise. The card (YtlhkehfplcclgaaDoorCards.lean) ties it to the program's text. -/
def laid_math_bits_deBruijn32tab {H : Type} : DataW H := .agg [.lit (.int .u8 0), .lit (.int .u8 1), .lit (.int .u8 28), .lit (.int .u8 2), .lit (.int .u8 29), .lit (.int .u8 14), .lit (.int .u8 24), .lit (.int .u8 3), .lit (.int .u8 30), .lit (.int .u8 22), .lit (.int .u8 20), .lit (.int .u8 15), .lit (.int .u8 25), .lit (.int .u8 17), .lit (.int .u8 4), .lit (.int .u8 8), .lit (.int .u8 31), .lit (.int .u8 27), .lit (.int .u8 13), .lit (.int .u8 23), .lit (.int .u8 21), .lit (.int .u8 19), .lit (.int .u8 16), .lit (.int .u8 7), .lit (.int .u8 26), .lit (.int .u8 12), .lit (.int .u8 18), .lit (.int .u8 6), .lit (.int .u8 11), .lit (.int .u8 5), .lit (.int .u8 10), .lit (.int .u8 9)]
def laid_math_bits_deBruijn64tab {H : Type} : DataW H := .agg [.lit (.int .u8 0), .lit (.int .u8 1), .lit (.int .u8 56), .lit (.int .u8 2), .lit (.int .u8 57), .lit (.int .u8 49), .lit (.int .u8 28), .lit (.int .u8 3), .lit (.int .u8 61), .lit (.int .u8 58), .lit (.int .u8 42), .lit (.int .u8 50), .lit (.int .u8 38), .lit (.int .u8 29), .lit (.int .u8 17), .lit (.int .u8 4), .lit (.int .u8 62), .lit (.int .u8 47), .lit (.int .u8 59), .lit (.int .u8 36), .lit (.int .u8 45), .lit (.int .u8 43), .lit (.int .u8 51), .lit (.int .u8 22), .lit (.int .u8 53), .lit (.int .u8 39), .lit (.int .u8 33), .lit (.int .u8 30), .lit (.int .u8 24), .lit (.int .u8 18), .lit (.int .u8 12), .lit (.int .u8 5), .lit (.int .u8 63), .lit (.int .u8 55), .lit (.int .u8 48), .lit (.int .u8 27), .lit (.int .u8 60), .lit (.int .u8 41), .lit (.int .u8 37), .lit (.int .u8 16), .lit (.int .u8 46), .lit (.int .u8 35), .lit (.int .u8 44), .lit (.int .u8 21), .lit (.int .u8 52), .lit (.int .u8 32), .lit (.int .u8 23), .lit (.int .u8 11), .lit (.int .u8 54), .lit (.int .u8 26), .lit (.int .u8 40), .lit (.int .u8 15), .lit (.int .u8 34), .lit (.int .u8 20), .lit (.int .u8 31), .lit (.int .u8 10), .lit (.int .u8 25), .lit (.int .u8 14), .lit (.int .u8 19), .lit (.int .u8 9), .lit (.int .u8 13), .lit (.int .u8 8), .lit (.int .u8 7), .lit (.int .u8 6)]
def laid_internal_strconv_uint64pow10 {H : Type} : DataW H := .agg [.lit (.int .u64 1), .lit (.int .u64 10), .lit (.int .u64 100), .lit (.int .u64 1000), .lit (.int .u64 10000), .lit (.int .u64 100000), .lit (.int .u64 1000000), .lit (.int .u64 10000000), .lit (.int .u64 100000000), .lit (.int .u64 1000000000), .lit (.int .u64 10000000000), .lit (.int .u64 100000000000), .lit (.int .u64 1000000000000), .lit (.int .u64 10000000000000), .lit (.int .u64 100000000000000), .lit (.int .u64 1000000000000000), .lit (.int .u64 10000000000000000), .lit (.int .u64 100000000000000000), .lit (.int .u64 1000000000000000000), .lit (.int .u64 10000000000000000000)]

/-- 'ganseylaw06.FabricsSame': WHATEVER THE INPUT: true; the input reads as it did. -/
def fabricsSameSpec : ChangeSpec := { name := "fabricsSame", fn := fun _ => fun
  | [d1, d2, d3] => { results := [.lit (.bool true)], args := [d1, d2, d3] }
  | _ => none }
def fabricsSameRow : OpenClaim := { program := "ytlhkehfplcclgaadoor", sum := "ca7236672e0cd2e35812607e245883df38ac16a6aef8f3a0e0cf3e28fd5892bc", func := "gansey/ganseylaw06.FabricsSame", spec := "fabricsSame", inPlace := ["internal/abi.NoEscape", "internal/bytealg.MakeNoZero"], unfollowed := true, recurses := true, named := ["internal/strconv.uint64pow10", "math/bits.deBruijn32tab", "math/bits.deBruijn64tab"], plainKeys := false, apart := false, laid := [("math/bits.deBruijn32tab", laid_math_bits_deBruijn32tab), ("math/bits.deBruijn64tab", laid_math_bits_deBruijn64tab), ("internal/strconv.uint64pow10", laid_internal_strconv_uint64pow10)] }
def FabricsSameSaid : Prop := fabricsSameRow.holds Tryd.pinned (OpenSpec.ofChange fabricsSameSpec)

/-- ITS FALSE NEIGHBOUR: 'it returns false'. Refute it at one input. -/
def fabricsSameWrong : ChangeSpec := { name := "fabricsSame", fn := fun _ => fun
  | [d1, d2, d3] => { results := [.lit (.bool false)], args := [d1, d2, d3] }
  | _ => none }
def FabricsSameWrongFalsely : Prop := fabricsSameRow.holds Tryd.pinned (OpenSpec.ofChange fabricsSameWrong)

/-- 'ganseylaw06.FabricsCheck': WHATEVER THE INPUT: true; the input reads as it did. -/
def fabricsCheckSpec : ChangeSpec := { name := "fabricsCheck", fn := fun _ => fun
  | [d1, d2, d3] => { results := [.lit (.bool true)], args := [d1, d2, d3] }
  | _ => none }
def fabricsCheckRow : OpenClaim := { program := "ytlhkehfplcclgaadoor", sum := "ca7236672e0cd2e35812607e245883df38ac16a6aef8f3a0e0cf3e28fd5892bc", func := "gansey/ganseylaw06.FabricsCheck", spec := "fabricsCheck", inPlace := ["internal/abi.NoEscape", "internal/bytealg.MakeNoZero"], unfollowed := true, recurses := true, named := ["internal/strconv.uint64pow10", "math/bits.deBruijn32tab", "math/bits.deBruijn64tab"], plainKeys := false, apart := false, laid := [("math/bits.deBruijn32tab", laid_math_bits_deBruijn32tab), ("math/bits.deBruijn64tab", laid_math_bits_deBruijn64tab), ("internal/strconv.uint64pow10", laid_internal_strconv_uint64pow10)] }
def FabricsCheckSaid : Prop := fabricsCheckRow.holds Tryd.pinned (OpenSpec.ofChange fabricsCheckSpec)

/-- ITS FALSE NEIGHBOUR: 'it returns false'. Refute it at one input. -/
def fabricsCheckWrong : ChangeSpec := { name := "fabricsCheck", fn := fun _ => fun
  | [d1, d2, d3] => { results := [.lit (.bool false)], args := [d1, d2, d3] }
  | _ => none }
def FabricsCheckWrongFalsely : Prop := fabricsCheckRow.holds Tryd.pinned (OpenSpec.ofChange fabricsCheckWrong)

/-- 'ganseylaw06.FabricsUndone': WHATEVER THE INPUT: true; the input reads as it did. -/
def fabricsUndoneSpec : ChangeSpec := { name := "fabricsUndone", fn := fun _ => fun
  | [d] => { results := [.lit (.bool true)], args := [d] }
  | _ => none }
def fabricsUndoneRow : OpenClaim := { program := "ytlhkehfplcclgaadoor", sum := "ca7236672e0cd2e35812607e245883df38ac16a6aef8f3a0e0cf3e28fd5892bc", func := "gansey/ganseylaw06.FabricsUndone", spec := "fabricsUndone", inPlace := ["internal/abi.NoEscape", "internal/bytealg.MakeNoZero"], unfollowed := true, recurses := true, named := ["internal/strconv.uint64pow10", "math/bits.deBruijn32tab", "math/bits.deBruijn64tab"], plainKeys := false, apart := false, laid := [("math/bits.deBruijn32tab", laid_math_bits_deBruijn32tab), ("math/bits.deBruijn64tab", laid_math_bits_deBruijn64tab), ("internal/strconv.uint64pow10", laid_internal_strconv_uint64pow10)] }
def FabricsUndoneSaid : Prop := fabricsUndoneRow.holds Tryd.pinned (OpenSpec.ofChange fabricsUndoneSpec)

/-- ITS FALSE NEIGHBOUR: 'it returns false'. Refute it at one input. -/
def fabricsUndoneWrong : ChangeSpec := { name := "fabricsUndone", fn := fun _ => fun
  | [d] => { results := [.lit (.bool false)], args := [d] }
  | _ => none }
def FabricsUndoneWrongFalsely : Prop := fabricsUndoneRow.holds Tryd.pinned (OpenSpec.ofChange fabricsUndoneWrong)

/-- 'ganseylaw06.FabricsText': WHATEVER THE INPUT: true; the input reads as it did. -/
def fabricsTextSpec : ChangeSpec := { name := "fabricsText", fn := fun _ => fun
  | [d] => { results := [.lit (.bool true)], args := [d] }
  | _ => none }
def fabricsTextRow : OpenClaim := { program := "ytlhkehfplcclgaadoor", sum := "ca7236672e0cd2e35812607e245883df38ac16a6aef8f3a0e0cf3e28fd5892bc", func := "gansey/ganseylaw06.FabricsText", spec := "fabricsText", inPlace := ["internal/abi.NoEscape", "internal/bytealg.MakeNoZero"], unfollowed := true, recurses := true, named := ["internal/strconv.uint64pow10", "math/bits.deBruijn32tab", "math/bits.deBruijn64tab"], plainKeys := false, apart := false, laid := [("math/bits.deBruijn32tab", laid_math_bits_deBruijn32tab), ("math/bits.deBruijn64tab", laid_math_bits_deBruijn64tab), ("internal/strconv.uint64pow10", laid_internal_strconv_uint64pow10)] }
def FabricsTextSaid : Prop := fabricsTextRow.holds Tryd.pinned (OpenSpec.ofChange fabricsTextSpec)

/-- ITS FALSE NEIGHBOUR: 'it returns false'. Refute it at one input. -/
def fabricsTextWrong : ChangeSpec := { name := "fabricsText", fn := fun _ => fun
  | [d] => { results := [.lit (.bool false)], args := [d] }
  | _ => none }
def FabricsTextWrongFalsely : Prop := fabricsTextRow.holds Tryd.pinned (OpenSpec.ofChange fabricsTextWrong)

/-- 'ganseylaw06.FabricsCompare': WHATEVER THE INPUT: true; the input reads as it did. -/
def fabricsCompareSpec : ChangeSpec := { name := "fabricsCompare", fn := fun _ => fun
  | [d1, d2, d3] => { results := [.lit (.bool true)], args := [d1, d2, d3] }
  | _ => none }
def fabricsCompareRow : OpenClaim := { program := "ytlhkehfplcclgaadoor", sum := "ca7236672e0cd2e35812607e245883df38ac16a6aef8f3a0e0cf3e28fd5892bc", func := "gansey/ganseylaw06.FabricsCompare", spec := "fabricsCompare", inPlace := ["internal/abi.NoEscape", "internal/bytealg.MakeNoZero"], unfollowed := true, recurses := true, named := ["internal/strconv.uint64pow10", "math/bits.deBruijn32tab", "math/bits.deBruijn64tab"], plainKeys := false, apart := false, laid := [("math/bits.deBruijn32tab", laid_math_bits_deBruijn32tab), ("math/bits.deBruijn64tab", laid_math_bits_deBruijn64tab), ("internal/strconv.uint64pow10", laid_internal_strconv_uint64pow10)] }
def FabricsCompareSaid : Prop := fabricsCompareRow.holds Tryd.pinned (OpenSpec.ofChange fabricsCompareSpec)

/-- ITS FALSE NEIGHBOUR: 'it returns false'. Refute it at one input. -/
def fabricsCompareWrong : ChangeSpec := { name := "fabricsCompare", fn := fun _ => fun
  | [d1, d2, d3] => { results := [.lit (.bool false)], args := [d1, d2, d3] }
  | _ => none }
def FabricsCompareWrongFalsely : Prop := fabricsCompareRow.holds Tryd.pinned (OpenSpec.ofChange fabricsCompareWrong)

/-- 'ganseylaw06.FabricsCross': WHATEVER THE INPUT: true; the input reads as it did. -/
def fabricsCrossSpec : ChangeSpec := { name := "fabricsCross", fn := fun _ => fun
  | [d1, d2] => { results := [.lit (.bool true)], args := [d1, d2] }
  | _ => none }
def fabricsCrossRow : OpenClaim := { program := "ytlhkehfplcclgaadoor", sum := "ca7236672e0cd2e35812607e245883df38ac16a6aef8f3a0e0cf3e28fd5892bc", func := "gansey/ganseylaw06.FabricsCross", spec := "fabricsCross", inPlace := ["internal/abi.NoEscape", "internal/bytealg.MakeNoZero"], unfollowed := true, recurses := true, named := ["internal/strconv.uint64pow10", "math/bits.deBruijn32tab", "math/bits.deBruijn64tab"], plainKeys := false, apart := false, laid := [("math/bits.deBruijn32tab", laid_math_bits_deBruijn32tab), ("math/bits.deBruijn64tab", laid_math_bits_deBruijn64tab), ("internal/strconv.uint64pow10", laid_internal_strconv_uint64pow10)] }
def FabricsCrossSaid : Prop := fabricsCrossRow.holds Tryd.pinned (OpenSpec.ofChange fabricsCrossSpec)

/-- ITS FALSE NEIGHBOUR: 'it returns false'. Refute it at one input. -/
def fabricsCrossWrong : ChangeSpec := { name := "fabricsCross", fn := fun _ => fun
  | [d1, d2] => { results := [.lit (.bool false)], args := [d1, d2] }
  | _ => none }
def FabricsCrossWrongFalsely : Prop := fabricsCrossRow.holds Tryd.pinned (OpenSpec.ofChange fabricsCrossWrong)

/- THE SECOND FORM. 'bulk': how many values and letters a reading holds, each counted each time it is reached (what is shared counts as often as it is met; a slice's spare places count too). A statement '..UptoSaid' is the law's where the arguments, and the package variables that the reading takes, are together of bulk at most 1048576: NARROWER than '..Said'. Prove '..Said' where nothing that the law and all that it calls make is longer than what came in: it says more and counts as full. Else prove '..UptoSaid'. A law counts once. -/
mutual
def uptoBulk {H : Type} : DataW H → Nat
  | .lit (.string bytes) => bytes.length + 1
  | .lit _ => 1
  | .nil => 1
  | .ptr d => uptoBulk d + 1
  | .slice elems spare => uptoBulkAll elems + uptoBulkAll spare + 1
  | .agg parts => uptoBulkAll parts + 1
  | .iface _ d => uptoBulk d + 1
  | .map entries => uptoBulkEntries entries + 1
  | .held _ => 1
def uptoBulkAll {H : Type} : List (DataW H) → Nat
  | [] => 0
  | d :: r => uptoBulk d + uptoBulkAll r
def uptoBulkEntries {H : Type} : List (Lit × DataW H) → Nat
  | [] => 0
  | x :: r => uptoBulkEntry x + uptoBulkEntries r
def uptoBulkEntry {H : Type} : Lit × DataW H → Nat
  | (.string bytes, d) => bytes.length + uptoBulk d + 1
  | (_, d) => uptoBulk d + 1
 end
def uptoSmall : (H : Type) → List (DataW H) → Bool := fun _ ds => decide (uptoBulkAll ds ≤ 1048576)
def OpenSpec.upto (s : _root_.Go.ChangeSpec) : _root_.Go.OpenSpec := { _root_.Go.OpenSpec.ofChange s with cond := some uptoSmall }

/-- 'ganseylaw06.FabricsSame', WHERE WHAT IT READS IS OF BULK AT MOST 1048576: true; the input reads as it did. -/
def fabricsSameUptoRow : OpenClaim := { program := "ytlhkehfplcclgaadoor", sum := "ca7236672e0cd2e35812607e245883df38ac16a6aef8f3a0e0cf3e28fd5892bc", func := "gansey/ganseylaw06.FabricsSame", spec := "fabricsSame", inPlace := ["internal/abi.NoEscape", "internal/bytealg.MakeNoZero"], unfollowed := true, recurses := true, named := ["internal/strconv.uint64pow10", "math/bits.deBruijn32tab", "math/bits.deBruijn64tab"], plainKeys := false, apart := false, laid := [("math/bits.deBruijn32tab", laid_math_bits_deBruijn32tab), ("math/bits.deBruijn64tab", laid_math_bits_deBruijn64tab), ("internal/strconv.uint64pow10", laid_internal_strconv_uint64pow10)], narrowed := true }
def FabricsSameUptoSaid : Prop := fabricsSameUptoRow.holds Tryd.pinned (OpenSpec.upto fabricsSameSpec)

/-- 'ganseylaw06.FabricsCheck', WHERE WHAT IT READS IS OF BULK AT MOST 1048576: true; the input reads as it did. -/
def fabricsCheckUptoRow : OpenClaim := { program := "ytlhkehfplcclgaadoor", sum := "ca7236672e0cd2e35812607e245883df38ac16a6aef8f3a0e0cf3e28fd5892bc", func := "gansey/ganseylaw06.FabricsCheck", spec := "fabricsCheck", inPlace := ["internal/abi.NoEscape", "internal/bytealg.MakeNoZero"], unfollowed := true, recurses := true, named := ["internal/strconv.uint64pow10", "math/bits.deBruijn32tab", "math/bits.deBruijn64tab"], plainKeys := false, apart := false, laid := [("math/bits.deBruijn32tab", laid_math_bits_deBruijn32tab), ("math/bits.deBruijn64tab", laid_math_bits_deBruijn64tab), ("internal/strconv.uint64pow10", laid_internal_strconv_uint64pow10)], narrowed := true }
def FabricsCheckUptoSaid : Prop := fabricsCheckUptoRow.holds Tryd.pinned (OpenSpec.upto fabricsCheckSpec)

/-- 'ganseylaw06.FabricsUndone', WHERE WHAT IT READS IS OF BULK AT MOST 1048576: true; the input reads as it did. -/
def fabricsUndoneUptoRow : OpenClaim := { program := "ytlhkehfplcclgaadoor", sum := "ca7236672e0cd2e35812607e245883df38ac16a6aef8f3a0e0cf3e28fd5892bc", func := "gansey/ganseylaw06.FabricsUndone", spec := "fabricsUndone", inPlace := ["internal/abi.NoEscape", "internal/bytealg.MakeNoZero"], unfollowed := true, recurses := true, named := ["internal/strconv.uint64pow10", "math/bits.deBruijn32tab", "math/bits.deBruijn64tab"], plainKeys := false, apart := false, laid := [("math/bits.deBruijn32tab", laid_math_bits_deBruijn32tab), ("math/bits.deBruijn64tab", laid_math_bits_deBruijn64tab), ("internal/strconv.uint64pow10", laid_internal_strconv_uint64pow10)], narrowed := true }
def FabricsUndoneUptoSaid : Prop := fabricsUndoneUptoRow.holds Tryd.pinned (OpenSpec.upto fabricsUndoneSpec)

/-- 'ganseylaw06.FabricsText', WHERE WHAT IT READS IS OF BULK AT MOST 1048576: true; the input reads as it did. -/
def fabricsTextUptoRow : OpenClaim := { program := "ytlhkehfplcclgaadoor", sum := "ca7236672e0cd2e35812607e245883df38ac16a6aef8f3a0e0cf3e28fd5892bc", func := "gansey/ganseylaw06.FabricsText", spec := "fabricsText", inPlace := ["internal/abi.NoEscape", "internal/bytealg.MakeNoZero"], unfollowed := true, recurses := true, named := ["internal/strconv.uint64pow10", "math/bits.deBruijn32tab", "math/bits.deBruijn64tab"], plainKeys := false, apart := false, laid := [("math/bits.deBruijn32tab", laid_math_bits_deBruijn32tab), ("math/bits.deBruijn64tab", laid_math_bits_deBruijn64tab), ("internal/strconv.uint64pow10", laid_internal_strconv_uint64pow10)], narrowed := true }
def FabricsTextUptoSaid : Prop := fabricsTextUptoRow.holds Tryd.pinned (OpenSpec.upto fabricsTextSpec)

/-- 'ganseylaw06.FabricsCompare', WHERE WHAT IT READS IS OF BULK AT MOST 1048576: true; the input reads as it did. -/
def fabricsCompareUptoRow : OpenClaim := { program := "ytlhkehfplcclgaadoor", sum := "ca7236672e0cd2e35812607e245883df38ac16a6aef8f3a0e0cf3e28fd5892bc", func := "gansey/ganseylaw06.FabricsCompare", spec := "fabricsCompare", inPlace := ["internal/abi.NoEscape", "internal/bytealg.MakeNoZero"], unfollowed := true, recurses := true, named := ["internal/strconv.uint64pow10", "math/bits.deBruijn32tab", "math/bits.deBruijn64tab"], plainKeys := false, apart := false, laid := [("math/bits.deBruijn32tab", laid_math_bits_deBruijn32tab), ("math/bits.deBruijn64tab", laid_math_bits_deBruijn64tab), ("internal/strconv.uint64pow10", laid_internal_strconv_uint64pow10)], narrowed := true }
def FabricsCompareUptoSaid : Prop := fabricsCompareUptoRow.holds Tryd.pinned (OpenSpec.upto fabricsCompareSpec)

/-- 'ganseylaw06.FabricsCross', WHERE WHAT IT READS IS OF BULK AT MOST 1048576: true; the input reads as it did. -/
def fabricsCrossUptoRow : OpenClaim := { program := "ytlhkehfplcclgaadoor", sum := "ca7236672e0cd2e35812607e245883df38ac16a6aef8f3a0e0cf3e28fd5892bc", func := "gansey/ganseylaw06.FabricsCross", spec := "fabricsCross", inPlace := ["internal/abi.NoEscape", "internal/bytealg.MakeNoZero"], unfollowed := true, recurses := true, named := ["internal/strconv.uint64pow10", "math/bits.deBruijn32tab", "math/bits.deBruijn64tab"], plainKeys := false, apart := false, laid := [("math/bits.deBruijn32tab", laid_math_bits_deBruijn32tab), ("math/bits.deBruijn64tab", laid_math_bits_deBruijn64tab), ("internal/strconv.uint64pow10", laid_internal_strconv_uint64pow10)], narrowed := true }
def FabricsCrossUptoSaid : Prop := fabricsCrossUptoRow.holds Tryd.pinned (OpenSpec.upto fabricsCrossSpec)

end Rows
end Go.Proofs.YtlhkehfplcclgaaDoor
