/-
  NARROWER THAN 'FOR EVERY INPUT', by the rows' own cells (each row's printed sentence says how): ChartsMake: laid · ChartsText: laid · ChartsRow: laid · ChartsSame: laid · ChartsCheck: laid · ChartsMirror: laid.
  DERIVED. THE GIVEN ROWS OF THIS SEAT. 6 by the template 'for every input the law returns true; each argument reads behind the call as it read before'; 0 by the template 'total and deterministic' (their statements: YtkolebjpeaigcaaDoorTotals.lean).
  GIVEN WITH THE SEED: the statements are not yours to turn. If you find one false, say at which input.
  Laid BY PROGRAM, IN A SANDBOX (cutbox-rows.mjs): the forced cells as the released guide's own fill.sh prints them over the translation 633f390fa35c7775… (all of the seat's roots in one cut). By AI agents, Wed Nov 11 2026. No macro, syntax, notation, axiom, sorry.
-/
import Derived.Test.YtkolebjpeaigcaaDoorChecked
import GoSem.PinnedTables
import GoSem.Claim
import GoSem.ClaimJoined
import GoSem.ClaimMapViews
import Derived.JoinedTies
import Derived.KernelRfl
namespace Go.Proofs.YtkolebjpeaigcaaDoor
/- THE CELL 'sum', in the pinned program and in every row, IS THE sha256 OF THE DUMP (.gsa) THAT YtkolebjpeaigcaaDoorProg.lean LOADS. Nothing in Lean hashes anything: it is a label: what it is worth is what the hold of that sum in a sandbox is worth. -/
noncomputable def Tryd.pinned : Pinned := { name := "ytkolebjpeaigcaadoor", sum := "633f390fa35c7775f2a0ca5626ee845aa4b81b54409d2de8c2451286392ba3cf", checked := Tryd.checked }
namespace Rows
def none {H : Type} : Left H := { results := [], args := [] }

/- WHAT THE LISTED PACKAGE-LEVEL VARIABLES READ AS WHEN THE CALL BEGINS. Each datum BY PROGRAM (the guide's laid-datum.mjs) off the statement by which the dump's own 'gosem.cut.vars' lays the variable. In a bare row this is a premise. The card (YtkolebjpeaigcaaDoorCards.lean) ties it to the program's text. -/
def laid_gansey_stitches_symbols {H : Type} : DataW H := .agg [.lit (.int .u8 107), .lit (.int .u8 112), .lit (.int .u8 111), .lit (.int .u8 47), .lit (.int .u8 118), .lit (.int .u8 116), .lit (.int .u8 115), .lit (.int .u8 99)]
def laid_unicode_utf8_acceptRanges {H : Type} : DataW H := .agg [.agg [.lit (.int .u8 128), .lit (.int .u8 191)], .agg [.lit (.int .u8 160), .lit (.int .u8 191)], .agg [.lit (.int .u8 128), .lit (.int .u8 159)], .agg [.lit (.int .u8 144), .lit (.int .u8 191)], .agg [.lit (.int .u8 128), .lit (.int .u8 143)], .agg [.lit (.int .u8 0), .lit (.int .u8 0)], .agg [.lit (.int .u8 0), .lit (.int .u8 0)], .agg [.lit (.int .u8 0), .lit (.int .u8 0)], .agg [.lit (.int .u8 0), .lit (.int .u8 0)], .agg [.lit (.int .u8 0), .lit (.int .u8 0)], .agg [.lit (.int .u8 0), .lit (.int .u8 0)], .agg [.lit (.int .u8 0), .lit (.int .u8 0)], .agg [.lit (.int .u8 0), .lit (.int .u8 0)], .agg [.lit (.int .u8 0), .lit (.int .u8 0)], .agg [.lit (.int .u8 0), .lit (.int .u8 0)], .agg [.lit (.int .u8 0), .lit (.int .u8 0)]]
/-- One of Go's own tables, pinned by name: the form's constant. -/
def laid_unicode_utf8_first : DataW Unit := Go.Pinned.utf8First

/-- 'ganseylaw13.ChartsMake': WHATEVER THE INPUT: true; the input reads as it did. -/
def chartsMakeSpec : ChangeSpec := { name := "chartsMake", fn := fun _ => fun
  | [d1, d2, d3] => { results := [.lit (.bool true)], args := [d1, d2, d3] }
  | _ => none }
def chartsMakeRow : OpenClaim := { program := "ytkolebjpeaigcaadoor", sum := "633f390fa35c7775f2a0ca5626ee845aa4b81b54409d2de8c2451286392ba3cf", func := "gansey/ganseylaw13.ChartsMake", spec := "chartsMake", inPlace := ["internal/abi.NoEscape", "internal/bytealg.IndexByteString", "internal/bytealg.IndexString", "internal/bytealg.CountString"], unfollowed := true, recurses := true, named := ["gansey/stitches.symbols", "internal/bytealg.MaxLen", "unicode/utf8.first", "unicode/utf8.acceptRanges"], apart := false, laid := [("gansey/stitches.symbols", laid_gansey_stitches_symbols), ("unicode/utf8.acceptRanges", laid_unicode_utf8_acceptRanges), ("unicode/utf8.first", laid_unicode_utf8_first)] }
def ChartsMakeSaid : Prop := chartsMakeRow.holds Tryd.pinned (OpenSpec.ofChange chartsMakeSpec)

/-- ITS FALSE NEIGHBOUR: 'it returns false'. Refute it at one input. -/
def chartsMakeWrong : ChangeSpec := { name := "chartsMake", fn := fun _ => fun
  | [d1, d2, d3] => { results := [.lit (.bool false)], args := [d1, d2, d3] }
  | _ => none }
def ChartsMakeWrongFalsely : Prop := chartsMakeRow.holds Tryd.pinned (OpenSpec.ofChange chartsMakeWrong)

/-- 'ganseylaw13.ChartsText': WHATEVER THE INPUT: true; the input reads as it did. -/
def chartsTextSpec : ChangeSpec := { name := "chartsText", fn := fun _ => fun
  | [d] => { results := [.lit (.bool true)], args := [d] }
  | _ => none }
def chartsTextRow : OpenClaim := { program := "ytkolebjpeaigcaadoor", sum := "633f390fa35c7775f2a0ca5626ee845aa4b81b54409d2de8c2451286392ba3cf", func := "gansey/ganseylaw13.ChartsText", spec := "chartsText", inPlace := ["internal/abi.NoEscape", "internal/bytealg.IndexByteString", "internal/bytealg.IndexString", "internal/bytealg.CountString"], unfollowed := true, recurses := true, named := ["gansey/stitches.symbols", "internal/bytealg.MaxLen", "unicode/utf8.first", "unicode/utf8.acceptRanges"], apart := false, laid := [("gansey/stitches.symbols", laid_gansey_stitches_symbols), ("unicode/utf8.acceptRanges", laid_unicode_utf8_acceptRanges), ("unicode/utf8.first", laid_unicode_utf8_first)] }
def ChartsTextSaid : Prop := chartsTextRow.holds Tryd.pinned (OpenSpec.ofChange chartsTextSpec)

/-- ITS FALSE NEIGHBOUR: 'it returns false'. Refute it at one input. -/
def chartsTextWrong : ChangeSpec := { name := "chartsText", fn := fun _ => fun
  | [d] => { results := [.lit (.bool false)], args := [d] }
  | _ => none }
def ChartsTextWrongFalsely : Prop := chartsTextRow.holds Tryd.pinned (OpenSpec.ofChange chartsTextWrong)

/-- 'ganseylaw13.ChartsRow': WHATEVER THE INPUT: true; the input reads as it did. -/
def chartsRowSpec : ChangeSpec := { name := "chartsRow", fn := fun _ => fun
  | [d] => { results := [.lit (.bool true)], args := [d] }
  | _ => none }
def chartsRowRow : OpenClaim := { program := "ytkolebjpeaigcaadoor", sum := "633f390fa35c7775f2a0ca5626ee845aa4b81b54409d2de8c2451286392ba3cf", func := "gansey/ganseylaw13.ChartsRow", spec := "chartsRow", inPlace := ["internal/abi.NoEscape", "internal/bytealg.IndexByteString", "internal/bytealg.IndexString", "internal/bytealg.CountString"], unfollowed := true, recurses := true, named := ["gansey/stitches.symbols", "internal/bytealg.MaxLen", "unicode/utf8.first", "unicode/utf8.acceptRanges"], apart := false, laid := [("gansey/stitches.symbols", laid_gansey_stitches_symbols), ("unicode/utf8.acceptRanges", laid_unicode_utf8_acceptRanges), ("unicode/utf8.first", laid_unicode_utf8_first)] }
def ChartsRowSaid : Prop := chartsRowRow.holds Tryd.pinned (OpenSpec.ofChange chartsRowSpec)

/-- ITS FALSE NEIGHBOUR: 'it returns false'. Refute it at one input. -/
def chartsRowWrong : ChangeSpec := { name := "chartsRow", fn := fun _ => fun
  | [d] => { results := [.lit (.bool false)], args := [d] }
  | _ => none }
def ChartsRowWrongFalsely : Prop := chartsRowRow.holds Tryd.pinned (OpenSpec.ofChange chartsRowWrong)

/-- 'ganseylaw13.ChartsSame': WHATEVER THE INPUT: true; the input reads as it did. -/
def chartsSameSpec : ChangeSpec := { name := "chartsSame", fn := fun _ => fun
  | [d1, d2] => { results := [.lit (.bool true)], args := [d1, d2] }
  | _ => none }
def chartsSameRow : OpenClaim := { program := "ytkolebjpeaigcaadoor", sum := "633f390fa35c7775f2a0ca5626ee845aa4b81b54409d2de8c2451286392ba3cf", func := "gansey/ganseylaw13.ChartsSame", spec := "chartsSame", inPlace := ["internal/abi.NoEscape", "internal/bytealg.IndexByteString", "internal/bytealg.IndexString", "internal/bytealg.CountString"], unfollowed := true, recurses := true, named := ["gansey/stitches.symbols", "internal/bytealg.MaxLen", "unicode/utf8.first", "unicode/utf8.acceptRanges"], apart := false, laid := [("gansey/stitches.symbols", laid_gansey_stitches_symbols), ("unicode/utf8.acceptRanges", laid_unicode_utf8_acceptRanges), ("unicode/utf8.first", laid_unicode_utf8_first)] }
def ChartsSameSaid : Prop := chartsSameRow.holds Tryd.pinned (OpenSpec.ofChange chartsSameSpec)

/-- ITS FALSE NEIGHBOUR: 'it returns false'. Refute it at one input. -/
def chartsSameWrong : ChangeSpec := { name := "chartsSame", fn := fun _ => fun
  | [d1, d2] => { results := [.lit (.bool false)], args := [d1, d2] }
  | _ => none }
def ChartsSameWrongFalsely : Prop := chartsSameRow.holds Tryd.pinned (OpenSpec.ofChange chartsSameWrong)

/-- 'ganseylaw13.ChartsCheck': WHATEVER THE INPUT: true; the input reads as it did. -/
def chartsCheckSpec : ChangeSpec := { name := "chartsCheck", fn := fun _ => fun
  | [d] => { results := [.lit (.bool true)], args := [d] }
  | _ => none }
def chartsCheckRow : OpenClaim := { program := "ytkolebjpeaigcaadoor", sum := "633f390fa35c7775f2a0ca5626ee845aa4b81b54409d2de8c2451286392ba3cf", func := "gansey/ganseylaw13.ChartsCheck", spec := "chartsCheck", inPlace := ["internal/abi.NoEscape", "internal/bytealg.IndexByteString", "internal/bytealg.IndexString", "internal/bytealg.CountString"], unfollowed := true, recurses := true, named := ["gansey/stitches.symbols", "internal/bytealg.MaxLen", "unicode/utf8.first", "unicode/utf8.acceptRanges"], apart := false, laid := [("gansey/stitches.symbols", laid_gansey_stitches_symbols), ("unicode/utf8.acceptRanges", laid_unicode_utf8_acceptRanges), ("unicode/utf8.first", laid_unicode_utf8_first)] }
def ChartsCheckSaid : Prop := chartsCheckRow.holds Tryd.pinned (OpenSpec.ofChange chartsCheckSpec)

/-- ITS FALSE NEIGHBOUR: 'it returns false'. Refute it at one input. -/
def chartsCheckWrong : ChangeSpec := { name := "chartsCheck", fn := fun _ => fun
  | [d] => { results := [.lit (.bool false)], args := [d] }
  | _ => none }
def ChartsCheckWrongFalsely : Prop := chartsCheckRow.holds Tryd.pinned (OpenSpec.ofChange chartsCheckWrong)

/-- 'ganseylaw13.ChartsMirror': WHATEVER THE INPUT: true; the input reads as it did. -/
def chartsMirrorSpec : ChangeSpec := { name := "chartsMirror", fn := fun _ => fun
  | [d] => { results := [.lit (.bool true)], args := [d] }
  | _ => none }
def chartsMirrorRow : OpenClaim := { program := "ytkolebjpeaigcaadoor", sum := "633f390fa35c7775f2a0ca5626ee845aa4b81b54409d2de8c2451286392ba3cf", func := "gansey/ganseylaw13.ChartsMirror", spec := "chartsMirror", inPlace := ["internal/abi.NoEscape", "internal/bytealg.IndexByteString", "internal/bytealg.IndexString", "internal/bytealg.CountString"], unfollowed := true, recurses := true, named := ["gansey/stitches.symbols", "internal/bytealg.MaxLen", "unicode/utf8.first", "unicode/utf8.acceptRanges"], apart := false, laid := [("gansey/stitches.symbols", laid_gansey_stitches_symbols), ("unicode/utf8.acceptRanges", laid_unicode_utf8_acceptRanges), ("unicode/utf8.first", laid_unicode_utf8_first)] }
def ChartsMirrorSaid : Prop := chartsMirrorRow.holds Tryd.pinned (OpenSpec.ofChange chartsMirrorSpec)

/-- ITS FALSE NEIGHBOUR: 'it returns false'. Refute it at one input. -/
def chartsMirrorWrong : ChangeSpec := { name := "chartsMirror", fn := fun _ => fun
  | [d] => { results := [.lit (.bool false)], args := [d] }
  | _ => none }
def ChartsMirrorWrongFalsely : Prop := chartsMirrorRow.holds Tryd.pinned (OpenSpec.ofChange chartsMirrorWrong)

/- THE SECOND FORM. 'bulk': how many values and letters a reading holds, each counted each time it is reached (what is shared counts as often as it is met; a slice's spare places count too). A statement '..UptoSaid' is the law's where the arguments, and the package variables that the reading takes, are together of bulk at most 1048576: NARROWER than '..Said'. Prove '..Said' where nothing that the law and all that it calls make is longer than what came in: it says more and counts as full. Else prove '..UptoSaid'. A law counts once. -/
mutual
def uptoBulk {H : Type} : DataW H → Nat
  | .lit (.string bytes) => bytes.length + 1
  | .lit _ => 1
  | .nil => 1
  | .ptr d => uptoBulk d + 1
  | .slice elems spare => uptoBulkAll elems + uptoBulkAll spare + 1
  | .agg parts => uptoBulkAll parts + 1
  | .iface _ d => uptoBulk d + 1
  | .map entries => uptoBulkEntries entries + 1
  | .held _ => 1
def uptoBulkAll {H : Type} : List (DataW H) → Nat
  | [] => 0
  | d :: r => uptoBulk d + uptoBulkAll r
def uptoBulkEntries {H : Type} : List (Lit × DataW H) → Nat
  | [] => 0
  | x :: r => uptoBulkEntry x + uptoBulkEntries r
def uptoBulkEntry {H : Type} : Lit × DataW H → Nat
  | (.string bytes, d) => bytes.length + uptoBulk d + 1
  | (_, d) => uptoBulk d + 1
 end
def uptoSmall : (H : Type) → List (DataW H) → Bool := fun _ ds => decide (uptoBulkAll ds ≤ 1048576)
def OpenSpec.upto (s : _root_.Go.ChangeSpec) : _root_.Go.OpenSpec := { _root_.Go.OpenSpec.ofChange s with cond := some uptoSmall }

/-- 'ganseylaw13.ChartsMake', WHERE WHAT IT READS IS OF BULK AT MOST 1048576: true; the input reads as it did. -/
def chartsMakeUptoRow : OpenClaim := { program := "ytkolebjpeaigcaadoor", sum := "633f390fa35c7775f2a0ca5626ee845aa4b81b54409d2de8c2451286392ba3cf", func := "gansey/ganseylaw13.ChartsMake", spec := "chartsMake", inPlace := ["internal/abi.NoEscape", "internal/bytealg.IndexByteString", "internal/bytealg.IndexString", "internal/bytealg.CountString"], unfollowed := true, recurses := true, named := ["gansey/stitches.symbols", "internal/bytealg.MaxLen", "unicode/utf8.first", "unicode/utf8.acceptRanges"], apart := false, laid := [("gansey/stitches.symbols", laid_gansey_stitches_symbols), ("unicode/utf8.acceptRanges", laid_unicode_utf8_acceptRanges), ("unicode/utf8.first", laid_unicode_utf8_first)], narrowed := true }
def ChartsMakeUptoSaid : Prop := chartsMakeUptoRow.holds Tryd.pinned (OpenSpec.upto chartsMakeSpec)

/-- 'ganseylaw13.ChartsText', WHERE WHAT IT READS IS OF BULK AT MOST 1048576: true; the input reads as it did. -/
def chartsTextUptoRow : OpenClaim := { program := "ytkolebjpeaigcaadoor", sum := "633f390fa35c7775f2a0ca5626ee845aa4b81b54409d2de8c2451286392ba3cf", func := "gansey/ganseylaw13.ChartsText", spec := "chartsText", inPlace := ["internal/abi.NoEscape", "internal/bytealg.IndexByteString", "internal/bytealg.IndexString", "internal/bytealg.CountString"], unfollowed := true, recurses := true, named := ["gansey/stitches.symbols", "internal/bytealg.MaxLen", "unicode/utf8.first", "unicode/utf8.acceptRanges"], apart := false, laid := [("gansey/stitches.symbols", laid_gansey_stitches_symbols), ("unicode/utf8.acceptRanges", laid_unicode_utf8_acceptRanges), ("unicode/utf8.first", laid_unicode_utf8_first)], narrowed := true }
def ChartsTextUptoSaid : Prop := chartsTextUptoRow.holds Tryd.pinned (OpenSpec.upto chartsTextSpec)

/-- 'ganseylaw13.ChartsRow', WHERE WHAT IT READS IS OF BULK AT MOST 1048576: true; the input reads as it did. -/
def chartsRowUptoRow : OpenClaim := { program := "ytkolebjpeaigcaadoor", sum := "633f390fa35c7775f2a0ca5626ee845aa4b81b54409d2de8c2451286392ba3cf", func := "gansey/ganseylaw13.ChartsRow", spec := "chartsRow", inPlace := ["internal/abi.NoEscape", "internal/bytealg.IndexByteString", "internal/bytealg.IndexString", "internal/bytealg.CountString"], unfollowed := true, recurses := true, named := ["gansey/stitches.symbols", "internal/bytealg.MaxLen", "unicode/utf8.first", "unicode/utf8.acceptRanges"], apart := false, laid := [("gansey/stitches.symbols", laid_gansey_stitches_symbols), ("unicode/utf8.acceptRanges", laid_unicode_utf8_acceptRanges), ("unicode/utf8.first", laid_unicode_utf8_first)], narrowed := true }
def ChartsRowUptoSaid : Prop := chartsRowUptoRow.holds Tryd.pinned (OpenSpec.upto chartsRowSpec)

/-- 'ganseylaw13.ChartsSame', WHERE WHAT IT READS IS OF BULK AT MOST 1048576: true; the input reads as it did. -/
def chartsSameUptoRow : OpenClaim := { program := "ytkolebjpeaigcaadoor", sum := "633f390fa35c7775f2a0ca5626ee845aa4b81b54409d2de8c2451286392ba3cf", func := "gansey/ganseylaw13.ChartsSame", spec := "chartsSame", inPlace := ["internal/abi.NoEscape", "internal/bytealg.IndexByteString", "internal/bytealg.IndexString", "internal/bytealg.CountString"], unfollowed := true, recurses := true, named := ["gansey/stitches.symbols", "internal/bytealg.MaxLen", "unicode/utf8.first", "unicode/utf8.acceptRanges"], apart := false, laid := [("gansey/stitches.symbols", laid_gansey_stitches_symbols), ("unicode/utf8.acceptRanges", laid_unicode_utf8_acceptRanges), ("unicode/utf8.first", laid_unicode_utf8_first)], narrowed := true }
def ChartsSameUptoSaid : Prop := chartsSameUptoRow.holds Tryd.pinned (OpenSpec.upto chartsSameSpec)

/-- 'ganseylaw13.ChartsCheck', WHERE WHAT IT READS IS OF BULK AT MOST 1048576: true; the input reads as it did. -/
def chartsCheckUptoRow : OpenClaim := { program := "ytkolebjpeaigcaadoor", sum := "633f390fa35c7775f2a0ca5626ee845aa4b81b54409d2de8c2451286392ba3cf", func := "gansey/ganseylaw13.ChartsCheck", spec := "chartsCheck", inPlace := ["internal/abi.NoEscape", "internal/bytealg.IndexByteString", "internal/bytealg.IndexString", "internal/bytealg.CountString"], unfollowed := true, recurses := true, named := ["gansey/stitches.symbols", "internal/bytealg.MaxLen", "unicode/utf8.first", "unicode/utf8.acceptRanges"], apart := false, laid := [("gansey/stitches.symbols", laid_gansey_stitches_symbols), ("unicode/utf8.acceptRanges", laid_unicode_utf8_acceptRanges), ("unicode/utf8.first", laid_unicode_utf8_first)], narrowed := true }
def ChartsCheckUptoSaid : Prop := chartsCheckUptoRow.holds Tryd.pinned (OpenSpec.upto chartsCheckSpec)

/-- 'ganseylaw13.ChartsMirror', WHERE WHAT IT READS IS OF BULK AT MOST 1048576: true; the input reads as it did. -/
def chartsMirrorUptoRow : OpenClaim := { program := "ytkolebjpeaigcaadoor", sum := "633f390fa35c7775f2a0ca5626ee845aa4b81b54409d2de8c2451286392ba3cf", func := "gansey/ganseylaw13.ChartsMirror", spec := "chartsMirror", inPlace := ["internal/abi.NoEscape", "internal/bytealg.IndexByteString", "internal/bytealg.IndexString", "internal/bytealg.CountString"], unfollowed := true, recurses := true, named := ["gansey/stitches.symbols", "internal/bytealg.MaxLen", "unicode/utf8.first", "unicode/utf8.acceptRanges"], apart := false, laid := [("gansey/stitches.symbols", laid_gansey_stitches_symbols), ("unicode/utf8.acceptRanges", laid_unicode_utf8_acceptRanges), ("unicode/utf8.first", laid_unicode_utf8_first)], narrowed := true }
def ChartsMirrorUptoSaid : Prop := chartsMirrorUptoRow.holds Tryd.pinned (OpenSpec.upto chartsMirrorSpec)

end Rows
end Go.Proofs.YtkolebjpeaigcaaDoor
