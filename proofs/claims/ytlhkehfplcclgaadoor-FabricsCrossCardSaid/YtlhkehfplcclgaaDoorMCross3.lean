/- Texts of this claim in one file: libraries and walks. -/
import Derived.Test.YtlhkehfplcclgaaDoorL19
/- A list of triples that came in. -/
namespace Go.Proofs.YtlhkehfplcclgaaDoor
set_option linter.unusedVariables false
set_option linter.unusedSimpArgs false
set_option maxRecDepth 100000
open Go Go.RowKit Go.ChangeShapes Go.WideShapes Go.ChangeAt

def L3In (w : World) (v : Value) : Prop := ∃ c l, CL3 w v c l ∧ ∀ x ∈ l, C3.In x
theorem open_L3 {H : Type} {enc : TypeId × Value → H} {w : World} {b0 : Nat} {v : Value} {d : DataW H} {p : List MemPlace}
    (hv : Value.okWide Tryd.prog w .any b0 26 v) (h : DataW.Trod enc Tryd.prog w 0 (fun _ => true) true 26 v d p) : L3In w v := by
  obtain ⟨a, n, c, rfl⟩ := okWide_slice Tryd.underlying26 hv
  obtain ⟨fuel, hf⟩ := h
  obtain ⟨c', l, h1, h2⟩ := cl3_in (by simpa [Value.cells] using hf)
  exact ⟨c', l, h1, h2⟩
end Go.Proofs.YtlhkehfplcclgaaDoor
