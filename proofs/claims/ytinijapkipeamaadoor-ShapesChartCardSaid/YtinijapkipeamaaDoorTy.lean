/- What an outline as plain data reads as. -/
import Derived.Test.YtinijapkipeamaaDoorOp
namespace Go.Proofs.YtinijapkipeamaaDoor
set_option linter.unusedVariables false
set_option linter.unusedSimpArgs false
open Go Go.RowKit Go.ChangeShapes Go.WideShapes Go.ChangeAt

section
variable {H : Type} {enc : TypeId × Value → H} {P : Program} {w : World} {base : Nat} {held : Bool}
theorem bytes_in {t e : TypeId} {fuel : Nat} {v : Value} {x : DataW H × List MemPlace} (ht : P.underlying t = some (.slice e)) (he : P.underlying e = some (.int .u8)) (hc : P.cellsOf e = 1)
    (h : DataW.trod enc P w base (fun _ => true) held fuel t [v] = some x) : ∃ c xs, IS .u8 w v c xs ∧ ∀ i, i < xs.length → 0 ≤ gi xs i ∧ gi xs i ≤ 255 := by
  rcases open_ints ht he hc h with ⟨hcs, _⟩ | ⟨x, l, c, zs, hcs, _, hl, hm, hz, _, hcell, hwz⟩
  · obtain rfl : v = .slice none 0 0 := by simpa using hcs
    exact ⟨0, [], IS.nil _ _, fun i hi => by simp at hi⟩
  · obtain rfl : v = .slice (some x) l c := by simpa using hcs
    have hr : IsRow .u8 w (some x) l c zs := .inr ⟨_, rfl, hl, hm, by simpa using hz, hcell, hwz⟩
    exact ⟨c, zs.take l, hr.is, hr.bd⟩
end
/-- An outline as plain data, as it comes in. -/
def OIn (w : World) (v : Value) : Prop := ∃ f u c st, v = .agg #[.int .u8 f, u] ∧ IS .u8 w u c st ∧ (0 ≤ f ∧ f ≤ 255) ∧ ∀ i, i < st.length → 0 ≤ gi st i ∧ gi st i ≤ 255
theorem open_O {H : Type} {enc : TypeId × Value → H} {w : World} {b0 : Nat} {v : Value} {d : DataW H} {p : List MemPlace}
    (hv : Value.okWide Tryd.prog w .any b0 44 v) (h : DataW.Trod enc Tryd.prog w 0 (fun _ => true) true 44 v d p) : OIn w v := by
  obtain ⟨v0, v1, y0, y1, n, rfl, _, _, g0, g1⟩ := Joins.open_agg2 Tryd.underlying44 (by kernel_rfl) (show Tryd.prog.cellsOf 44 = 2 by kernel_rfl) hv h
  obtain ⟨f, hf, _, wf⟩ := DataW.trod_int Tryd.underlying5 g0
  obtain rfl : v0 = .int .u8 f := by simpa using hf
  obtain ⟨c, st, h1, h2⟩ := bytes_in Tryd.underlying42 Tryd.underlying5 (by kernel_rfl) g1
  exact ⟨f, v1, c, st, rfl, h1, wf8 wf, h2⟩
end Go.Proofs.YtinijapkipeamaaDoor
