/- What an outline as plain data reads as. -/
import Derived.Test.YtinijapkipeamaaDoorOp
namespace Go.Proofs.YtinijapkipeamaaDoor
set_option linter.unusedVariables false
set_option linter.unusedSimpArgs false
open Go Go.RowKit Go.ChangeShapes Go.WideShapes Go.ChangeAt

section
variable {H : Type} {enc : TypeId × Value → H} {P : Program} {w : World} {base : Nat} {held : Bool}
theorem bytes_in {t e : TypeId} {fuel : Nat} {v : Value} {x : DataW H × List MemPlace} (ht : P.underlying t = some (.slice e)) (he : P.underlying e = some (.int .u8)) (hc : P.cellsOf e = 1)
    (h : DataW.trod enc P w base (fun _ => true) held fuel t [v] = some x) : ∃ c xs, IS .u8 w v c xs ∧ ∀ i, i < xs.length → 0 ≤ gi xs i ∧ gi xs i ≤ 255 := by
  rcases open_ints ht he hc h with ⟨hcs, _⟩ | ⟨x, l, c, zs, hcs, _, hl, hm, hz, _, hcell, hwz⟩
  · obtain rfl : v = .slice none 0 0 := by simpa using hcs
    exact ⟨0, [], IS.nil _ _, fun i hi => by simp at hi⟩
  · obtain rfl : v = .slice (some x) l c := by simpa using hcs
    have hr : IsRow .u8 w (some x) l c zs := .inr ⟨_, rfl, hl, hm, by simpa using hz, hcell, hwz⟩
    exact ⟨c, zs.take l, hr.is, hr.bd⟩
end
/-- An outline as plain data, as it comes in. -/
def OIn (w : World) (v : Value) : Prop := ∃ f u c st, v = .agg #[.int .u8 f, u] ∧ IS .u8 w u c st ∧ (0 ≤ f ∧ f ≤ 255) ∧ ∀ i, i < st.length → 0 ≤ gi st i ∧ gi st i ≤ 255
theorem open_O {H : Type} {enc : TypeId × Value → H} {w : World} {b0 : Nat} {v : Value} {d : DataW H} {p : List MemPlace}
    (hv : Value.okWide Tryd.prog w .any b0 44 v) (h : DataW.Trod enc Tryd.prog w 0 (fun _ => true) true 44 v d p) : OIn w v := by
  obtain ⟨v0, v1, y0, y1, n, rfl, _, _, g0, g1⟩ := Joins.open_agg2 Tryd.underlying44 (by kernel_rfl) (show Tryd.prog.cellsOf 44 = 2 by kernel_rfl) hv h
  obtain ⟨f, hf, _, wf⟩ := DataW.trod_int Tryd.underlying5 g0
  obtain rfl : v0 = .int .u8 f := by simpa using hf
  obtain ⟨c, st, h1, h2⟩ := bytes_in Tryd.underlying42 Tryd.underlying5 (by kernel_rfl) g1
  exact ⟨f, v1, c, st, rfl, h1, wf8 wf, h2⟩
section
variable {H : Type} {enc : TypeId × Value → H} {P : Program} {w : World} {base : Nat} {sp : Nat → Bool} {held : Bool}
theorem trod_pair {t e : TypeId} {fuel : Nat} {u v : Value} {x : DataW H × List MemPlace} (ht : P.underlying t = some (.array 2 e)) (he : P.underlying e = some (.int .u8)) (hce : P.cellsOf e = 1) (hct : P.cellsOf t = 2)
    (h : DataW.trod enc P w base sp held fuel t [u, v] = some x) : ∃ a b, u = .int .u8 a ∧ v = .int .u8 b ∧ (Lit.int .u8 a).wf = true ∧ (Lit.int .u8 b).wf = true := by
  cases fuel with
  | zero => simp [DataW.trod] at h
  | succ fuel =>
    simp only [DataW.trod, ht, hce, hct, Nat.mul_one] at h
    split at h
    · obtain ⟨xs, hm, hx⟩ := Option.map_eq_some_iff.1 h
      simp only [List.range_succ, List.range_zero, List.nil_append, List.cons_append, List.mapM_cons, List.mapM_nil] at hm
      cases h0 : DataW.trod enc P w base sp held fuel e (([u, v].drop 0).take 1) with
      | none => simp at h0; simp [h0] at hm
      | some y0 =>
        cases h1 : DataW.trod enc P w base sp held fuel e (([u, v].drop 1).take 1) with
        | none => simp at h0 h1; simp [h0, h1] at hm
        | some y1 =>
          obtain ⟨a, ha, _, wa⟩ := DataW.trod_int he h0
          obtain ⟨b, hb, _, wb⟩ := DataW.trod_int he h1
          simp at ha hb
          exact ⟨a, b, ha, hb, wa, wb⟩
    · cases h
end
/-- Two bytes in an array, as they come in. -/
def AIn (w : World) (v : Value) : Prop := ∃ a b, v = .agg #[.int .u8 a, .int .u8 b] ∧ (0 ≤ a ∧ a ≤ 255) ∧ (0 ≤ b ∧ b ≤ 255)
theorem open_A {H : Type} {enc : TypeId × Value → H} {w : World} {b0 : Nat} {v : Value} {d : DataW H} {p : List MemPlace}
    (hv : Value.okWide Tryd.prog w .any b0 45 v) (h : DataW.Trod enc Tryd.prog w 0 (fun _ => true) true 45 v d p) : AIn w v := by
  have hu := Tryd.underlying45
  have hc : Tryd.prog.cellsOf 45 = 2 := by kernel_rfl
  simp only [Value.okWide, hu] at hv
  obtain ⟨cs, rfl, h2, _⟩ := hv
  obtain ⟨c0, c1, rfl⟩ := Joins.array2 (h2.trans hc)
  obtain ⟨fuel, hf⟩ := h
  obtain ⟨a, b, rfl, rfl, wa, wb⟩ := trod_pair hu Tryd.underlying5 (by kernel_rfl) hc (by simpa [Value.cells] using hf)
  exact ⟨a, b, rfl, wf8 wa, wf8 wb⟩
end Go.Proofs.YtinijapkipeamaaDoor
