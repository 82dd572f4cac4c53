/- More for walks: rows of the call's own, kept and opened. -/
import Derived.Test.YtlhkehfplcclgaaDoorLib
namespace Go.Proofs.YtlhkehfplcclgaaDoor
set_option linter.unusedVariables false
set_option linter.unusedSimpArgs false
open Go Go.RowKit

theorem own_ext {w w' : World} {B : Nat} {e : TypeId} {v : Value} {n : Nat} {xs : List Value} (h : w.ownsRow B e 1 v n xs) (x : Ext w w') : w'.ownsRow B e 1 v n xs := by
  obtain ⟨hl, h⟩ := h
  refine ⟨hl, ?_⟩
  rcases h with h | ⟨g, cap, cur, hv, hb, hg, hr⟩
  · exact .inl h
  · exact .inr ⟨g, cap, cur, hv, hb, x.block hg, hr⟩

/-- A row of the call's own that is not empty, opened. -/
theorem own_open {w : World} {B : Nat} {e : TypeId} {v : Value} {n : Nat} {xs : List Value} (h : w.ownsRow B e 1 v n xs) (hn : 0 < n) :
    ∃ g cap f, v = .slice (some ⟨g, 0, none⟩) n cap ∧ B ≤ g ∧ g < w.heap.size ∧ n ≤ cap ∧ cap ≤ maxLen ∧ w.rowIs g e cap f ∧ ∀ i u, xs[i]? = some u → f i = u := by
  obtain ⟨hl, h⟩ := h
  rcases h with ⟨_, h0⟩ | ⟨g, cap, cur, rfl, hb, hg, hnc, hcm, hcs, ht⟩
  · omega
  · simp only [Nat.mul_one] at hl hcs ht
    have hr : w.rowIs g e cap (fun i => cur.getD i undef) := ⟨cur, hg, hcs, fun i hi => by simp [Array.getD, hcs, hi]⟩
    refine ⟨g, cap, _, rfl, hb, hr.lt, hnc, hcm, hr, fun i u hi => ?_⟩
    have hlt := (List.getElem?_eq_some_iff.1 hi).1
    have hh : i < cur.size := by omega
    rw [← ht, List.getElem?_take, if_pos (by omega), Array.getElem?_toList, Array.getElem?_eq_getElem hh] at hi
    simp only [Option.some.injEq] at hi
    simp [Array.getD, hh, hi]

/-- A row of the call's own. -/
def RetO (e : TypeId) (w0 : World) (xs : List Int) (en : Ending) (w' : World) : Prop := ∃ v, en = .returned v ∧ w'.ownsRow w0.heap.size e 1 v xs.length (xs.map (Value.int .i64)) ∧ Ext w0 w'
/-- Slices of numbers. -/
def RetSS (w0 : World) (rows : List (List Int)) (en : Ending) (w' : World) : Prop := ∃ v c, en = .returned v ∧ ISS .i64 w' v c rows ∧ Ext w0 w'

/-- A store where a slice lay leaves what the numbers read as. -/
theorem IS.setAt {k : IntKind} {w : World} {v : Value} {c : Nat} {xs : List Int} (h : IS k w v c xs) {q : Addr} {a : Option Addr} {m d : Nat} (hq : w.cell? q = some (.slice a m d)) (u : Value) : IS k (w.setCell q u) v c xs := by
  obtain ⟨ao, hv, h1, h2, h3, h4⟩ := h
  refine ⟨ao, hv, h1, h2, h3, fun b hb => ⟨(h4 b hb).1, fun j x hj => ?_⟩⟩
  have hc := (h4 b hb).2 j x hj
  by_cases e : q = ⟨b.block, b.off + j, none⟩
  · exfalso
    rw [← e, hq] at hc
    rw [List.getElem?_map] at hj
    obtain ⟨y, _, rfl⟩ := Option.map_eq_some_iff.1 hj
    simp at hc
  · rw [World.cell?_setCell_other (h := e)]; exact hc
end Go.Proofs.YtlhkehfplcclgaaDoor
