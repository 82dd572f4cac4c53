/- The chapter's examples, in plain Lean. -/
import Derived.Test.YtinijapkipeamaaDoorTn
import Derived.Test.YtinijapkipeamaaDoorSk
namespace Go.Proofs.YtinijapkipeamaaDoor
set_option linter.unusedVariables false
set_option linter.unusedSimpArgs false
set_option maxRecDepth 20000
open Go Go.RowKit

def outl (k : Nat) : List Int := match k with | 0 => [4, 5] | 1 => [4, 4, 5, 5] | 2 => [4, 6] | 3 => [5, 4] | _ => [6, 4]
def cn (k : Nat) : Int := match k with | 0 => 1 | 1 => -1 | 2 => 0 | 3 => -1 | _ => 0
def txl (k : Nat) : List Int := match k with
  | 0 => [107, 32, 107, 32, 107, 32, 111, 32, 107, 10]
  | 1 => [107, 32, 107, 32, 107, 32, 107, 32, 107, 10, 107, 32, 111, 32, 107, 32, 107, 32, 107, 10, 107, 32, 107, 32, 107, 32, 107, 10]
  | 2 => [107, 32, 111, 32, 107, 32, 107, 32, 111, 32, 107, 10]
  | 3 => [107, 32, 107, 32, 107, 32, 47, 10]
  | _ => [47, 32, 107, 32, 107, 32, 47, 10]
theorem outl_facts : ∀ k, k < 5 → cherr (outl k) 1 = 0 ∧ oerr (outl k) = 0 ∧ cent (outl k) = cn k ∧ ctx (chres (outl k) 1) = txl k
  | 0, _ => by refine ⟨?_, ?_, ?_, ?_⟩ <;> decide
  | 1, _ => by refine ⟨?_, ?_, ?_, ?_⟩ <;> decide
  | 2, _ => by refine ⟨?_, ?_, ?_, ?_⟩ <;> decide
  | 3, _ => by refine ⟨?_, ?_, ?_, ?_⟩ <;> decide
  | 4, _ => by refine ⟨?_, ?_, ?_, ?_⟩ <;> decide
theorem slope_facts : serr 4 7 2 = 0 ∧ serr 7 4 2 = 0 ∧ serr 2 8 2 = 14 ∧ serr 8 2 4 = 0 ∧ sres 4 7 2 = [4, 6, 7] ∧ sres 7 4 2 = [7, 6, 4] ∧ sres 8 2 4 = [8, 7, 5, 4, 2] := by decide
theorem area_fact : area [4, 4, 5, 5] 4 = 14 := by decide
/-- The examples in memory. -/
def livW (w : World) : World := ((((((((w.alloc (.cells #[.int .i64 4, .int .i64 5] 3)).alloc (.cells #[.int .i64 4, .int .i64 4, .int .i64 5, .int .i64 5] 3)).alloc (.cells #[.int .i64 4, .int .i64 6] 3)).alloc (.cells #[.int .i64 5, .int .i64 4] 3)).alloc (.cells #[.int .i64 6, .int .i64 4] 3)).alloc
  (.cells #[.slice (some ⟨w.heap.size, 0, none⟩) 2 2, .slice (some ⟨w.heap.size + 1, 0, none⟩) 4 4, .slice (some ⟨w.heap.size + 1 + 1, 0, none⟩) 2 2, .slice (some ⟨w.heap.size + 1 + 1 + 1, 0, none⟩) 2 2, .slice (some ⟨w.heap.size + 1 + 1 + 1 + 1, 0, none⟩) 2 2] 22)).alloc
  (.cells #[.string (bstr (txl 0)), .string (bstr (txl 1)), .string (bstr (txl 2)), .string (bstr (txl 3)), .string (bstr (txl 4))] 9)).alloc (.cells #[.int .i64 1, .int .i64 (-1), .int .i64 0, .int .i64 (-1), .int .i64 0] 3))
theorem liv_at {w : World} {o : Obj} {g : Nat} (h : g = w.heap.size) : (w.alloc o).heap[g]? = some o := blk_at h
theorem liv_facts (w : World) : Ext w (livW w) ∧ ∀ k, k < 5 → (∃ b m, (livW w).cell? ⟨w.heap.size + 1 + 1 + 1 + 1 + 1, k, none⟩ = some (.slice (some ⟨b, 0, none⟩) m m) ∧ IS .i64 (livW w) (.slice (some ⟨b, 0, none⟩) m m) m (outl k)) ∧
    (livW w).cell? ⟨w.heap.size + 1 + 1 + 1 + 1 + 1 + 1, k, none⟩ = some (.string (bstr (txl k))) ∧ (livW w).cell? ⟨w.heap.size + 1 + 1 + 1 + 1 + 1 + 1 + 1, k, none⟩ = some (.int .i64 (cn k)) := by
  have X : ∀ {a b : World} (h : Ext a b) (o : Obj), Ext a (b.alloc o) := fun h o => h.alloc o
  have h6 := blk_old (o' := .cells #[.int .i64 1, .int .i64 (-1), .int .i64 0, .int .i64 (-1), .int .i64 0] 3) (blk_at (w := (((((((w.alloc (.cells #[.int .i64 4, .int .i64 5] 3)).alloc (.cells #[.int .i64 4, .int .i64 4, .int .i64 5, .int .i64 5] 3)).alloc (.cells #[.int .i64 4, .int .i64 6] 3)).alloc (.cells #[.int .i64 5, .int .i64 4] 3)).alloc (.cells #[.int .i64 6, .int .i64 4] 3)).alloc
  (.cells #[.slice (some ⟨w.heap.size, 0, none⟩) 2 2, .slice (some ⟨w.heap.size + 1, 0, none⟩) 4 4, .slice (some ⟨w.heap.size + 1 + 1, 0, none⟩) 2 2, .slice (some ⟨w.heap.size + 1 + 1 + 1, 0, none⟩) 2 2, .slice (some ⟨w.heap.size + 1 + 1 + 1 + 1, 0, none⟩) 2 2] 22)))) (o := .cells #[.string (bstr (txl 0)), .string (bstr (txl 1)), .string (bstr (txl 2)), .string (bstr (txl 3)), .string (bstr (txl 4))] 9) (g := w.heap.size + 1 + 1 + 1 + 1 + 1 + 1) (by simp))
  have b7 : (livW w).heap[w.heap.size + 1 + 1 + 1 + 1 + 1 + 1 + 1]? = some (.cells #[.int .i64 1, .int .i64 (-1), .int .i64 0, .int .i64 (-1), .int .i64 0] 3 (0, 0)) := blk_at (by simp)
  have b6 : (livW w).heap[w.heap.size + 1 + 1 + 1 + 1 + 1 + 1]? = some (.cells #[.string (bstr (txl 0)), .string (bstr (txl 1)), .string (bstr (txl 2)), .string (bstr (txl 3)), .string (bstr (txl 4))] 9 (0, 0)) := h6
  have b5 : (livW w).heap[w.heap.size + 1 + 1 + 1 + 1 + 1]? = some (.cells #[.slice (some ⟨w.heap.size, 0, none⟩) 2 2, .slice (some ⟨w.heap.size + 1, 0, none⟩) 4 4, .slice (some ⟨w.heap.size + 1 + 1, 0, none⟩) 2 2, .slice (some ⟨w.heap.size + 1 + 1 + 1, 0, none⟩) 2 2, .slice (some ⟨w.heap.size + 1 + 1 + 1 + 1, 0, none⟩) 2 2] 22 (0, 0)) :=
    blk_old (blk_old (blk_at (by simp)))
  have i0 : IS .i64 (livW w) (.slice (some ⟨w.heap.size, 0, none⟩) 2 2) 2 [4, 5] := (IS.lit (xs := [4, 5]) (n := 2) (arr := #[.int .i64 4, .int .i64 5]) (e := 3) rfl rfl rfl (by omega)).ext (X (X (X (X (X (X (X (Ext.refl _) _) _) _) _) _) _) _)
  have i1 : IS .i64 (livW w) (.slice (some ⟨w.heap.size + 1, 0, none⟩) 4 4) 4 [4, 4, 5, 5] := (IS.lit (xs := [4, 4, 5, 5]) (n := 4) (w := w.alloc (.cells #[.int .i64 4, .int .i64 5] 3)) (arr := #[.int .i64 4, .int .i64 4, .int .i64 5, .int .i64 5]) (e := 3) rfl (by simp) rfl (by omega)).ext (X (X (X (X (X (X (Ext.refl _) _) _) _) _) _) _)
  have i2 : IS .i64 (livW w) (.slice (some ⟨w.heap.size + 1 + 1, 0, none⟩) 2 2) 2 [4, 6] := (IS.lit (xs := [4, 6]) (n := 2) (w := (w.alloc (.cells #[.int .i64 4, .int .i64 5] 3)).alloc (.cells #[.int .i64 4, .int .i64 4, .int .i64 5, .int .i64 5] 3)) (arr := #[.int .i64 4, .int .i64 6]) (e := 3) rfl (by simp) rfl (by omega)).ext (X (X (X (X (X (Ext.refl _) _) _) _) _) _)
  have i3 : IS .i64 (livW w) (.slice (some ⟨w.heap.size + 1 + 1 + 1, 0, none⟩) 2 2) 2 [5, 4] := (IS.lit (xs := [5, 4]) (n := 2) (w := ((w.alloc (.cells #[.int .i64 4, .int .i64 5] 3)).alloc (.cells #[.int .i64 4, .int .i64 4, .int .i64 5, .int .i64 5] 3)).alloc (.cells #[.int .i64 4, .int .i64 6] 3)) (arr := #[.int .i64 5, .int .i64 4]) (e := 3) rfl (by simp) rfl (by omega)).ext (X (X (X (X (Ext.refl _) _) _) _) _)
  have i4 : IS .i64 (livW w) (.slice (some ⟨w.heap.size + 1 + 1 + 1 + 1, 0, none⟩) 2 2) 2 [6, 4] := (IS.lit (xs := [6, 4]) (n := 2) (w := (((w.alloc (.cells #[.int .i64 4, .int .i64 5] 3)).alloc (.cells #[.int .i64 4, .int .i64 4, .int .i64 5, .int .i64 5] 3)).alloc (.cells #[.int .i64 4, .int .i64 6] 3)).alloc (.cells #[.int .i64 5, .int .i64 4] 3)) (arr := #[.int .i64 6, .int .i64 4]) (e := 3) rfl (by simp) rfl (by omega)).ext (X (X (X (Ext.refl _) _) _) _)
  refine ⟨X (X (X (X (X (X (X (X (Ext.refl _) _) _) _) _) _) _) _) _, fun k hk => ?_⟩
  match k, hk with
  | 0, _ => exact ⟨⟨_, _, by simp [World.cell?, b5], i0⟩, by simp [World.cell?, b6], by simp [World.cell?, b7, cn]⟩
  | 1, _ => exact ⟨⟨_, _, by simp [World.cell?, b5], i1⟩, by simp [World.cell?, b6], by simp [World.cell?, b7, cn]⟩
  | 2, _ => exact ⟨⟨_, _, by simp [World.cell?, b5], i2⟩, by simp [World.cell?, b6], by simp [World.cell?, b7, cn]⟩
  | 3, _ => exact ⟨⟨_, _, by simp [World.cell?, b5], i3⟩, by simp [World.cell?, b6], by simp [World.cell?, b7, cn]⟩
  | 4, _ => exact ⟨⟨_, _, by simp [World.cell?, b5], i4⟩, by simp [World.cell?, b6], by simp [World.cell?, b7, cn]⟩
end Go.Proofs.YtinijapkipeamaaDoor
