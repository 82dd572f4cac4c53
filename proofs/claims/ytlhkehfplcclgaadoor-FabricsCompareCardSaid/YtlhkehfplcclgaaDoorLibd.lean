/- More for walks: blocks of two cells (a struct of two fields that lies in memory). -/
import Derived.Test.YtlhkehfplcclgaaDoorLib
namespace Go.Proofs.YtlhkehfplcclgaaDoor
set_option linter.unusedVariables false
set_option linter.unusedSimpArgs false
open Go Go.RowKit

/-- Block b holds a struct of two fields. -/
def B2 (w : World) (b : Nat) (x y : Value) (t : TypeId) : Prop := w.heap[b]? = some (.cells #[x, y] t (0, 0))
theorem B2.c0 {w : World} {b : Nat} {x y : Value} {t : TypeId} (h : B2 w b x y t) : w.cell? ⟨b, 0, none⟩ = some x := by unfold B2 at h; simp [World.cell?, h]
theorem B2.c1 {w : World} {b : Nat} {x y : Value} {t : TypeId} (h : B2 w b x y t) : w.cell? ⟨b, 1, none⟩ = some y := by unfold B2 at h; simp [World.cell?, h]
theorem B2.f0 {w : World} {b : Nat} {x y : Value} {t : TypeId} (h : B2 w b x y t) : w.frozen? ⟨b, 0, none⟩ = false := by unfold B2 at h; simp [World.frozen?, h]
theorem B2.f1 {w : World} {b : Nat} {x y : Value} {t : TypeId} (h : B2 w b x y t) : w.frozen? ⟨b, 1, none⟩ = false := by unfold B2 at h; simp [World.frozen?, h]
theorem B2.ext {w w' : World} {b : Nat} {x y : Value} {t : TypeId} (h : B2 w b x y t) (e : Ext w w') : B2 w' b x y t := Ext.block e h
theorem B2.new (w : World) (x y : Value) (t : TypeId) : B2 (w.alloc (.cells #[x, y] t)) w.heap.size x y t := Deep.blk_alloc_new _ _
theorem B2.lt {w : World} {b : Nat} {x y : Value} {t : TypeId} (h : B2 w b x y t) : b < w.heap.size := World.block_lt_of_cell? w _ h.c0
theorem B2.alloc {w : World} {b : Nat} {x y : Value} {t : TypeId} (h : B2 w b x y t) (o : Obj) : B2 (w.alloc o) b x y t := h.ext ((Ext.refl w).alloc o)
theorem B2.set0 {w : World} {b : Nat} {x y u : Value} {t : TypeId} (h : B2 w b x y t) : B2 (w.setCell ⟨b, 0, none⟩ u) b u y t := by
  unfold B2 at *
  have hlt := lt_of_block h
  have h' : w.heap[b] = .cells #[x, y] t (0, 0) := by simpa [Array.getElem?_eq_getElem hlt] using h
  show (w.heap.modify b _)[b]? = _
  rw [Array.getElem?_eq_getElem (by simpa using hlt), Array.getElem_modify_self, h']
  rfl
theorem B2.set1 {w : World} {b : Nat} {x y u : Value} {t : TypeId} (h : B2 w b x y t) : B2 (w.setCell ⟨b, 1, none⟩ u) b x u t := by
  unfold B2 at *
  have hlt := lt_of_block h
  have h' : w.heap[b] = .cells #[x, y] t (0, 0) := by simpa [Array.getElem?_eq_getElem hlt] using h
  show (w.heap.modify b _)[b]? = _
  rw [Array.getElem?_eq_getElem (by simpa using hlt), Array.getElem_modify_self, h']
  rfl
theorem B2.set2 {w : World} {b : Nat} {x y : Value} {t : TypeId} (h : B2 w b x y t) (u v : Value) : B2 ((w.setCell ⟨b, 0, none⟩ u).setCell ⟨b, 1, none⟩ v) b u v t := h.set0.set1
theorem B2.setOther {w : World} {b : Nat} {x y u : Value} {t : TypeId} {a : Addr} (h : B2 w b x y t) (hn : b ≠ a.block) : B2 (w.setCell a u) b x y t := by
  unfold B2 at *
  rw [Deep.blk_setCell_other _ _ _ _ hn]; exact h
theorem B2.setOther2 {w : World} {b : Nat} {x y : Value} {t : TypeId} (h : B2 w b x y t) (c : Nat) (hn : b ≠ c) (u v : Value) : B2 ((w.setCell ⟨c, 0, none⟩ u).setCell ⟨c, 1, none⟩ v) b x y t := (h.setOther hn).setOther hn
theorem Ext.set2 {w w' : World} (h : Ext w w') (c : Nat) (hc : w.heap.size ≤ c) (u v : Value) : Ext w ((w'.setCell ⟨c, 0, none⟩ u).setCell ⟨c, 1, none⟩ v) := (h.setCell hc _).setCell hc _

/-- Strings: equal or not, in the walk's words. -/
theorem str_eq {a b : ByteArray} (h : a = b) : (a.toList == b.toList) = true := by rw [h]; simp
theorem str_ne {a b : ByteArray} (h : a ≠ b) : (a.toList == b.toList) = false := by
  rw [beq_eq_false_iff_ne]
  intro e
  rw [ByteArray.toList_eq, ByteArray.toList_eq] at e
  exact h (ByteArray.ext (Array.toList_inj.1 e))
theorem str_nonempty {a : ByteArray} (h : 0 < a.size) : a.toList.isEmpty = false := by
  rw [ByteArray.toList_eq, List.isEmpty_eq_false_iff]
  intro e
  have : a.data.toList.length = 0 := by rw [e]; rfl
  rw [Array.length_toList] at this
  have h2 : a.data.size = a.size := rfl
  omega
end Go.Proofs.YtlhkehfplcclgaaDoor
