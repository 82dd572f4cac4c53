/- The copies: copied of names, passes, crossings, loops. (Printed by gen_ve.py.) -/
import Derived.Test.YtlhkehfplcclgaaDoorVd
namespace Go.Proofs.YtlhkehfplcclgaaDoor
set_option linter.unusedVariables false
set_option linter.unusedSimpArgs false
set_option maxRecDepth 8000
open Go Go.RowKit

set_option maxHeartbeats 1000000 in
theorem CopN_calls (sv : Value) (c : Nat) (xs : List (List Value)) (w : World) (hx : CK 2 w sv c xs) (hk : Ks 2 xs) (hl : xs.length ≤ 1000000) :
    Calls Tryd.prog 55 #[sv] w (RetK w 41 xs) := by
  obtain ⟨ao, rfl, _⟩ := hx.op
  obtain ⟨n, hn⟩ : ∃ n, n = xs.length := ⟨_, rfl⟩
  rw [← hn] at hx hl ⊢
  have hmk : ∀ w, (Instr.makeSlice 33 (.int .i64 (n : Int)) (.int .i64 (n : Int))).run Tryd.prog w = .ok (.slice (some ⟨w.heap.size, 0, none⟩) n n) (w.alloc (.cells (madeCells #[.int .u8 0, .int .i64 0] (n * 2)) 41)) := fun w => make_k ekN (by decide) n hl .i64 .i64 w
  obtain ⟨W, hW⟩ : ∃ W, W = w.alloc (.cells (madeCells #[.int .u8 0, .int .i64 0] (n * 2)) 41) := ⟨_, rfl⟩
  have hB : W.heap[w.heap.size]? = some (.cells (madeCells #[.int .u8 0, .int .i64 0] (n * 2)) 41 (0, 0)) := by rw [hW]; exact Deep.blk_alloc_new _ _
  have X : Ext w W := by rw [hW]; exact (Ext.refl _).alloc _
  have hcp := copy_run ekN W 3 w.heap.size n c (.slice ao n c) xs (hx.ext X) hk hn _ _ hB (size_madeCells _ _)
  have hb2 := setRow_heap W w.heap.size _ xs.flatten.toArray _ (0, 0) hB
  have hg2 := setRow_grown W w.heap.size xs.flatten.toArray
  obtain ⟨W2, hW2⟩ : ∃ W2, W2 = W.setRow w.heap.size xs.flatten.toArray := ⟨_, rfl⟩
  rw [← hW2] at hcp hb2 hg2
  have x2 : Ext w W2 := X.grown hg2 fun j hj => by cases hj; exact Nat.le_refl _
  have HR := Lib.hid (show RetK w 41 xs (.returned (.slice (some ⟨w.heap.size, 0, none⟩) n n)) W2 from ⟨_, n, hn, rfl, Nat.le_refl _, hb2, x2⟩)
  rw [hW] at hcp
  unfold goInt at hcp
  clear hx hn hB X hb2 hg2 hW2 x2 hW
  go_enter Tryd.func55, Tryd.ntmps55
  go_wp2
  go_ret
  exact HR.out
set_option maxHeartbeats 1000000 in
theorem CopX_calls (sv : Value) (c : Nat) (xs : List (List Value)) (w : World) (hx : CK 5 w sv c xs) (hk : Ks 5 xs) (hl : xs.length ≤ 1000000) :
    Calls Tryd.prog 53 #[sv] w (RetK w 52 xs) := by
  obtain ⟨ao, rfl, _⟩ := hx.op
  obtain ⟨n, hn⟩ : ∃ n, n = xs.length := ⟨_, rfl⟩
  rw [← hn] at hx hl ⊢
  have hmk : ∀ w, (Instr.makeSlice 32 (.int .i64 (n : Int)) (.int .i64 (n : Int))).run Tryd.prog w = .ok (.slice (some ⟨w.heap.size, 0, none⟩) n n) (w.alloc (.cells (madeCells #[.int .u8 0, .int .i64 0, .int .u8 0, .int .i64 0, .int .i64 0] (n * 5)) 52)) := fun w => make_k ekX (by decide) n hl .i64 .i64 w
  obtain ⟨W, hW⟩ : ∃ W, W = w.alloc (.cells (madeCells #[.int .u8 0, .int .i64 0, .int .u8 0, .int .i64 0, .int .i64 0] (n * 5)) 52) := ⟨_, rfl⟩
  have hB : W.heap[w.heap.size]? = some (.cells (madeCells #[.int .u8 0, .int .i64 0, .int .u8 0, .int .i64 0, .int .i64 0] (n * 5)) 52 (0, 0)) := by rw [hW]; exact Deep.blk_alloc_new _ _
  have X : Ext w W := by rw [hW]; exact (Ext.refl _).alloc _
  have hcp := copy_run ekX W 3 w.heap.size n c (.slice ao n c) xs (hx.ext X) hk hn _ _ hB (size_madeCells _ _)
  have hb2 := setRow_heap W w.heap.size _ xs.flatten.toArray _ (0, 0) hB
  have hg2 := setRow_grown W w.heap.size xs.flatten.toArray
  obtain ⟨W2, hW2⟩ : ∃ W2, W2 = W.setRow w.heap.size xs.flatten.toArray := ⟨_, rfl⟩
  rw [← hW2] at hcp hb2 hg2
  have x2 : Ext w W2 := X.grown hg2 fun j hj => by cases hj; exact Nat.le_refl _
  have HR := Lib.hid (show RetK w 52 xs (.returned (.slice (some ⟨w.heap.size, 0, none⟩) n n)) W2 from ⟨_, n, hn, rfl, Nat.le_refl _, hb2, x2⟩)
  rw [hW] at hcp
  unfold goInt at hcp
  clear hx hn hB X hb2 hg2 hW2 x2 hW
  go_enter Tryd.func53, Tryd.ntmps53
  go_wp2
  go_ret
  exact HR.out
set_option maxHeartbeats 1000000 in
theorem CopL_calls (sv : Value) (c : Nat) (xs : List (List Value)) (w : World) (hx : CK 4 w sv c xs) (hk : Ks 4 xs) (hl : xs.length ≤ 1000000) :
    Calls Tryd.prog 65 #[sv] w (RetK w 46 xs) := by
  obtain ⟨ao, rfl, _⟩ := hx.op
  obtain ⟨n, hn⟩ : ∃ n, n = xs.length := ⟨_, rfl⟩
  rw [← hn] at hx hl ⊢
  have hmk : ∀ w, (Instr.makeSlice 47 (.int .i64 (n : Int)) (.int .i64 (n : Int))).run Tryd.prog w = .ok (.slice (some ⟨w.heap.size, 0, none⟩) n n) (w.alloc (.cells (madeCells #[.int .u8 0, .bool false, .slice none 0 0, .slice none 0 0] (n * 4)) 46)) := fun w => make_k ekL (by decide) n hl .i64 .i64 w
  obtain ⟨W, hW⟩ : ∃ W, W = w.alloc (.cells (madeCells #[.int .u8 0, .bool false, .slice none 0 0, .slice none 0 0] (n * 4)) 46) := ⟨_, rfl⟩
  have hB : W.heap[w.heap.size]? = some (.cells (madeCells #[.int .u8 0, .bool false, .slice none 0 0, .slice none 0 0] (n * 4)) 46 (0, 0)) := by rw [hW]; exact Deep.blk_alloc_new _ _
  have X : Ext w W := by rw [hW]; exact (Ext.refl _).alloc _
  have hcp := copy_run ekL W 3 w.heap.size n c (.slice ao n c) xs (hx.ext X) hk hn _ _ hB (size_madeCells _ _)
  have hb2 := setRow_heap W w.heap.size _ xs.flatten.toArray _ (0, 0) hB
  have hg2 := setRow_grown W w.heap.size xs.flatten.toArray
  obtain ⟨W2, hW2⟩ : ∃ W2, W2 = W.setRow w.heap.size xs.flatten.toArray := ⟨_, rfl⟩
  rw [← hW2] at hcp hb2 hg2
  have x2 : Ext w W2 := X.grown hg2 fun j hj => by cases hj; exact Nat.le_refl _
  have HR := Lib.hid (show RetK w 46 xs (.returned (.slice (some ⟨w.heap.size, 0, none⟩) n n)) W2 from ⟨_, n, hn, rfl, Nat.le_refl _, hb2, x2⟩)
  rw [hW] at hcp
  unfold goInt at hcp
  clear hx hn hB X hb2 hg2 hW2 x2 hW
  go_enter Tryd.func65, Tryd.ntmps65
  go_wp2
  go_ret
  exact HR.out
set_option maxHeartbeats 1000000 in
theorem CopP_calls (sv : Value) (c : Nat) (xs : List (List Value)) (w : World) (hx : CK 4 w sv c xs) (hk : Ks 4 xs) (hl : xs.length ≤ 1000000) :
    Calls Tryd.prog 66 #[sv] w (RetK w 50 xs) := by
  obtain ⟨ao, rfl, _⟩ := hx.op
  obtain ⟨n, hn⟩ : ∃ n, n = xs.length := ⟨_, rfl⟩
  rw [← hn] at hx hl ⊢
  have hmk : ∀ w, (Instr.makeSlice 44 (.int .i64 (n : Int)) (.int .i64 (n : Int))).run Tryd.prog w = .ok (.slice (some ⟨w.heap.size, 0, none⟩) n n) (w.alloc (.cells (madeCells #[.int .u8 0, .int .i64 0, .bool false, .int .u8 0] (n * 4)) 50)) := fun w => make_k ekP (by decide) n hl .i64 .i64 w
  obtain ⟨W, hW⟩ : ∃ W, W = w.alloc (.cells (madeCells #[.int .u8 0, .int .i64 0, .bool false, .int .u8 0] (n * 4)) 50) := ⟨_, rfl⟩
  have hB : W.heap[w.heap.size]? = some (.cells (madeCells #[.int .u8 0, .int .i64 0, .bool false, .int .u8 0] (n * 4)) 50 (0, 0)) := by rw [hW]; exact Deep.blk_alloc_new _ _
  have X : Ext w W := by rw [hW]; exact (Ext.refl _).alloc _
  have hcp := copy_run ekP W 3 w.heap.size n c (.slice ao n c) xs (hx.ext X) hk hn _ _ hB (size_madeCells _ _)
  have hb2 := setRow_heap W w.heap.size _ xs.flatten.toArray _ (0, 0) hB
  have hg2 := setRow_grown W w.heap.size xs.flatten.toArray
  obtain ⟨W2, hW2⟩ : ∃ W2, W2 = W.setRow w.heap.size xs.flatten.toArray := ⟨_, rfl⟩
  rw [← hW2] at hcp hb2 hg2
  have x2 : Ext w W2 := X.grown hg2 fun j hj => by cases hj; exact Nat.le_refl _
  have HR := Lib.hid (show RetK w 50 xs (.returned (.slice (some ⟨w.heap.size, 0, none⟩) n n)) W2 from ⟨_, n, hn, rfl, Nat.le_refl _, hb2, x2⟩)
  rw [hW] at hcp
  unfold goInt at hcp
  clear hx hn hB X hb2 hg2 hW2 x2 hW
  go_enter Tryd.func66, Tryd.ntmps66
  go_wp2
  go_ret
  exact HR.out
set_option maxHeartbeats 1000000 in
theorem LCopN_calls (sv : Value) (c : Nat) (xs : List (List Value)) (w : World) (hx : CK 2 w sv c xs) (hk : Ks 2 xs) (hl : xs.length ≤ 1000000) :
    Calls Tryd.prog 76 #[sv] w (RetK w 41 xs) := by
  obtain ⟨ao, rfl, _⟩ := hx.op
  obtain ⟨n, hn⟩ : ∃ n, n = xs.length := ⟨_, rfl⟩
  rw [← hn] at hx hl ⊢
  have hmk : ∀ w, (Instr.makeSlice 33 (.int .i64 (n : Int)) (.int .i64 (n : Int))).run Tryd.prog w = .ok (.slice (some ⟨w.heap.size, 0, none⟩) n n) (w.alloc (.cells (madeCells #[.int .u8 0, .int .i64 0] (n * 2)) 41)) := fun w => make_k ekN (by decide) n hl .i64 .i64 w
  obtain ⟨W, hW⟩ : ∃ W, W = w.alloc (.cells (madeCells #[.int .u8 0, .int .i64 0] (n * 2)) 41) := ⟨_, rfl⟩
  have hB : W.heap[w.heap.size]? = some (.cells (madeCells #[.int .u8 0, .int .i64 0] (n * 2)) 41 (0, 0)) := by rw [hW]; exact Deep.blk_alloc_new _ _
  have X : Ext w W := by rw [hW]; exact (Ext.refl _).alloc _
  have hcp := copy_run ekN W 3 w.heap.size n c (.slice ao n c) xs (hx.ext X) hk hn _ _ hB (size_madeCells _ _)
  have hb2 := setRow_heap W w.heap.size _ xs.flatten.toArray _ (0, 0) hB
  have hg2 := setRow_grown W w.heap.size xs.flatten.toArray
  obtain ⟨W2, hW2⟩ : ∃ W2, W2 = W.setRow w.heap.size xs.flatten.toArray := ⟨_, rfl⟩
  rw [← hW2] at hcp hb2 hg2
  have x2 : Ext w W2 := X.grown hg2 fun j hj => by cases hj; exact Nat.le_refl _
  have HR := Lib.hid (show RetK w 41 xs (.returned (.slice (some ⟨w.heap.size, 0, none⟩) n n)) W2 from ⟨_, n, hn, rfl, Nat.le_refl _, hb2, x2⟩)
  rw [hW] at hcp
  unfold goInt at hcp
  clear hx hn hB X hb2 hg2 hW2 x2 hW
  go_enter Tryd.func76, Tryd.ntmps76
  go_wp2
  go_ret
  exact HR.out
set_option maxHeartbeats 1000000 in
theorem YCopP_calls (sv : Value) (c : Nat) (xs : List (List Value)) (w : World) (hx : CK 4 w sv c xs) (hk : Ks 4 xs) (hl : xs.length ≤ 1000000) :
    Calls Tryd.prog 93 #[sv] w (RetK w 50 xs) := by
  obtain ⟨ao, rfl, _⟩ := hx.op
  obtain ⟨n, hn⟩ : ∃ n, n = xs.length := ⟨_, rfl⟩
  rw [← hn] at hx hl ⊢
  have hmk : ∀ w, (Instr.makeSlice 44 (.int .i64 (n : Int)) (.int .i64 (n : Int))).run Tryd.prog w = .ok (.slice (some ⟨w.heap.size, 0, none⟩) n n) (w.alloc (.cells (madeCells #[.int .u8 0, .int .i64 0, .bool false, .int .u8 0] (n * 4)) 50)) := fun w => make_k ekP (by decide) n hl .i64 .i64 w
  obtain ⟨W, hW⟩ : ∃ W, W = w.alloc (.cells (madeCells #[.int .u8 0, .int .i64 0, .bool false, .int .u8 0] (n * 4)) 50) := ⟨_, rfl⟩
  have hB : W.heap[w.heap.size]? = some (.cells (madeCells #[.int .u8 0, .int .i64 0, .bool false, .int .u8 0] (n * 4)) 50 (0, 0)) := by rw [hW]; exact Deep.blk_alloc_new _ _
  have X : Ext w W := by rw [hW]; exact (Ext.refl _).alloc _
  have hcp := copy_run ekP W 3 w.heap.size n c (.slice ao n c) xs (hx.ext X) hk hn _ _ hB (size_madeCells _ _)
  have hb2 := setRow_heap W w.heap.size _ xs.flatten.toArray _ (0, 0) hB
  have hg2 := setRow_grown W w.heap.size xs.flatten.toArray
  obtain ⟨W2, hW2⟩ : ∃ W2, W2 = W.setRow w.heap.size xs.flatten.toArray := ⟨_, rfl⟩
  rw [← hW2] at hcp hb2 hg2
  have x2 : Ext w W2 := X.grown hg2 fun j hj => by cases hj; exact Nat.le_refl _
  have HR := Lib.hid (show RetK w 50 xs (.returned (.slice (some ⟨w.heap.size, 0, none⟩) n n)) W2 from ⟨_, n, hn, rfl, Nat.le_refl _, hb2, x2⟩)
  rw [hW] at hcp
  unfold goInt at hcp
  clear hx hn hB X hb2 hg2 hW2 x2 hW
  go_enter Tryd.func93, Tryd.ntmps93
  go_wp2
  go_ret
  exact HR.out
end Go.Proofs.YtlhkehfplcclgaaDoor
