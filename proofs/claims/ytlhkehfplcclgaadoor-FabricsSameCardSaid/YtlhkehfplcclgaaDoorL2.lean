/- Texts of this claim in one file: libraries and walks. -/
import Derived.WideKeyEntry
import Derived.DeepKeys5
import Derived.Test.YtlhkehfplcclgaaDoorL1
/- The copies: copied of names, passes, crossings, loops. (Printed by gen_ve.py.) -/
namespace Go.Proofs.YtlhkehfplcclgaaDoor
set_option linter.unusedVariables false
set_option linter.unusedSimpArgs false
set_option maxRecDepth 8000
open Go Go.RowKit

set_option maxHeartbeats 1000000 in
theorem CopN_calls (sv : Value) (c : Nat) (xs : List (List Value)) (w : World) (hx : CK 2 w sv c xs) (hk : Ks 2 xs) (hl : xs.length ≤ 1000000) :
    Calls Tryd.prog 55 #[sv] w (RetK w 41 xs) := by
  obtain ⟨ao, rfl, _⟩ := hx.op
  obtain ⟨n, hn⟩ : ∃ n, n = xs.length := ⟨_, rfl⟩
  rw [← hn] at hx hl ⊢
  have hmk : ∀ w, (Instr.makeSlice 33 (.int .i64 (n : Int)) (.int .i64 (n : Int))).run Tryd.prog w = .ok (.slice (some ⟨w.heap.size, 0, none⟩) n n) (w.alloc (.cells (madeCells #[.int .u8 0, .int .i64 0] (n * 2)) 41)) := fun w => make_k ekN (by decide) n hl .i64 .i64 w
  obtain ⟨W, hW⟩ : ∃ W, W = w.alloc (.cells (madeCells #[.int .u8 0, .int .i64 0] (n * 2)) 41) := ⟨_, rfl⟩
  have hB : W.heap[w.heap.size]? = some (.cells (madeCells #[.int .u8 0, .int .i64 0] (n * 2)) 41 (0, 0)) := by rw [hW]; exact Deep.blk_alloc_new _ _
  have X : Ext w W := by rw [hW]; exact (Ext.refl _).alloc _
  have hcp := copy_run ekN W 3 w.heap.size n c (.slice ao n c) xs (hx.ext X) hk hn _ _ hB (size_madeCells _ _)
  have hb2 := setRow_heap W w.heap.size _ xs.flatten.toArray _ (0, 0) hB
  have hg2 := setRow_grown W w.heap.size xs.flatten.toArray
  obtain ⟨W2, hW2⟩ : ∃ W2, W2 = W.setRow w.heap.size xs.flatten.toArray := ⟨_, rfl⟩
  rw [← hW2] at hcp hb2 hg2
  have x2 : Ext w W2 := X.grown hg2 fun j hj => by cases hj; exact Nat.le_refl _
  have HR := Lib.hid (show RetK w 41 xs (.returned (.slice (some ⟨w.heap.size, 0, none⟩) n n)) W2 from ⟨_, n, hn, rfl, Nat.le_refl _, hb2, x2⟩)
  rw [hW] at hcp
  unfold goInt at hcp
  clear hx hn hB X hb2 hg2 hW2 x2 hW
  go_enter Tryd.func55, Tryd.ntmps55
  go_wp2
  go_ret
  exact HR.out
set_option maxHeartbeats 1000000 in
theorem CopX_calls (sv : Value) (c : Nat) (xs : List (List Value)) (w : World) (hx : CK 5 w sv c xs) (hk : Ks 5 xs) (hl : xs.length ≤ 1000000) :
    Calls Tryd.prog 53 #[sv] w (RetK w 52 xs) := by
  obtain ⟨ao, rfl, _⟩ := hx.op
  obtain ⟨n, hn⟩ : ∃ n, n = xs.length := ⟨_, rfl⟩
  rw [← hn] at hx hl ⊢
  have hmk : ∀ w, (Instr.makeSlice 32 (.int .i64 (n : Int)) (.int .i64 (n : Int))).run Tryd.prog w = .ok (.slice (some ⟨w.heap.size, 0, none⟩) n n) (w.alloc (.cells (madeCells #[.int .u8 0, .int .i64 0, .int .u8 0, .int .i64 0, .int .i64 0] (n * 5)) 52)) := fun w => make_k ekX (by decide) n hl .i64 .i64 w
  obtain ⟨W, hW⟩ : ∃ W, W = w.alloc (.cells (madeCells #[.int .u8 0, .int .i64 0, .int .u8 0, .int .i64 0, .int .i64 0] (n * 5)) 52) := ⟨_, rfl⟩
  have hB : W.heap[w.heap.size]? = some (.cells (madeCells #[.int .u8 0, .int .i64 0, .int .u8 0, .int .i64 0, .int .i64 0] (n * 5)) 52 (0, 0)) := by rw [hW]; exact Deep.blk_alloc_new _ _
  have X : Ext w W := by rw [hW]; exact (Ext.refl _).alloc _
  have hcp := copy_run ekX W 3 w.heap.size n c (.slice ao n c) xs (hx.ext X) hk hn _ _ hB (size_madeCells _ _)
  have hb2 := setRow_heap W w.heap.size _ xs.flatten.toArray _ (0, 0) hB
  have hg2 := setRow_grown W w.heap.size xs.flatten.toArray
  obtain ⟨W2, hW2⟩ : ∃ W2, W2 = W.setRow w.heap.size xs.flatten.toArray := ⟨_, rfl⟩
  rw [← hW2] at hcp hb2 hg2
  have x2 : Ext w W2 := X.grown hg2 fun j hj => by cases hj; exact Nat.le_refl _
  have HR := Lib.hid (show RetK w 52 xs (.returned (.slice (some ⟨w.heap.size, 0, none⟩) n n)) W2 from ⟨_, n, hn, rfl, Nat.le_refl _, hb2, x2⟩)
  rw [hW] at hcp
  unfold goInt at hcp
  clear hx hn hB X hb2 hg2 hW2 x2 hW
  go_enter Tryd.func53, Tryd.ntmps53
  go_wp2
  go_ret
  exact HR.out
set_option maxHeartbeats 1000000 in
theorem CopL_calls (sv : Value) (c : Nat) (xs : List (List Value)) (w : World) (hx : CK 4 w sv c xs) (hk : Ks 4 xs) (hl : xs.length ≤ 1000000) :
    Calls Tryd.prog 65 #[sv] w (RetK w 46 xs) := by
  obtain ⟨ao, rfl, _⟩ := hx.op
  obtain ⟨n, hn⟩ : ∃ n, n = xs.length := ⟨_, rfl⟩
  rw [← hn] at hx hl ⊢
  have hmk : ∀ w, (Instr.makeSlice 47 (.int .i64 (n : Int)) (.int .i64 (n : Int))).run Tryd.prog w = .ok (.slice (some ⟨w.heap.size, 0, none⟩) n n) (w.alloc (.cells (madeCells #[.int .u8 0, .bool false, .slice none 0 0, .slice none 0 0] (n * 4)) 46)) := fun w => make_k ekL (by decide) n hl .i64 .i64 w
  obtain ⟨W, hW⟩ : ∃ W, W = w.alloc (.cells (madeCells #[.int .u8 0, .bool false, .slice none 0 0, .slice none 0 0] (n * 4)) 46) := ⟨_, rfl⟩
  have hB : W.heap[w.heap.size]? = some (.cells (madeCells #[.int .u8 0, .bool false, .slice none 0 0, .slice none 0 0] (n * 4)) 46 (0, 0)) := by rw [hW]; exact Deep.blk_alloc_new _ _
  have X : Ext w W := by rw [hW]; exact (Ext.refl _).alloc _
  have hcp := copy_run ekL W 3 w.heap.size n c (.slice ao n c) xs (hx.ext X) hk hn _ _ hB (size_madeCells _ _)
  have hb2 := setRow_heap W w.heap.size _ xs.flatten.toArray _ (0, 0) hB
  have hg2 := setRow_grown W w.heap.size xs.flatten.toArray
  obtain ⟨W2, hW2⟩ : ∃ W2, W2 = W.setRow w.heap.size xs.flatten.toArray := ⟨_, rfl⟩
  rw [← hW2] at hcp hb2 hg2
  have x2 : Ext w W2 := X.grown hg2 fun j hj => by cases hj; exact Nat.le_refl _
  have HR := Lib.hid (show RetK w 46 xs (.returned (.slice (some ⟨w.heap.size, 0, none⟩) n n)) W2 from ⟨_, n, hn, rfl, Nat.le_refl _, hb2, x2⟩)
  rw [hW] at hcp
  unfold goInt at hcp
  clear hx hn hB X hb2 hg2 hW2 x2 hW
  go_enter Tryd.func65, Tryd.ntmps65
  go_wp2
  go_ret
  exact HR.out
set_option maxHeartbeats 1000000 in
theorem CopP_calls (sv : Value) (c : Nat) (xs : List (List Value)) (w : World) (hx : CK 4 w sv c xs) (hk : Ks 4 xs) (hl : xs.length ≤ 1000000) :
    Calls Tryd.prog 66 #[sv] w (RetK w 50 xs) := by
  obtain ⟨ao, rfl, _⟩ := hx.op
  obtain ⟨n, hn⟩ : ∃ n, n = xs.length := ⟨_, rfl⟩
  rw [← hn] at hx hl ⊢
  have hmk : ∀ w, (Instr.makeSlice 44 (.int .i64 (n : Int)) (.int .i64 (n : Int))).run Tryd.prog w = .ok (.slice (some ⟨w.heap.size, 0, none⟩) n n) (w.alloc (.cells (madeCells #[.int .u8 0, .int .i64 0, .bool false, .int .u8 0] (n * 4)) 50)) := fun w => make_k ekP (by decide) n hl .i64 .i64 w
  obtain ⟨W, hW⟩ : ∃ W, W = w.alloc (.cells (madeCells #[.int .u8 0, .int .i64 0, .bool false, .int .u8 0] (n * 4)) 50) := ⟨_, rfl⟩
  have hB : W.heap[w.heap.size]? = some (.cells (madeCells #[.int .u8 0, .int .i64 0, .bool false, .int .u8 0] (n * 4)) 50 (0, 0)) := by rw [hW]; exact Deep.blk_alloc_new _ _
  have X : Ext w W := by rw [hW]; exact (Ext.refl _).alloc _
  have hcp := copy_run ekP W 3 w.heap.size n c (.slice ao n c) xs (hx.ext X) hk hn _ _ hB (size_madeCells _ _)
  have hb2 := setRow_heap W w.heap.size _ xs.flatten.toArray _ (0, 0) hB
  have hg2 := setRow_grown W w.heap.size xs.flatten.toArray
  obtain ⟨W2, hW2⟩ : ∃ W2, W2 = W.setRow w.heap.size xs.flatten.toArray := ⟨_, rfl⟩
  rw [← hW2] at hcp hb2 hg2
  have x2 : Ext w W2 := X.grown hg2 fun j hj => by cases hj; exact Nat.le_refl _
  have HR := Lib.hid (show RetK w 50 xs (.returned (.slice (some ⟨w.heap.size, 0, none⟩) n n)) W2 from ⟨_, n, hn, rfl, Nat.le_refl _, hb2, x2⟩)
  rw [hW] at hcp
  unfold goInt at hcp
  clear hx hn hB X hb2 hg2 hW2 x2 hW
  go_enter Tryd.func66, Tryd.ntmps66
  go_wp2
  go_ret
  exact HR.out
set_option maxHeartbeats 1000000 in
theorem LCopN_calls (sv : Value) (c : Nat) (xs : List (List Value)) (w : World) (hx : CK 2 w sv c xs) (hk : Ks 2 xs) (hl : xs.length ≤ 1000000) :
    Calls Tryd.prog 76 #[sv] w (RetK w 41 xs) := by
  obtain ⟨ao, rfl, _⟩ := hx.op
  obtain ⟨n, hn⟩ : ∃ n, n = xs.length := ⟨_, rfl⟩
  rw [← hn] at hx hl ⊢
  have hmk : ∀ w, (Instr.makeSlice 33 (.int .i64 (n : Int)) (.int .i64 (n : Int))).run Tryd.prog w = .ok (.slice (some ⟨w.heap.size, 0, none⟩) n n) (w.alloc (.cells (madeCells #[.int .u8 0, .int .i64 0] (n * 2)) 41)) := fun w => make_k ekN (by decide) n hl .i64 .i64 w
  obtain ⟨W, hW⟩ : ∃ W, W = w.alloc (.cells (madeCells #[.int .u8 0, .int .i64 0] (n * 2)) 41) := ⟨_, rfl⟩
  have hB : W.heap[w.heap.size]? = some (.cells (madeCells #[.int .u8 0, .int .i64 0] (n * 2)) 41 (0, 0)) := by rw [hW]; exact Deep.blk_alloc_new _ _
  have X : Ext w W := by rw [hW]; exact (Ext.refl _).alloc _
  have hcp := copy_run ekN W 3 w.heap.size n c (.slice ao n c) xs (hx.ext X) hk hn _ _ hB (size_madeCells _ _)
  have hb2 := setRow_heap W w.heap.size _ xs.flatten.toArray _ (0, 0) hB
  have hg2 := setRow_grown W w.heap.size xs.flatten.toArray
  obtain ⟨W2, hW2⟩ : ∃ W2, W2 = W.setRow w.heap.size xs.flatten.toArray := ⟨_, rfl⟩
  rw [← hW2] at hcp hb2 hg2
  have x2 : Ext w W2 := X.grown hg2 fun j hj => by cases hj; exact Nat.le_refl _
  have HR := Lib.hid (show RetK w 41 xs (.returned (.slice (some ⟨w.heap.size, 0, none⟩) n n)) W2 from ⟨_, n, hn, rfl, Nat.le_refl _, hb2, x2⟩)
  rw [hW] at hcp
  unfold goInt at hcp
  clear hx hn hB X hb2 hg2 hW2 x2 hW
  go_enter Tryd.func76, Tryd.ntmps76
  go_wp2
  go_ret
  exact HR.out
set_option maxHeartbeats 1000000 in
theorem YCopP_calls (sv : Value) (c : Nat) (xs : List (List Value)) (w : World) (hx : CK 4 w sv c xs) (hk : Ks 4 xs) (hl : xs.length ≤ 1000000) :
    Calls Tryd.prog 93 #[sv] w (RetK w 50 xs) := by
  obtain ⟨ao, rfl, _⟩ := hx.op
  obtain ⟨n, hn⟩ : ∃ n, n = xs.length := ⟨_, rfl⟩
  rw [← hn] at hx hl ⊢
  have hmk : ∀ w, (Instr.makeSlice 44 (.int .i64 (n : Int)) (.int .i64 (n : Int))).run Tryd.prog w = .ok (.slice (some ⟨w.heap.size, 0, none⟩) n n) (w.alloc (.cells (madeCells #[.int .u8 0, .int .i64 0, .bool false, .int .u8 0] (n * 4)) 50)) := fun w => make_k ekP (by decide) n hl .i64 .i64 w
  obtain ⟨W, hW⟩ : ∃ W, W = w.alloc (.cells (madeCells #[.int .u8 0, .int .i64 0, .bool false, .int .u8 0] (n * 4)) 50) := ⟨_, rfl⟩
  have hB : W.heap[w.heap.size]? = some (.cells (madeCells #[.int .u8 0, .int .i64 0, .bool false, .int .u8 0] (n * 4)) 50 (0, 0)) := by rw [hW]; exact Deep.blk_alloc_new _ _
  have X : Ext w W := by rw [hW]; exact (Ext.refl _).alloc _
  have hcp := copy_run ekP W 3 w.heap.size n c (.slice ao n c) xs (hx.ext X) hk hn _ _ hB (size_madeCells _ _)
  have hb2 := setRow_heap W w.heap.size _ xs.flatten.toArray _ (0, 0) hB
  have hg2 := setRow_grown W w.heap.size xs.flatten.toArray
  obtain ⟨W2, hW2⟩ : ∃ W2, W2 = W.setRow w.heap.size xs.flatten.toArray := ⟨_, rfl⟩
  rw [← hW2] at hcp hb2 hg2
  have x2 : Ext w W2 := X.grown hg2 fun j hj => by cases hj; exact Nat.le_refl _
  have HR := Lib.hid (show RetK w 50 xs (.returned (.slice (some ⟨w.heap.size, 0, none⟩) n n)) W2 from ⟨_, n, hn, rfl, Nat.le_refl _, hb2, x2⟩)
  rw [hW] at hcp
  unfold goInt at hcp
  clear hx hn hB X hb2 hg2 hW2 x2 hW
  go_enter Tryd.func93, Tryd.ntmps93
  go_wp2
  go_ret
  exact HR.out
end Go.Proofs.YtlhkehfplcclgaaDoor
/- The map from names to numbers. -/
namespace Go.Proofs.YtlhkehfplcclgaaDoor
set_option linter.unusedVariables false
set_option linter.unusedSimpArgs false
set_option maxRecDepth 8000
open Go Go.RowKit
open Go.ChangeMaps (setBlock heap_setBlock_same heap_setBlock_other)

theorem laidB : laidOutB Tryd.prog = true := by kernel_rfl
theorem nmLaw : WideMaps.KeyLaw Tryd.prog 41 := deep_law_laid laidB (m := 2) (by omega) (of_decide_eq_true (by kernel_rfl)) (by kernel_rfl) (by kernel_rfl)
theorem nmKeyType : Tryd.prog.keyType 41 = true := by kernel_rfl
theorem nmCells : Tryd.prog.cellsOf 41 = 2 ∧ Tryd.prog.cellsOf 5 = 1 ∧ Tryd.prog.cellsOf 3 = 1 := ⟨by kernel_rfl, by kernel_rfl, by kernel_rfl⟩
theorem nmRow : (41 : TypeId) < Tryd.prog.types.size := of_decide_eq_true (by kernel_rfl)
theorem mwf8 {a : Int} (h : 0 ≤ a ∧ a ≤ 255) : (Lit.int .u8 a).wf = true := by
  have h1 : IntKind.u8.min = 0 := by decide
  have h2 : IntKind.u8.max = 255 := by decide
  simp [Lit.wf, h1, h2]; omega
theorem mwf64 {a : Int} (h : -9223372036854775808 ≤ a ∧ a ≤ 9223372036854775807) : (Lit.int .i64 a).wf = true := by
  have h1 : IntKind.i64.min = -9223372036854775808 := by decide
  have h2 : IntKind.i64.max = 9223372036854775807 := by decide
  simp [Lit.wf, h1, h2]; omega
theorem nm_key {a : Nm} (h : a.In) : ∃ kl, keyOf Tryd.prog 41 a.val = some kl := by
  obtain ⟨c1, c2, c3⟩ := nmCells
  have w1 := mwf8 h.1
  have w2 := mwf64 h.2
  obtain ⟨m, hm⟩ : ∃ m, Tryd.prog.types.size = m + 1 := ⟨Tryd.prog.types.size - 1, by have := Nat.lt_of_le_of_lt (Nat.zero_le _) nmRow; omega⟩
  have k5 : Tryd.prog.keyLits (m + 1) 5 [Value.int .u8 a.y] = some [.int .u8 a.y] := by simp [Program.keyLits, Tryd.underlying5, w1]
  have k3 : Tryd.prog.keyLits (m + 1) 3 [Value.int .i64 a.n] = some [.int .i64 a.n] := by simp [Program.keyLits, Tryd.underlying3, w2]
  refine Option.isSome_iff_exists.1 ?_
  unfold keyOf Nm.val
  simp only [Tryd.underlying41, nmKeyType, Value.formed, c1, hm]
  unfold Program.keyLits
  simp [Tryd.underlying41, c1, c2, c3, Value.cells, k5, k3]
/-- The entries of a map that holds f. -/
structure ME (es : Array MapEntry) (clock : Nat) (f : Nm → Int) : Prop where
  ent : ∀ e ∈ es.toList, ∃ a : Nm, a.In ∧ e.key = a.val ∧ e.val = .int .i64 (f a)
  born : ∀ e ∈ es.toList, e.born < clock
  nd : (es.toList.map (·.born)).Nodup
  kd : (es.toList.map (·.key)).Nodup
  cov : ∀ a : Nm, f a ≠ 0 → ∃ e ∈ es.toList, e.key = a.val
theorem Nm.val_inj {a b : Nm} (h : a.val = b.val) : a = b := by
  obtain ⟨y, n⟩ := a; obtain ⟨z, m⟩ := b
  simp [Nm.val] at h
  obtain ⟨rfl, rfl⟩ := h; rfl
theorem ME.find {es : Array MapEntry} {clock : Nat} {f : Nm → Int} (h : ME es clock f) (w : World) {a : Nm} (ha : a.In) :
    ((Instr.findKey 41 a.val es.toList).run Tryd.prog w = .ok none w ∧ f a = 0 ∧ ∀ e ∈ es.toList, e.key ≠ a.val) ∨ ∃ j e, (Instr.findKey 41 a.val es.toList).run Tryd.prog w = .ok (some (j, .int .i64 (f a))) w ∧ es[j]? = some e ∧ e.key = a.val ∧ e.val = .int .i64 (f a) := by
  obtain ⟨kl, hk⟩ := nm_key ha
  rcases nmLaw.find w hk es.toList (fun e he => by obtain ⟨b, hb, e1, _⟩ := h.ent e he; rw [e1]; exact nm_key hb) with ⟨h1, h2⟩ | ⟨j, e, h1, h2, h3⟩
  · refine .inl ⟨h1, ?_, h2⟩
    by_cases h0 : f a = 0
    · exact h0
    · obtain ⟨e, he, e1⟩ := h.cov a h0; exact absurd e1 (h2 e he)
  · obtain ⟨b, _, e1, e2⟩ := h.ent e (List.mem_of_getElem? h2)
    obtain rfl : b = a := Nm.val_inj (by rw [← e1, h3])
    rw [e2] at h1
    exact .inr ⟨j, e, h1, by simpa using h2, h3, e2⟩
theorem nm_check {a : Nm} (ha : a.In) (w : World) (b : Bool) : (Instr.checkKey b 10000 41 a.val).run Tryd.prog w = .ok () w := by
  obtain ⟨kl, hk⟩ := nm_key ha
  exact nmLaw.check w b hk
theorem zeroI (w : World) : (zeroValue 3).run Tryd.prog w = .ok (.int .i64 0) w := by kernel_rfl
/-- m[k]. -/
theorem ME.look {es : Array MapEntry} {clock : Nat} {f : Nm → Int} (h : ME es clock f) {w : World} {b : Nat} (hb : w.heap[b]? = some (.map es clock)) {a : Nm} (ha : a.In) :
    (Instr.lookup 117 (.map (some b)) a.val false).run Tryd.prog w = .ok (.int .i64 (f a)) w := by
  rcases h.find w ha with ⟨h1, h2, _⟩ | ⟨j, e, h1, h2, h3, h4⟩
  · rw [h2]; simp [Instr.lookup, run_underlying Tryd.underlying117, MapKept.run_getObj_map hb, nm_check ha, h1, zeroI, Result.andThen]
  · simp [Instr.lookup, run_underlying Tryd.underlying117, MapKept.run_getObj_map hb, nm_check ha, h1, Result.andThen]
/-- The entry of a key, made if there is none. -/
theorem ME.entry {es : Array MapEntry} {clock : Nat} {f : Nm → Int} (h : ME es clock f) {w : World} {b : Nat} (hb : w.heap[b]? = some (.map es clock)) {a : Nm} (ha : a.In) :
    ∃ es1 clock1 st, (Instr.mapEntry 117 (.map (some b)) a.val).run Tryd.prog w = .ok (.tuple #[.int .i64 (f a), .int .i64 (st : Nat)]) (setBlock w b (.map es1 clock1)) ∧ ME es1 clock1 f ∧ ∃ (i : Nat) (e : MapEntry), es1[i]? = some e ∧ e.key = a.val ∧ e.born = st := by
  obtain ⟨kl, hk⟩ := nm_key ha
  rcases h.find w ha with ⟨h1, h2, h3⟩ | ⟨j, e, h1, h2, h3, h4⟩
  · refine ⟨es.push ⟨a.val, .int .i64 0, clock⟩, clock + 1, clock, ?_, ⟨?_, ?_, ?_, ?_, ?_⟩, es.size, _, Array.getElem?_push_size .., rfl, rfl⟩
    · rw [h2]; simp [Instr.mapEntry, run_underlying Tryd.underlying117, MapKept.run_getObj_map hb, nm_check ha, h1, zeroI, MapKept.run_setObj_map _ hb, Result.andThen, setBlock, goInt]
    · intro e he
      simp only [Array.toList_push, List.mem_append, List.mem_singleton] at he
      rcases he with he | rfl
      · exact h.ent e he
      · exact ⟨a, ha, rfl, by rw [h2]⟩
    · intro e he
      simp only [Array.toList_push, List.mem_append, List.mem_singleton] at he
      rcases he with he | rfl
      · have := h.born e he; omega
      · exact Nat.lt_succ_self _
    · simp only [Array.toList_push, List.map_append, List.map_cons, List.map_nil]
      refine List.nodup_append.2 ⟨h.nd, by simp, fun x hx y hy e1 => ?_⟩
      simp only [List.mem_singleton] at hy
      obtain ⟨z, hz, rfl⟩ := List.mem_map.1 hx
      have := h.born z hz
      omega
    · simp only [Array.toList_push, List.map_append, List.map_cons, List.map_nil]
      refine List.nodup_append.2 ⟨h.kd, by simp, fun x hx y hy e1 => ?_⟩
      simp only [List.mem_singleton] at hy
      obtain ⟨z, hz, rfl⟩ := List.mem_map.1 hx
      exact h3 z hz (by rw [e1, hy])
    · intro c hc
      obtain ⟨e, he, e1⟩ := h.cov c hc
      exact ⟨e, by simp [he], e1⟩
  · have hsame : es.modify j (fun e => { e with key := a.val }) = es := by
      apply Array.ext'
      rw [Array.toList_modify, ChangeMaps.modify_eq_set _ _ _ _ (show es.toList[j]? = some e by simpa using h2)]
      have : ({ e with key := a.val } : MapEntry) = e := by rw [← h3]
      rw [this]
      exact WideElems.set_self _ _ _ (by simpa using h2)
    refine ⟨es, clock, e.born, ?_, h, j, e, h2, h3, rfl⟩
    simp [Instr.mapEntry, run_underlying Tryd.underlying117, MapKept.run_getObj_map hb, nm_check ha, h1, h2, h3, nmLaw.stays w hk, hsame, MapKept.run_setObj_map _ hb, Result.andThen, setBlock, goInt]
/-- f, but x at a. -/
def upN (f : Nm → Int) (a : Nm) (x : Int) : Nm → Int := fun b => if b = a then x else f b
theorem ME.store {es : Array MapEntry} {clock : Nat} {f : Nm → Int} (h : ME es clock f) {w : World} {b : Nat} (hb : w.heap[b]? = some (.map es clock)) {a : Nm} {i : Nat} {e : MapEntry} (hi : es[i]? = some e) (hk : e.key = a.val) (x : Int) :
    ∃ es', (Instr.entryStore 117 (.map (some b)) (.int .i64 (e.born : Nat)) (.int .i64 x)).run Tryd.prog w = .ok () (setBlock w b (.map es' clock)) ∧ ME es' clock (upN f a x) := by
  have hi2 : es.toList[i]? = some e := by simpa using hi
  have hidx : es.findIdx? (fun y => ((y.born : Nat) : Int) == ((e.born : Nat) : Int)) = some i := by
    rw [WideElems.findIdx_arr]; exact WideElems.findIdx_born h.nd hi2
  have hml : (es.modify i fun y => { y with val := .int .i64 x }).toList = es.toList.set i { e with val := .int .i64 x } := by
    rw [Array.toList_modify, ChangeMaps.modify_eq_set _ _ _ _ hi2]
  have hlt : i < es.toList.length := (List.getElem?_eq_some_iff.1 hi2).1
  have hei : es.toList[i] = e := (List.getElem?_eq_some_iff.1 hi2).2
  refine ⟨es.modify i fun y => { y with val := .int .i64 x }, ?_, ?_⟩
  · simp [Instr.entryStore, MapKept.run_getObj_map hb, asInt, asIntOf, hidx, MapKept.run_setObj_map _ hb, Result.andThen, setBlock]
  · have hmk : ((es.modify i fun y => { y with val := .int .i64 x }).toList.map (·.key)) = es.toList.map (·.key) := by
      rw [hml, List.map_set]
      refine List.ext_getElem (by simp) fun j h1 h2 => ?_
      rw [List.getElem_set]
      split
      · rename_i hij; subst hij; simp [hei]
      · rfl
    have hmb : ((es.modify i fun y => { y with val := .int .i64 x }).toList.map (·.born)) = es.toList.map (·.born) := by
      rw [hml, List.map_set]
      refine List.ext_getElem (by simp) fun j h1 h2 => ?_
      rw [List.getElem_set]
      split
      · rename_i hij; subst hij; simp [hei]
      · rfl
    have hent : ∀ (j : Nat) (y : MapEntry), es.toList[j]? = some y → j ≠ i → y.key ≠ a.val := fun j y hy hne he => by
      have h1 := h.kd
      have hjl := (List.getElem?_eq_some_iff.1 hy).1
      have := (List.getElem_inj (h₀ := by simpa using hjl) (h₁ := by simpa using hlt) h1).1 (by rw [List.getElem_map, List.getElem_map, hei, hk, (List.getElem?_eq_some_iff.1 hy).2, he])
      exact hne this
    refine ⟨fun y hy => ?_, fun y hy => ?_, by rw [hmb]; exact h.nd, by rw [hmk]; exact h.kd, fun c hc => ?_⟩
    · rw [hml] at hy
      obtain ⟨j, hj, rfl⟩ := List.mem_iff_getElem.1 hy
      rw [List.getElem_set]
      obtain ⟨c, hc, e1, e2⟩ := h.ent e (List.mem_of_getElem? hi2)
      obtain rfl : c = a := Nm.val_inj (by rw [← e1, hk])
      split
      · exact ⟨c, hc, e1, by unfold upN; simp⟩
      · rename_i hne
        have hjl : j < es.toList.length := by simpa using hj
        obtain ⟨d, hd, e3, e4⟩ := h.ent es.toList[j] (List.getElem_mem hjl)
        refine ⟨d, hd, e3, ?_⟩
        have hda : d ≠ c := fun hdc => hent j _ (List.getElem?_eq_getElem hjl) (fun e => hne e.symm) (by rw [e3, hdc])
        rw [e4]; unfold upN; rw [if_neg hda]
    · rw [hml] at hy
      obtain ⟨j, hj, rfl⟩ := List.mem_iff_getElem.1 hy
      rw [List.getElem_set]
      split
      · exact h.born e (List.mem_of_getElem? hi2)
      · exact h.born _ (List.getElem_mem _)
    · have hkeys : a.val ∈ es.toList.map (·.key) := List.mem_map.2 ⟨e, List.mem_of_getElem? hi2, hk⟩
      have : c.val ∈ es.toList.map (·.key) := by
        by_cases hca : c = a
        · rw [hca]; exact hkeys
        · unfold upN at hc; rw [if_neg hca] at hc
          obtain ⟨y, hy, e1⟩ := h.cov c hc
          exact List.mem_map.2 ⟨y, hy, e1⟩
      rw [← hmk] at this
      obtain ⟨y, hy, e1⟩ := List.mem_map.1 this
      exact ⟨y, hy, e1⟩
theorem ME.new : ME #[] 0 (fun _ => 0) := ⟨by simp, by simp, by simp, by simp, by simp⟩
/-- Block b is a map that holds f. -/
def MB (w : World) (b : Nat) (f : Nm → Int) : Prop := ∃ es clock, w.heap[b]? = some (.map es clock) ∧ ME es clock f
theorem MB.made (w : World) : MB (w.alloc (.map #[] 0)) w.heap.size (fun _ => 0) := ⟨#[], 0, (MapKept.heap_alloc w _).1, ME.new⟩
theorem setBlock_grown {w : World} {b : Nat} {es : Array MapEntry} {clock : Nat} (hb : w.heap[b]? = some (.map es clock)) (o : Obj) : w.grownBy (setBlock w b o) (some b) := ⟨rfl, rfl, rfl, by simp [setBlock], fun i _ hi => heap_setBlock_other hb _ (fun e => hi (by rw [e]))⟩
theorem MB.kept {w w' : World} {b : Nat} {row : Option Nat} {f : Nm → Int} (h : MB w b f) (hg : w.grownBy w' row) (hne : some b ≠ row) : MB w' b f := by
  obtain ⟨es, clock, hb, hm⟩ := h
  exact ⟨es, clock, (hg.block b (Array.getElem?_eq_some_iff.1 hb).1 hne).trans hb, hm⟩
theorem MB.ext {w w' : World} {b : Nat} {f : Nm → Int} (h : MB w b f) (x : Ext w w') : MB w' b f := by
  obtain ⟨es, clock, hb, hm⟩ := h
  exact ⟨es, clock, x.block hb, hm⟩
/-- m[k]++ step by step, in whatever order the look-up comes. -/
theorem MB.incr {w : World} {b : Nat} {f : Nm → Int} (h : MB w b f) {a : Nm} (ha : a.In) (x : Int) :
    ∃ st w2 w3, (Instr.lookup 117 (.map (some b)) a.val false).run Tryd.prog w = .ok (.int .i64 (f a)) w ∧
      (Instr.mapEntry 117 (.map (some b)) a.val).run Tryd.prog w = .ok (.tuple #[.int .i64 (f a), .int .i64 (st : Nat)]) w2 ∧
      (Instr.lookup 117 (.map (some b)) a.val false).run Tryd.prog w2 = .ok (.int .i64 (f a)) w2 ∧
      (Instr.entryStore 117 (.map (some b)) (.int .i64 (st : Nat)) (.int .i64 x)).run Tryd.prog w2 = .ok () w3 ∧ MB w3 b (upN f a x) ∧ w.grownBy w2 (some b) ∧ w.grownBy w3 (some b) := by
  obtain ⟨es, clock, hb, hm⟩ := h
  obtain ⟨es1, clock1, st, h1, hm1, i, e, h2, h3, rfl⟩ := hm.entry hb ha
  have hb2 : (setBlock w b (.map es1 clock1)).heap[b]? = some (.map es1 clock1) := heap_setBlock_same hb _
  obtain ⟨es', h4, h5⟩ := hm1.store hb2 h2 h3 x
  exact ⟨e.born, _, _, hm.look hb ha, h1, hm1.look hb2 ha, h4, ⟨es', clock1, heap_setBlock_same hb2 _, h5⟩, setBlock_grown hb _, (setBlock_grown hb _).trans (setBlock_grown hb2 _)⟩
end Go.Proofs.YtlhkehfplcclgaaDoor
/- checkPlaces$1: counting names. -/
namespace Go.Proofs.YtlhkehfplcclgaaDoor
set_option linter.unusedVariables false
set_option linter.unusedSimpArgs false
set_option maxRecDepth 8000
open Go Go.RowKit

/-- How often each name stands in a list. -/
def cntN (l : List Nm) (a : Nm) : Int := (l.count a : Nat)
theorem cntN_snoc (l : List Nm) (b : Nm) : cntN (l ++ [b]) = upN (cntN l) b (cntN l b + 1) := by
  funext a
  unfold cntN upN
  rw [List.count_append]
  by_cases h : a = b
  · subst h; simp
  · rw [if_neg h]; simp [List.count_cons, Ne.symm h, h]
theorem upN_upN (f : Nm → Int) (a : Nm) (x : Int) : upN f a x a = x := if_pos rfl
/-- f, and what a list counts. -/
def addN (f : Nm → Int) (l : List Nm) (a : Nm) : Int := f a + cntN l a
theorem addN_nil (f : Nm → Int) : addN f [] = f := by funext a; unfold addN cntN; simp
theorem addN_snoc (f : Nm → Int) (l : List Nm) (b : Nm) : addN f (l ++ [b]) = upN (addN f l) b (addN f l b + 1) := by
  funext a
  unfold addN
  rw [cntN_snoc]
  unfold upN
  by_cases h : a = b
  · subst h; simp; omega
  · simp [h]
theorem addN_app (f : Nm → Int) (l m : List Nm) : addN f (l ++ m) = addN (addN f l) m := by
  funext a
  unfold addN cntN
  rw [List.count_append]; omega
set_option maxHeartbeats 4000000 in
theorem Count_calls (v : Value) (c g b : Nat) (l : List Nm) (f : Nm → Int) (w : World) (h : NL w v c l) (hl : l.length ≤ 100000) (hin : ∀ a ∈ l, a.In) (hg : w.cell? ⟨g, 0, none⟩ = some (.map (some b))) (hgb : g ≠ b) (hm : MB w b f) (hf : ∀ a, 0 ≤ f a ∧ f a ≤ 1000000000) :
    Calls Tryd.prog 64 #[v, .pointer (some ⟨g, 0, none⟩)] w fun e w' => e = .returned (.tuple #[]) ∧ MB w' b (addN f l) ∧ w.grownBy w' (some b) := by
  obtain ⟨ao, n, rfl, hn, hnc, hc9, hat⟩ := h.open
  have Hin := Lib.hid (fun i (hi : i < n) => hin (ni l i) (ni_mem (by omega)))
  have Hat := Lib.hid hat
  have hn5 : n ≤ 100000 := by omega
  have HG := Lib.hid hg
  have HF := Lib.hid hf
  have HM0 := Lib.hid (show MB w b (addN f (l.take 0)) by rw [List.take_zero, addN_nil]; exact hm)
  have HN := Lib.hid hn
  clear hin hat hg hf hm hn h hl
  go_enter Tryd.func64, Tryd.ntmps64
  go_wp2
  go_loopw [4, 7] (fun _ i wr => ∃ k : Nat, k ≤ n ∧ i = .int .i64 k ∧ Hid (MB wr b (addN f (l.take k)) ∧ w.grownBy wr (some b))) (fun _ i _ => n - (intOf i).toNat)
  case atStart => exact ⟨0, Nat.zero_le _, rfl, Lib.hid ⟨HM0.out, World.grownBy.refl _ _⟩⟩
  case round =>
    obtain ⟨k, hk, rfl, G⟩ := hrel
    by_cases hlt : k < n
    · obtain ⟨b1, o1, rfl, hA⟩ := Hat.out k hlt
      have e1 : (k : Int) < n := by omega
      have e2 : (0 : Int) ≤ k := by omega
      have hgw : wr.cell? ⟨g, 0, none⟩ = some (.map (some b)) := World.grownBy.cell G.out.2 HG.out (by simp; exact hgb)
      have hne : b1 ≠ b := fun e => by
        subst e
        obtain ⟨es, clock, hb, _⟩ := HM0.out
        have := hA.1
        simp [World.cell?, hb] at this
      have ca := World.grownBy.cell G.out.2 hA.1 (by simp; exact hne)
      have cb := World.grownBy.cell G.out.2 hA.2 (by simp; exact hne)
      have Ha := Lib.hid (Hin.out k hlt)
      have Htk := Lib.hid (show addN f (l.take (k + 1)) = upN (addN f (l.take k)) (ni l k) (addN f (l.take k) (ni l k) + 1) by rw [← addN_snoc]; congr 1; rw [ni_of (by rw [← HN.out]; exact hlt)]; exact List.take_succ_eq_append_getElem _)
      have hbd : 0 ≤ addN f (l.take k) (ni l k) ∧ addN f (l.take k) (ni l k) ≤ 1000100000 := by
        have h1 := HF.out (ni l k)
        have h2 := List.count_le_length (l := l.take k) (a := ni l k)
        rw [List.length_take] at h2
        unfold addN cntN
        omega
      obtain ⟨a, ha⟩ : ∃ a, a = ni l k := ⟨_, rfl⟩
      rw [← ha] at ca cb Ha Htk hbd
      obtain ⟨x, hx⟩ : ∃ x, x = addN f (l.take k) a := ⟨_, rfl⟩
      rw [← hx] at Htk hbd
      obtain ⟨W, hW⟩ : ∃ W, W = wr.alloc (.cells #[.int .u8 a.y, .int .i64 a.n] 41) := ⟨_, rfl⟩
      have hMW : MB W.drew b (addN f (l.take k)) := show MB W b (addN f (l.take k)) by rw [hW]; exact G.out.1.kept (World.grownBy_alloc _ _ none) (by simp)
      have hN2 : BN W wr.heap.size a := by rw [hW]; exact BN.new wr a
      have hgW : W.cell? ⟨g, 0, none⟩ = some (.map (some b)) := by rw [hW]; exact cell_alloc hgw _
      have hbl : b < wr.heap.size := by obtain ⟨es, clock, hb, _⟩ := G.out.1; exact (Array.getElem?_eq_some_iff.1 hb).1
      have hGW : w.grownBy W.drew (some b) := (show w.grownBy W (some b) by rw [hW]; exact G.out.2.trans (World.grownBy_alloc _ _ _)).trans ⟨rfl, rfl, rfl, Nat.le_refl _, fun _ _ _ => rfl⟩
      obtain ⟨st, w2, w3, r1, r2, r3, r4, hm3, g2, g3⟩ := hMW.incr Ha.out (x + 1)
      rw [← hx] at r1 r2 r3
      have t1 : IntKind.i64.wrap (x + 1) = x + 1 := IntWalk.i64_in _ ⟨by omega, by omega⟩
      obtain ⟨a0, a1⟩ := hN2.at
      simp only [Nat.zero_add] at a1
      have v1 := World.grownBy.cell g2 (show W.drew.cell? _ = _ from hgW) (by simp; exact hgb)
      have v2 := World.grownBy.cell g2 (show W.drew.cell? _ = _ from a0) (by simp; omega)
      have v3 := World.grownBy.cell g2 (show W.drew.cell? _ = _ from a1) (by simp; omega)
      have HR := Lib.hid (show MB w3 b (addN f (l.take (k + 1))) ∧ w.grownBy w3 (some b) from ⟨by rw [Htk.out]; exact hm3, hGW.trans g3⟩)
      have HW := Lib.hid hW
      unfold Nm.val at r1 r2 r3
      clear hMW hN2 hm3 g2 g3 hGW hW hgw Htk hx ha hA hbl
      go_wp2
      rw [← HW.out]
      go_region
      go_wp2
      go_roundw
      case rel => exact ⟨k + 1, by omega, by go_num, HR⟩
      case measure => simp [intOf]; omega
    · obtain rfl : k = n := by omega
      have e1 : ¬ (k : Int) < k := by omega
      go_wp2
      go_end0
      refine ⟨rfl, ?_, G.out.2⟩
      have := G.out.1
      rwa [HN.out, List.take_length] at this
end Go.Proofs.YtlhkehfplcclgaaDoor
/- checkCrossings. -/
namespace Go.Proofs.YtlhkehfplcclgaaDoor
set_option linter.unusedVariables false
set_option linter.unusedSimpArgs false
set_option maxRecDepth 8000
open Go Go.RowKit

/-- Crossing i is as it should be. -/
def crB (t : Tab) (cr : List Xg) (i : Nat) : Bool :=
  hasB t (xi cr i).a && (hasB t (xi cr i).b && (decide (cmpN (xi cr i).a (xi cr i).b < 0) && (decide (-1048576 ≤ (xi cr i).n) && (decide ((xi cr i).n ≤ 1048576) && (decide ((xi cr i).n ≠ 0) && (decide (i = 0) || decide (cmpX (xi cr (i - 1)) (xi cr i) < 0)))))))
def cchk (t : Tab) (cr : List Xg) : Int := if (List.range cr.length).all (crB t cr) then 0 else 1
theorem cchk_ok {t : Tab} {cr : List Xg} (h : ∀ i, i < cr.length → crB t cr i = true) : cchk t cr = 0 := if_pos (List.all_eq_true.2 fun i hi => h i (List.mem_range.1 hi))
theorem cchk_bad {t : Tab} {cr : List Xg} {i : Nat} (hi : i < cr.length) (h : crB t cr i = false) : cchk t cr = 1 := if_neg fun hh => by
  have := List.all_eq_true.1 hh i (List.mem_range.2 hi)
  rw [h] at this; cases this
set_option maxHeartbeats 16000000 in
theorem ChkX_calls (tv cv hv fv : Value) (f : Fab) (w : World) (h : FB w tv cv hv fv f) (hin : ∀ c ∈ f.cr, c.In) (hl : f.cr.length ≤ 100000) :
    Calls Tryd.prog 45 #[.agg #[tv, cv, hv, fv]] w fun e w' => e = .returned (.int .i64 (cchk f.ys f.cr)) ∧ Ext w w' := by
  obtain ⟨ct, hT⟩ := h.t
  obtain ⟨cc, hC⟩ := h.c
  obtain ⟨ta, tn, rfl, htn, htc, ht9, _⟩ := hT.open
  clear htn
  obtain ⟨ao, n, rfl, hn, hnc, hc9, hat⟩ := hC.open
  have Hin := Lib.hid (fun i (hi : i < n) => hin (xi f.cr i) (xi_mem (by omega)))
  have hn5 : n ≤ 100000 := by omega
  obtain ⟨W, hW⟩ : ∃ W, W = w.alloc (.cells #[.slice ta tn ct, .slice ao n cc, hv, fv] 35) := ⟨_, rfl⟩
  have xW : Ext w W := by rw [hW]; exact (Ext.refl _).alloc _
  have b4 : B4 W w.heap.size (.slice ta tn ct) (.slice ao n cc) hv fv 35 := by rw [hW]; exact B4.new _ _ _ _ _ _
  have hHas := fun w' a (x : Ext W w') (ha : Nm.In a) => Has_calls (.slice ta tn ct) ct f.ys a w' (hT.ext (xW.trans x)) ha
  have Hat := Lib.hid (fun i (hi : i < n) => (by obtain ⟨b, o, e, ha⟩ := hat i hi; exact ⟨b, o, e, ha.ext xW⟩ : ∃ b o, ao = some ⟨b, o, none⟩ ∧ At5 W b (o + i * 5) (xi f.cr i)))
  obtain ⟨R, hR⟩ : ∃ R, R = cchk f.ys f.cr := ⟨_, rfl⟩
  have HOk := Lib.hid (show (∀ i, i < n → crB f.ys f.cr i = true) → R = 0 from fun hh => by rw [hR]; exact cchk_ok fun i hi => hh i (by omega))
  have HBad := Lib.hid (show ∀ i, i < n → crB f.ys f.cr i = false → R = 1 from fun i hi hh => by rw [hR]; exact cchk_bad (by omega) hh)
  obtain ⟨CB, hCB⟩ : ∃ CB, CB = crB f.ys f.cr := ⟨_, rfl⟩
  obtain ⟨C, hCx⟩ : ∃ C, C = xi f.cr := ⟨_, rfl⟩
  have HCB := Lib.hid (show ∀ i, CB i = (hasB f.ys (C i).a && (hasB f.ys (C i).b && (decide (cmpN (C i).a (C i).b < 0) && (decide (-1048576 ≤ (C i).n) && (decide ((C i).n ≤ 1048576) && (decide ((C i).n ≠ 0) && (decide (i = 0) || decide (cmpX (C (i - 1)) (C i) < 0)))))))) from fun i => by rw [hCB, hCx]; rfl)
  rw [← hR]
  rw [← hCB] at HOk HBad
  rw [← hCx] at Hat Hin
  have HHas := Lib.hid hHas; have HB := Lib.hid b4; have HW := Lib.hid hW; have XW := Lib.hid xW
  have c1 := b4.c1
  rw [hW] at c1
  clear hHas b4 hW xW hat hR hCB hCx hn hC hT h hin hl
  go_enter Tryd.func45, Tryd.ntmps45
  go_wp2
  rw [← HW.out]
  go_loopw [3, 4, 8] (fun _ _ i wr => ∃ k : Nat, k ≤ n ∧ i = .int .i64 k ∧ Hid (Ext W wr ∧ ∀ j, j < k → CB j = true)) (fun _ _ i _ => n - (intOf i).toNat)
  case atStart => exact ⟨0, Nat.zero_le _, rfl, Lib.hid ⟨Ext.refl _, fun j hj => by omega⟩⟩
  case round =>
    obtain ⟨k, hk, rfl, G⟩ := hrel
    by_cases hlt : k < n
    · obtain ⟨b, o, rfl, hA⟩ := Hat.out k hlt
      have e1 : (k : Int) < n := by omega
      have e2 : (0 : Int) ≤ k := by omega
      have hA0 := hA.ext G.out.1
      have hIn0 := Hin.out k hlt
      have hCk := HCB.out k
      obtain ⟨c, hc⟩ : ∃ c, c = C k := ⟨_, rfl⟩
      obtain ⟨p, hp⟩ : ∃ p, p = C (k - 1) := ⟨_, rfl⟩
      have hpA : 0 < k → At5 wr b (o + (k - 1) * 5) p := fun h0 => by
        obtain ⟨b', o', e, h2⟩ := Hat.out (k - 1) (by omega)
        obtain ⟨rfl, rfl⟩ : b = b' ∧ o = o' := by simpa using e
        rw [hp]; exact h2.ext G.out.1
      rw [← hc] at hA0 hIn0 hCk
      rw [← hp] at hCk
      have HCk := Lib.hid hCk; have HpA := Lib.hid hpA
      obtain ⟨x0, x1, x2, x3, x4⟩ := hA0
      obtain ⟨hi1, hi2, hi3⟩ := hIn0
      have I1 := Lib.hid hi1; have I2 := Lib.hid hi2
      obtain ⟨W1, hW1⟩ : ∃ W1, W1 = wr.alloc (.cells #[.int .u8 c.a.y, .int .i64 c.a.n, .int .u8 c.b.y, .int .i64 c.b.n, .int .i64 c.n] 52) := ⟨_, rfl⟩
      have Y1 := Lib.hid (show Ext W W1 by rw [hW1]; exact G.out.1.trans ((Ext.refl _).alloc _))
      have N1 := Lib.hid (show B5 W1 wr.heap.size c 52 by rw [hW1]; exact B5.new wr c _)
      have HW1 := Lib.hid hW1
      have f0 := cell_alloc (G.out.1.cell HB.out.c0) (.cells #[.int .u8 c.a.y, .int .i64 c.a.n, .int .u8 c.b.y, .int .i64 c.b.n, .int .i64 c.n] 52)
      have f1 : w.heap.size < wr.heap.size := by have h1 := G.out.1.size; have h2 := HB.out; unfold B4 at h2; have h3 := (Array.getElem?_eq_some_iff.1 h2).1; omega
      have HP := Lib.hid (fun h0 => (hpA h0).ext (show Ext wr W1 by rw [hW1]; exact (Ext.refl _).alloc _))
      clear hA hp hc hCk hpA hi1 hi2 hi3 hW1
      go_wp2_with fail
      rw [← HW1.out]
      clear x0 x1 x2 x3 x4 f0 f1
      refine (HHas.out W1 c.a Y1.out I1.out).mono ?_
      rintro e w2 ⟨rfl, x⟩
      have Y2 := Lib.hid (Y1.out.trans x); have N2 := Lib.hid (N1.out.ext x); have P2 := Lib.hid (fun h0 => (HP.out h0).ext x)
      clear x
      have f0 := Y2.out.cell HB.out.c0; have f1 := Y2.out.cell HB.out.c1
      obtain ⟨y0, y1, y2, y3, y4⟩ := (N2.out.at : At5 w2 wr.heap.size 0 c)
      simp only [Nat.zero_add] at y1 y2 y3 y4
      rcases hb1 : hasB f.ys c.a with _ | _
      · have hbad := HBad.out k hlt (by rw [HCk.out, hb1]; rfl)
        go_wp2
        go_ret
        exact ⟨ret_int (by first | rfl | rw [hbad]), XW.out.trans Y2.out⟩
      go_wp2_with fail
      clear f0 f1 y0 y1 y2 y3 y4
      refine (HHas.out w2 c.b Y2.out I2.out).mono ?_
      rintro e w3 ⟨rfl, x⟩
      have Y3 := Lib.hid (Y2.out.trans x); have N3 := Lib.hid (N2.out.ext x); have P3 := Lib.hid (fun h0 => (P2.out h0).ext x)
      clear x
      have f0 := Y3.out.cell HB.out.c0; have f1 := Y3.out.cell HB.out.c1
      obtain ⟨y0, y1, y2, y3, y4⟩ := (N3.out.at : At5 w3 wr.heap.size 0 c)
      simp only [Nat.zero_add] at y1 y2 y3 y4
      rcases hb2 : hasB f.ys c.b with _ | _
      · have hbad := HBad.out k hlt (by rw [HCk.out, hb1, hb2]; rfl)
        go_wp2
        go_ret
        exact ⟨ret_int (by first | rfl | rw [hbad]), XW.out.trans Y3.out⟩
      go_wp2_with fail
      clear f0 f1 y0 y1 y2 y3 y4
      refine (Compare_calls c.a c.b w3).mono ?_
      rintro e w4 ⟨rfl, x⟩
      have Y4 := Lib.hid (Y3.out.trans x); have N4 := Lib.hid (N3.out.ext x); have P4 := Lib.hid (fun h0 => (P3.out h0).ext x)
      clear x
      have f0 := Y4.out.cell HB.out.c0; have f1 := Y4.out.cell HB.out.c1
      obtain ⟨y0, y1, y2, y3, y4⟩ := (N4.out.at : At5 w4 wr.heap.size 0 c)
      simp only [Nat.zero_add] at y1 y2 y3 y4
      obtain ⟨cc1, hcc⟩ : ∃ cc1, cc1 = cmpN c.a c.b := ⟨_, rfl⟩
      rw [← hcc]
      by_cases hb3 : cc1 < 0
      case neg =>
        have hbad := HBad.out k hlt (by rw [HCk.out, hb1, hb2, ← hcc, decide_eq_false hb3]; rfl)
        have e3 : (0 : Int) ≤ cc1 := by omega
        clear hcc
        go_wp2
        go_ret
        exact ⟨ret_int (by first | rfl | rw [hbad]), XW.out.trans Y4.out⟩
      have e3 : ¬ (0 : Int) ≤ cc1 := by omega
      have Hcc := Lib.hid hcc
      clear hcc
      by_cases hb4 : -1048576 ≤ c.n
      case neg =>
        have hbad := HBad.out k hlt (by rw [HCk.out, hb1, hb2, ← Hcc.out, decide_eq_true hb3, decide_eq_false hb4]; rfl)
        have e4 : c.n < -1048576 := by omega
        go_wp2
        go_ret
        exact ⟨ret_int (by first | rfl | rw [hbad]), XW.out.trans Y4.out⟩
      have e4 : ¬ c.n < -1048576 := by omega
      by_cases hb5 : c.n ≤ 1048576
      case neg =>
        have hbad := HBad.out k hlt (by rw [HCk.out, hb1, hb2, ← Hcc.out, decide_eq_true hb3, decide_eq_true hb4, decide_eq_false hb5]; rfl)
        have e5 : 1048576 < c.n := by omega
        go_wp2
        go_ret
        exact ⟨ret_int (by first | rfl | rw [hbad]), XW.out.trans Y4.out⟩
      have e5 : ¬ 1048576 < c.n := by omega
      by_cases hb6 : c.n ≠ 0
      case neg =>
        have hbad := HBad.out k hlt (by rw [HCk.out, hb1, hb2, ← Hcc.out, decide_eq_true hb3, decide_eq_true hb4, decide_eq_true hb5, decide_eq_false hb6]; rfl)
        have e6 : (c.n == 0) = true := by simpa using hb6
        go_wp2
        go_ret
        exact ⟨ret_int (by first | rfl | rw [hbad]), XW.out.trans Y4.out⟩
      have e6 : (c.n == 0) = false := by simpa using hb6
      by_cases hk0 : k = 0
      · have hok : CB k = true := by rw [HCk.out, hb1, hb2, ← Hcc.out, decide_eq_true hb3, decide_eq_true hb4, decide_eq_true hb5, decide_eq_true hb6, decide_eq_true hk0]; rfl
        have HN := Lib.hid (show ∀ j, j < k + 1 → CB j = true from fun j hj => by
          rcases Nat.lt_or_ge j k with h1 | h1
          · exact G.out.2 j h1
          · obtain rfl : j = k := by omega
            exact hok)
        have e7 : ¬ (0 : Int) < k := by omega
        have e8 : decide ((0 : Int) < k) = false := decide_eq_false e7
        clear hok
        go_wp2
        go_quiet (fail)
        go_wp2
        go_roundw
        case rel => exact ⟨k + 1, by omega, by go_num, Lib.hid ⟨Y4.out.trans (by (focus (repeat (first | (with_reducible exact Ext.refl _) | (with_reducible apply Ext.drew) | (with_reducible apply Ext.drewN) | (with_reducible apply Ext.alloc))))), HN.out⟩⟩
        case measure => simp [intOf]; omega
      · have e7 : (0 : Int) < k := by omega
        have e7n : 0 < k := by omega
        have e8 : decide ((0 : Int) < k) = true := decide_eq_true e7
        have e8n : decide (0 < k) = true := decide_eq_true e7n
        have e9 : IntKind.i64.wrap ((k : Int) - 1) = (k : Int) - 1 := IntWalk.i64_in _ ⟨by omega, by omega⟩
        have e10 : ((k : Int) - 1).toNat = k - 1 := by omega
        have e11 : (0 : Int) ≤ (k : Int) - 1 := by omega
        have e13 : (1 : Int) ≤ k := by omega
        have e14 : 1 ≤ k := by omega
        have e12 : (k : Int) - 1 < n := by omega
        obtain ⟨z0, z1, z2, z3, z4⟩ := P4.out (by omega)
        obtain ⟨q0_1, q0_2, q0_3, q0_4, q0_5, q0_6, q0_7, q0_8, q0_9, q0_10, q0_11⟩ := And.intro f1 (And.intro y0 (And.intro y1 (And.intro y2 (And.intro y3 (And.intro y4 (And.intro z0 (And.intro z1 (And.intro z2 (And.intro z3 z4)))))))))
        go_wp2
        go_region_held3 (fun w' => w'.cell? ⟨w.heap.size, 1, Option.none⟩ = some (.slice (some ⟨b, o, none⟩) n cc) ∧ w'.cell? ⟨wr.heap.size, 0, Option.none⟩ = some (.int .u8 c.a.y) ∧ w'.cell? ⟨wr.heap.size, 1, Option.none⟩ = some (.int .i64 c.a.n) ∧ w'.cell? ⟨wr.heap.size, 2, Option.none⟩ = some (.int .u8 c.b.y) ∧ w'.cell? ⟨wr.heap.size, 3, Option.none⟩ = some (.int .i64 c.b.n) ∧ w'.cell? ⟨wr.heap.size, 4, Option.none⟩ = some (.int .i64 c.n) ∧ w'.cell? ⟨b, o + (k - 1) * 5, Option.none⟩ = some (.int .u8 p.a.y) ∧ w'.cell? ⟨b, o + (k - 1) * 5 + 1, Option.none⟩ = some (.int .i64 p.a.n) ∧ w'.cell? ⟨b, o + (k - 1) * 5 + 2, Option.none⟩ = some (.int .u8 p.b.y) ∧ w'.cell? ⟨b, o + (k - 1) * 5 + 3, Option.none⟩ = some (.int .i64 p.b.n) ∧ w'.cell? ⟨b, o + (k - 1) * 5 + 4, Option.none⟩ = some (.int .i64 p.n)) (first | (with_reducible exact ⟨q0_1, q0_2, q0_3, q0_4, q0_5, q0_6, q0_7, q0_8, q0_9, q0_10, q0_11⟩) | (with_reducible exact ⟨q1_1, q1_2, q1_3, q1_4, q1_5, q1_6, q1_7, q1_8, q1_9, q1_10, q1_11⟩) | go_keep) (first
          | (go_at_call 51; (refine (Pairs_calls p c _).mono ?_); intro e w5 hh; obtain ⟨rfl, x⟩ := hh; have Xa : Hid (Ext w4 w5) := Lib.hid (Ext.trans (by ((repeat (first | (with_reducible exact Ext.refl _) | (with_reducible apply Ext.drew) | (with_reducible apply Ext.drewN) | (with_reducible apply Ext.alloc))); done)) x); have q1_1 := Xa.out.cell q0_1; have q1_2 := Xa.out.cell q0_2; have q1_3 := Xa.out.cell q0_3; have q1_4 := Xa.out.cell q0_4; have q1_5 := Xa.out.cell q0_5; have q1_6 := Xa.out.cell q0_6; have q1_7 := Xa.out.cell q0_7; have q1_8 := Xa.out.cell q0_8; have q1_9 := Xa.out.cell q0_9; have q1_10 := Xa.out.cell q0_10; have q1_11 := Xa.out.cell q0_11; clear x))
        obtain ⟨cx, hcx⟩ : ∃ cx, cx = cmpX p c := ⟨_, rfl⟩
        rw [← hcx]
        have Hcx := Lib.hid hcx
        clear hcx
        by_cases hb7 : cx < 0
        · have e15 : ¬ (0 : Int) ≤ cx := by omega
          have hok : CB k = true := by rw [HCk.out, hb1, hb2, ← Hcc.out, ← Hcx.out, decide_eq_true hb3, decide_eq_true hb4, decide_eq_true hb5, decide_eq_true hb6, decide_eq_true hb7]; simp
          have HN := Lib.hid (show ∀ j, j < k + 1 → CB j = true from fun j hj => by
            rcases Nat.lt_or_ge j k with h1 | h1
            · exact G.out.2 j h1
            · obtain rfl : j = k := by omega
              exact hok)
          clear hok
          go_wp2
          go_roundw
          case rel => exact ⟨k + 1, by omega, by go_num, Lib.hid ⟨Y4.out.trans Xa.out, HN.out⟩⟩
          case measure => simp [intOf]; omega
        · have e15 : (0 : Int) ≤ cx := by omega
          have hbad := HBad.out k hlt (by rw [HCk.out, hb1, hb2, ← Hcc.out, ← Hcx.out, decide_eq_true hb3, decide_eq_true hb4, decide_eq_true hb5, decide_eq_true hb6, decide_eq_false hb7, decide_eq_false hk0]; rfl)
          go_wp2
          go_ret
          exact ⟨ret_int (by first | rfl | rw [hbad]), XW.out.trans (Y4.out.trans Xa.out)⟩
    · obtain rfl : k = n := by omega
      have e1 : ¬ (k : Int) < k := by omega
      go_wp2
      go_ret
      refine ⟨ret_int ?_, XW.out.trans G.out.1⟩
      rw [HOk.out G.out.2]
end Go.Proofs.YtlhkehfplcclgaaDoor
