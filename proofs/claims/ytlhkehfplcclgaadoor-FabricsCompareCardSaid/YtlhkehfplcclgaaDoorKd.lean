/- Strings; fabrics.name. -/
import Derived.Test.YtlhkehfplcclgaaDoorKc
import Derived.Test.YtlhkehfplcclgaaDoorShelf
import Derived.Lib.Join
import Derived.Lib.ItoaNum
import Derived.Lib.ItoaLen
import Derived.Lib.SmallJoins
import Derived.Lib.AppendStr
namespace Go.Proofs.YtlhkehfplcclgaaDoor
set_option linter.unusedVariables false
set_option linter.unusedSimpArgs false
set_option maxRecDepth 8000
open Go Go.RowKit Go.Sort

/-- The table of powers of ten lies where strconv looks for it. -/
def PTab (w : World) : Prop := Lib.TabIs Tryd.prog w "internal/strconv.uint64pow10" .u64 Lib.pow10Tab
theorem PTab.ext {w w' : World} (h : PTab w) (hx : Ext w w') : PTab w' := by
  unfold PTab Lib.TabIs World.var? at h ⊢
  cases hg : Tryd.prog.globalNamed "internal/strconv.uint64pow10" with
  | none => simp [hg] at h
  | some g =>
    simp only [hg, Option.bind_some] at h ⊢
    have hlt : g < w.heap.size := by
      rcases Nat.lt_or_ge g w.heap.size with h' | h'
      · exact h'
      · rw [Array.getElem?_eq_none h'] at h; cases h
    rw [Below.block hx g hlt]
    exact h
theorem grow_ext (w : World) (k : Nat) (os : Array Obj) : Ext w (grow (w.drewN k) os) :=
  ⟨rfl, rfl, rfl, by show w.heap.size ≤ (w.heap ++ os).size; simp, fun j hj => by show (w.heap ++ os)[j]? = _; rw [Array.getElem?_append_left hj]⟩
/-- A text. -/
def bst (l : List UInt8) : ByteArray := ⟨l.toArray⟩
theorem bst_app (a b : List UInt8) : bst a ++ bst b = bst (a ++ b) := by
  apply ByteArray.ext
  rw [ByteArray.data_append]
  unfold bst; simp
theorem bst_size (l : List UInt8) : (bst l).size = l.length := by unfold bst; simp [ByteArray.size]
theorem bst_inj {a b : List UInt8} (h : bst a = bst b) : a = b := by
  unfold bst at h
  have := ByteArray.mk.inj h
  simpa using this
theorem Itoa_calls (n : Int) (h : -9223372036854775808 ≤ n ∧ n ≤ 9223372036854775807) (w : World) (ht : PTab w) :
    Calls Tryd.prog 41 #[.int .i64 n] w fun e w' => e = .returned (.string (bst (Lib.itoa n))) ∧ Ext w w' :=
  (Tryd.strconv_Itoa n h.1 h.2 w ht).mono fun e w' ⟨he, k, os, hw⟩ => ⟨he, hw ▸ grow_ext w k os⟩
def nameT (a : Nm) : List UInt8 := Lib.itoa a.y ++ [46] ++ Lib.itoa a.n
theorem nameT_len {a : Nm} (h : a.In) : (nameT a).length ≤ 43 := by
  obtain ⟨⟨h1, h2⟩, h3, h4⟩ := h
  have k1 := Lib.itoa_length_le a.y (by omega) (by omega)
  have k2 := Lib.itoa_length_le a.n h3 h4
  unfold nameT
  rw [List.length_append, List.length_append]; simp; omega
set_option maxHeartbeats 4000000 in
theorem Name_calls (a : Nm) (w : World) (ht : PTab w) (ha : a.In) : Calls Tryd.prog 40 #[a.val] w fun e w' => e = .returned (.string (bst (nameT a))) ∧ Ext w w' := by
  obtain ⟨⟨h1, h2⟩, h3, h4⟩ := ha
  have k1 := Lib.itoa_length_le a.y (by omega) (by omega)
  have k2 := Lib.itoa_length_le a.n h3 h4
  obtain ⟨W, hW⟩ : ∃ W, W = w.alloc (.cells #[.int .u8 a.y, .int .i64 a.n] 41) := ⟨_, rfl⟩
  have XW := Lib.hid (show Ext w W by rw [hW]; exact (Ext.refl _).alloc _)
  obtain ⟨q0_1, q0_2⟩ := (show BN W w.heap.size a by rw [hW]; exact BN.new w a).at
  simp only [Nat.zero_add] at q0_2
  obtain ⟨S1, hS1⟩ : ∃ S1, S1 = bst (Lib.itoa a.y) := ⟨_, rfl⟩
  obtain ⟨S2, hS2⟩ : ∃ S2, S2 = bst (Lib.itoa a.n) := ⟨_, rfl⟩
  have H1 := Lib.hid (show ∀ w', Ext w w' → Calls Tryd.prog 41 #[.int .i64 a.y] w' fun e w'' => e = .returned (.string S1) ∧ Ext w' w'' from fun w' x => by rw [hS1]; exact Itoa_calls a.y (by omega) w' (ht.ext x))
  have H2 := Lib.hid (show ∀ w', Ext w w' → Calls Tryd.prog 41 #[.int .i64 a.n] w' fun e w'' => e = .returned (.string S2) ∧ Ext w' w'' from fun w' x => by rw [hS2]; exact Itoa_calls a.n (by omega) w' (ht.ext x))
  have z1 : S1.size ≤ 21 := by rw [hS1, bst_size]; exact k1
  have z2 : S2.size ≤ 21 := by rw [hS2, bst_size]; exact k2
  have y1 : ¬ 9223372036854775807 < S1.size + 1 := by omega
  have y2 : ¬ 9223372036854775807 < S1.size + 1 + S2.size := by omega
  have HE := Lib.hid (show S1 ++ bst [46] ++ S2 = bst (nameT a) by rw [hS1, hS2, bst_app, bst_app]; rfl)
  rw [← HE.out]
  have t1 : IntKind.i64.wrap a.y = a.y := IntWalk.i64_in _ ⟨by omega, by omega⟩
  have HW := Lib.hid hW
  unfold Nm.val
  clear hW hS1 hS2 k1 k2
  go_enter Tryd.func40, Tryd.ntmps40
  go_wp2
  rw [← HW.out]
  generalize a.y = Y at *
  generalize a.n = N at *
  go_region_held3 (fun w' => w'.cell? ⟨w.heap.size, 0, Option.none⟩ = some (.int .u8 Y) ∧ w'.cell? ⟨w.heap.size, 1, Option.none⟩ = some (.int .i64 N)) (first | (with_reducible exact ⟨q0_1, q0_2⟩) | (with_reducible exact ⟨q1_1, q1_2⟩) | (with_reducible exact ⟨q2_1, q2_2⟩) | go_keep) (first
    | (go_at_call_of 41 (Value.int .i64 Y); (refine (H1.out _ ?_).mono ?_); (focus (refine Ext.trans XW.out ?_; (focus (repeat (first | (with_reducible exact Ext.refl _) | (with_reducible apply Ext.drew) | (with_reducible apply Ext.drewN) | (with_reducible apply Ext.alloc)))))); intro e w1 hh; obtain ⟨rfl, x⟩ := hh; have Xa : Hid (Ext W w1) := Lib.hid (Ext.trans (by ((repeat (first | (with_reducible exact Ext.refl _) | (with_reducible apply Ext.drew) | (with_reducible apply Ext.drewN) | (with_reducible apply Ext.alloc))); done)) x); have q1_1 := Xa.out.cell q0_1; have q1_2 := Xa.out.cell q0_2; clear x)
    | (go_at_call_of 41 (Value.int .i64 N); (refine (H2.out _ ?_).mono ?_); (focus (refine Ext.trans (XW.out.trans Xa.out) ?_; (focus (repeat (first | (with_reducible exact Ext.refl _) | (with_reducible apply Ext.drew) | (with_reducible apply Ext.drewN) | (with_reducible apply Ext.alloc)))))); intro e w2 hh; obtain ⟨rfl, x⟩ := hh; have Xb : Hid (Ext W w2) := Lib.hid (Ext.trans Xa.out (Ext.trans (by ((repeat (first | (with_reducible exact Ext.refl _) | (with_reducible apply Ext.drew) | (with_reducible apply Ext.drewN) | (with_reducible apply Ext.alloc))); done)) x)); have q2_1 := Xb.out.cell q0_1; have q2_2 := Xb.out.cell q0_2; clear x))
  all_goals go_wp2
  all_goals go_ret
  all_goals exact ⟨rfl, XW.out.trans Xb.out⟩
end Go.Proofs.YtlhkehfplcclgaaDoor
