/- cmp.Compare, cmp.Or, Compare, comparePairs, pair. -/
import Derived.Test.YtlhkehfplcclgaaDoorVa
import Derived.Deep.RegionHeld3
import Derived.Deep.CutRange
namespace Go.Proofs.YtlhkehfplcclgaaDoor
set_option linter.unusedVariables false
set_option linter.unusedSimpArgs false
set_option maxRecDepth 8000
open Go Go.RowKit

def cmpI (a b : Int) : Int := if a < b then -1 else if b < a then 1 else 0
def orI (a b : Int) : Int := if a = 0 then b else a
def cmpN (a b : Nm) : Int := orI (cmpI a.y b.y) (cmpI a.n b.n)
def cmpX (c d : Xg) : Int := orI (cmpN c.a d.a) (cmpN c.b d.b)
theorem isNaN8_calls (a : Int) (w : World) : Calls Tryd.prog 67 #[.int .u8 a] w fun e w' => e = .returned (.bool false) ∧ w' = w := by
  go_enter Tryd.func67, Tryd.ntmps67
  go_wp2
  go_ret
  exact ⟨by simp, rfl⟩
theorem isNaN_calls (a : Int) (w : World) : Calls Tryd.prog 68 #[.int .i64 a] w fun e w' => e = .returned (.bool false) ∧ w' = w := by
  go_enter Tryd.func68, Tryd.ntmps68
  go_wp2
  go_ret
  exact ⟨by simp, rfl⟩
theorem Cmp8_calls (a b : Int) (w : World) : Calls Tryd.prog 57 #[.int .u8 a, .int .u8 b] w fun e w' => e = .returned (.int .i64 (cmpI a b)) ∧ w' = w := by
  go_enter Tryd.func57, Tryd.ntmps57
  go_wp2_with fail
  refine (isNaN8_calls _ _).mono ?_
  rintro e w' ⟨rfl, rfl⟩
  go_wp2_with fail
  refine (isNaN8_calls _ _).mono ?_
  rintro e w' ⟨rfl, rfl⟩
  go_wp2
  all_goals go_ret
  all_goals (refine ⟨ret_int ?_, rfl⟩; unfold cmpI; (repeat' split) <;> first | rfl | omega)
theorem Cmp_calls (a b : Int) (w : World) : Calls Tryd.prog 58 #[.int .i64 a, .int .i64 b] w fun e w' => e = .returned (.int .i64 (cmpI a b)) ∧ w' = w := by
  go_enter Tryd.func58, Tryd.ntmps58
  go_wp2_with fail
  refine (isNaN_calls _ _).mono ?_
  rintro e w' ⟨rfl, rfl⟩
  go_wp2_with fail
  refine (isNaN_calls _ _).mono ?_
  rintro e w' ⟨rfl, rfl⟩
  go_wp2
  all_goals go_ret
  all_goals (refine ⟨ret_int ?_, rfl⟩; unfold cmpI; (repeat' split) <;> first | rfl | omega)
theorem Or2_calls (g : Nat) (x y : Int) (w : World) (h0 : w.cell? ⟨g, 0, none⟩ = some (.int .i64 x)) (h1 : w.cell? ⟨g, 1, none⟩ = some (.int .i64 y)) :
    Calls Tryd.prog 56 #[.slice (some ⟨g, 0, none⟩) 2 2] w fun e w' => e = .returned (.int .i64 (orI x y)) ∧ w' = w := by
  have HX := Lib.hid h0; have HY := Lib.hid h1
  clear h0 h1
  go_enter Tryd.func56, Tryd.ntmps56
  go_wp2
  go_loopw [5, 8] (fun _ i wr => ∃ k : Nat, k ≤ 2 ∧ i = .int .i64 k ∧ wr = w ∧ (0 < k → x = 0) ∧ (1 < k → y = 0)) (fun _ i _ => 2 - (intOf i).toNat)
  case atStart => exact ⟨0, by omega, rfl, rfl, by omega, by omega⟩
  case round =>
    obtain ⟨k, hk, rfl, rfl, hx, hy⟩ := hrel
    rcases (show k = 0 ∨ k = 1 ∨ k = 2 by omega) with rfl | rfl | rfl
    · have c0 := HX.out
      by_cases hx0 : x = 0
      · go_wp2
        go_roundw
        case rel => exact ⟨1, by omega, rfl, by first | rfl | trivial, fun _ => hx0, by omega⟩
        case measure => simp [intOf]
      · go_wp2
        go_ret
        unfold orI; rw [if_neg hx0]; exact ⟨rfl, rfl⟩
    · have c0 := HY.out
      have hx0 := hx (by omega)
      by_cases hy0 : y = 0
      · go_wp2
        go_roundw
        case rel => exact ⟨2, by omega, rfl, by first | rfl | trivial, fun _ => hx0, fun _ => hy0⟩
        case measure => simp [intOf]
      · go_wp2
        go_ret
        unfold orI; rw [if_pos hx0]; exact ⟨rfl, rfl⟩
    · have hx0 := hx (by omega)
      have hy0 := hy (by omega)
      go_wp2
      go_ret
      unfold orI; rw [if_pos hx0, hy0]; exact ⟨rfl, rfl⟩
theorem cmpI_bd (a b : Int) : -1 ≤ cmpI a b ∧ cmpI a b ≤ 1 := by unfold cmpI; (repeat' split) <;> omega
theorem orI_bd {a b : Int} (h : -1 ≤ a ∧ a ≤ 1) (k : -1 ≤ b ∧ b ≤ 1) : -1 ≤ orI a b ∧ orI a b ≤ 1 := by unfold orI; split <;> omega
theorem cmpN_bd (a b : Nm) : -1 ≤ cmpN a b ∧ cmpN a b ≤ 1 := orI_bd (cmpI_bd _ _) (cmpI_bd _ _)
theorem cmpX_bd (a b : Xg) : -1 ≤ cmpX a b ∧ cmpX a b ≤ 1 := orI_bd (cmpN_bd _ _) (cmpN_bd _ _)
theorem Cmp8_x (a b : Int) (w : World) : Calls Tryd.prog 57 #[.int .u8 a, .int .u8 b] w fun e w' => e = .returned (.int .i64 (cmpI a b)) ∧ Ext w w' := (Cmp8_calls a b w).mono fun e w' h => ⟨h.1, h.2 ▸ Ext.refl _⟩
theorem Cmp_x (a b : Int) (w : World) : Calls Tryd.prog 58 #[.int .i64 a, .int .i64 b] w fun e w' => e = .returned (.int .i64 (cmpI a b)) ∧ Ext w w' := (Cmp_calls a b w).mono fun e w' h => ⟨h.1, h.2 ▸ Ext.refl _⟩
theorem Or2_x (g : Nat) (x y : Int) (t : TypeId) (w : World) (h : w.heap[g]? = some (.cells #[.int .i64 x, .int .i64 y] t (0, 0))) : Calls Tryd.prog 56 #[.slice (some ⟨g, 0, none⟩) 2 2] w fun e w' => e = .returned (.int .i64 (orI x y)) ∧ Ext w w' := (Or2_calls g x y w (by simp [World.cell?, h]) (by simp [World.cell?, h])).mono fun e w' h => ⟨h.1, h.2 ▸ Ext.refl _⟩
set_option maxHeartbeats 4000000 in
theorem Compare_calls (a b : Nm) (w : World) : Calls Tryd.prog 22 #[a.val, b.val] w fun e w' => e = .returned (.int .i64 (cmpN a b)) ∧ Ext w w' := by
  unfold Nm.val
  go_enter Tryd.func22, Tryd.ntmps22
  obtain ⟨w2, hw2⟩ : ∃ w2, w2 = (w.alloc (.cells #[.int .u8 a.y, .int .i64 a.n] 41)).alloc (.cells #[.int .u8 b.y, .int .i64 b.n] 41) := ⟨_, rfl⟩
  have hA : At2 w2 w.heap.size 0 a := by rw [hw2]; exact ((BN.new w a).ext ((Ext.refl _).alloc _)).at
  have hB : At2 w2 (w.heap.size + 1) 0 b := by rw [hw2]; have := (BN.new (w.alloc (.cells #[.int .u8 a.y, .int .i64 a.n] 41)) b).at; simpa using this
  have X := Lib.hid (show Ext w w2 by rw [hw2]; exact ((Ext.refl _).alloc _).alloc _)
  have HW := Lib.hid hw2
  obtain ⟨q0_1, q0_2⟩ := hA
  obtain ⟨q0_3, q0_4⟩ := hB
  simp only [Nat.zero_add] at q0_2 q0_4
  clear hw2
  go_wp2
  rw [← HW.out]
  go_region_held3 (fun w' => w'.cell? ⟨w.heap.size, 0, Option.none⟩ = some (.int .u8 a.y) ∧ w'.cell? ⟨w.heap.size, 1, Option.none⟩ = some (.int .i64 a.n) ∧ w'.cell? ⟨w.heap.size + 1, 0, Option.none⟩ = some (.int .u8 b.y) ∧ w'.cell? ⟨w.heap.size + 1, 1, Option.none⟩ = some (.int .i64 b.n)) (first | (with_reducible exact ⟨q0_1, q0_2, q0_3, q0_4⟩) | (with_reducible exact ⟨q1_1, q1_2, q1_3, q1_4⟩) | (with_reducible exact ⟨q2_1, q2_2, q2_3, q2_4⟩) | (with_reducible exact ⟨q3_1, q3_2, q3_3, q3_4⟩) | go_keep) (first
    | (go_at_call 57; (refine (Cmp8_x _ _ _).mono ?_); intro e w3 hh; obtain ⟨rfl, x⟩ := hh; have Xa : Hid (Ext w2 w3) := Lib.hid (Ext.trans (by ((repeat (first | (with_reducible exact Ext.refl _) | (with_reducible apply Ext.drew) | (with_reducible apply Ext.drewN) | (with_reducible apply Ext.alloc))); done)) x); have q1_1 := Xa.out.cell q0_1; have q1_2 := Xa.out.cell q0_2; have q1_3 := Xa.out.cell q0_3; have q1_4 := Xa.out.cell q0_4; clear x)
    | (go_at_call 58; (refine (Cmp_x _ _ _).mono ?_); intro e w4 hh; obtain ⟨rfl, x⟩ := hh; have Xb : Hid (Ext w2 w4) := Lib.hid (Ext.trans Xa.out (Ext.trans (by ((repeat (first | (with_reducible exact Ext.refl _) | (with_reducible apply Ext.drew) | (with_reducible apply Ext.drewN) | (with_reducible apply Ext.alloc))); done)) x)); have q2_1 := Xb.out.cell q0_1; have q2_2 := Xb.out.cell q0_2; have q2_3 := Xb.out.cell q0_3; have q2_4 := Xb.out.cell q0_4; clear x)
    | (go_at_call 56; (refine (Or2_x _ _ _ _ _ (Deep.blk_alloc_new _ _)).mono ?_); intro e w5 hh; obtain ⟨rfl, x⟩ := hh; have Xc : Hid (Ext w2 w5) := Lib.hid (Ext.trans Xb.out (Ext.trans (by ((repeat (first | (with_reducible exact Ext.refl _) | (with_reducible apply Ext.drew) | (with_reducible apply Ext.drewN) | (with_reducible apply Ext.alloc))); done)) x)); have q3_1 := Xc.out.cell q0_1; have q3_2 := Xc.out.cell q0_2; have q3_3 := Xc.out.cell q0_3; have q3_4 := Xc.out.cell q0_4; clear x))
  all_goals (try go_wp2)
  all_goals (go_ret; exact ⟨rfl, X.out.trans Xc.out⟩)
set_option maxHeartbeats 4000000 in
theorem Pairs_calls (a b : Xg) (w : World) : Calls Tryd.prog 51 #[a.val, b.val] w fun e w' => e = .returned (.int .i64 (cmpX a b)) ∧ Ext w w' := by
  unfold Xg.val
  go_enter Tryd.func51, Tryd.ntmps51
  obtain ⟨w2, hw2⟩ : ∃ w2, w2 = (w.alloc (.cells #[.int .u8 a.a.y, .int .i64 a.a.n, .int .u8 a.b.y, .int .i64 a.b.n, .int .i64 a.n] 52)).alloc (.cells #[.int .u8 b.a.y, .int .i64 b.a.n, .int .u8 b.b.y, .int .i64 b.b.n, .int .i64 b.n] 52) := ⟨_, rfl⟩
  have hA : At5 w2 w.heap.size 0 a := by rw [hw2]; exact ((B5.new w a _).ext ((Ext.refl _).alloc _)).at
  have hB : At5 w2 (w.heap.size + 1) 0 b := by rw [hw2]; have := (B5.new (w.alloc (.cells #[.int .u8 a.a.y, .int .i64 a.a.n, .int .u8 a.b.y, .int .i64 a.b.n, .int .i64 a.n] 52)) b 52).at; simpa using this
  have X := Lib.hid (show Ext w w2 by rw [hw2]; exact ((Ext.refl _).alloc _).alloc _)
  have HW := Lib.hid hw2
  obtain ⟨q0_1, q0_2, q0_3, q0_4, _⟩ := hA
  obtain ⟨q0_5, q0_6, q0_7, q0_8, _⟩ := hB
  simp only [Nat.zero_add] at q0_2 q0_3 q0_4 q0_6 q0_7 q0_8
  clear hw2
  go_wp2
  rw [← HW.out]
  go_region_held3 (fun w' => w'.cell? ⟨w.heap.size, 0, Option.none⟩ = some (.int .u8 a.a.y) ∧ w'.cell? ⟨w.heap.size, 1, Option.none⟩ = some (.int .i64 a.a.n) ∧ w'.cell? ⟨w.heap.size, 2, Option.none⟩ = some (.int .u8 a.b.y) ∧ w'.cell? ⟨w.heap.size, 3, Option.none⟩ = some (.int .i64 a.b.n) ∧ w'.cell? ⟨w.heap.size + 1, 0, Option.none⟩ = some (.int .u8 b.a.y) ∧ w'.cell? ⟨w.heap.size + 1, 1, Option.none⟩ = some (.int .i64 b.a.n) ∧ w'.cell? ⟨w.heap.size + 1, 2, Option.none⟩ = some (.int .u8 b.b.y) ∧ w'.cell? ⟨w.heap.size + 1, 3, Option.none⟩ = some (.int .i64 b.b.n)) (first | (with_reducible exact ⟨q0_1, q0_2, q0_3, q0_4, q0_5, q0_6, q0_7, q0_8⟩) | (with_reducible exact ⟨q1_1, q1_2, q1_3, q1_4, q1_5, q1_6, q1_7, q1_8⟩) | (with_reducible exact ⟨q2_1, q2_2, q2_3, q2_4, q2_5, q2_6, q2_7, q2_8⟩) | (with_reducible exact ⟨q3_1, q3_2, q3_3, q3_4, q3_5, q3_6, q3_7, q3_8⟩) | go_keep) (first
    | (go_at_call_of 22 (Value.agg #[.int .u8 a.a.y, .int .i64 a.a.n]); (refine (Compare_calls a.a b.a _).mono ?_); intro e w3 hh; obtain ⟨rfl, x⟩ := hh; have Xa : Hid (Ext w2 w3) := Lib.hid (Ext.trans (by ((repeat (first | (with_reducible exact Ext.refl _) | (with_reducible apply Ext.drew) | (with_reducible apply Ext.drewN) | (with_reducible apply Ext.alloc))); done)) x); have q1_1 := Xa.out.cell q0_1; have q1_2 := Xa.out.cell q0_2; have q1_3 := Xa.out.cell q0_3; have q1_4 := Xa.out.cell q0_4; have q1_5 := Xa.out.cell q0_5; have q1_6 := Xa.out.cell q0_6; have q1_7 := Xa.out.cell q0_7; have q1_8 := Xa.out.cell q0_8; clear x)
    | (go_at_call_of 22 (Value.agg #[.int .u8 a.b.y, .int .i64 a.b.n]); (refine (Compare_calls a.b b.b _).mono ?_); intro e w4 hh; obtain ⟨rfl, x⟩ := hh; have Xb : Hid (Ext w2 w4) := Lib.hid (Ext.trans Xa.out (Ext.trans (by ((repeat (first | (with_reducible exact Ext.refl _) | (with_reducible apply Ext.drew) | (with_reducible apply Ext.drewN) | (with_reducible apply Ext.alloc))); done)) x)); have q2_1 := Xb.out.cell q0_1; have q2_2 := Xb.out.cell q0_2; have q2_3 := Xb.out.cell q0_3; have q2_4 := Xb.out.cell q0_4; have q2_5 := Xb.out.cell q0_5; have q2_6 := Xb.out.cell q0_6; have q2_7 := Xb.out.cell q0_7; have q2_8 := Xb.out.cell q0_8; clear x)
    | (go_at_call 56; (refine (Or2_x _ _ _ _ _ (Deep.blk_alloc_new _ _)).mono ?_); intro e w5 hh; obtain ⟨rfl, x⟩ := hh; have Xc : Hid (Ext w2 w5) := Lib.hid (Ext.trans Xb.out (Ext.trans (by ((repeat (first | (with_reducible exact Ext.refl _) | (with_reducible apply Ext.drew) | (with_reducible apply Ext.drewN) | (with_reducible apply Ext.alloc))); done)) x)); have q3_1 := Xc.out.cell q0_1; have q3_2 := Xc.out.cell q0_2; have q3_3 := Xc.out.cell q0_3; have q3_4 := Xc.out.cell q0_4; have q3_5 := Xc.out.cell q0_5; have q3_6 := Xc.out.cell q0_6; have q3_7 := Xc.out.cell q0_7; have q3_8 := Xc.out.cell q0_8; clear x))
  all_goals (try go_wp2)
  all_goals (go_ret; exact ⟨rfl, X.out.trans Xc.out⟩)
end Go.Proofs.YtlhkehfplcclgaaDoor
