/- has, of both packages; pair. -/
import Derived.Test.YtlhkehfplcclgaaDoorVb
namespace Go.Proofs.YtlhkehfplcclgaaDoor
set_option linter.unusedVariables false
set_option linter.unusedSimpArgs false
set_option maxRecDepth 8000
open Go Go.RowKit

def hasB (t : Tab) (a : Nm) : Bool := decide (1 ≤ a.y) && (decide (a.y ≤ (t.length : Int)) && (decide (0 ≤ a.n) && decide (a.n < ((yi t (a.y - 1).toNat).length : Int))))
set_option maxHeartbeats 4000000 in
theorem Has_calls (tv : Value) (c : Nat) (t : Tab) (a : Nm) (w : World) (h : TB w tv c t) (ha : a.In) : Calls Tryd.prog 48 #[tv, a.val] w fun e w' => e = .returned (.bool (hasB t a)) ∧ Ext w w' := by
  obtain ⟨ao, N, rfl, hN, hNc, hc9, hat⟩ := h.open
  obtain ⟨y, n⟩ := a
  obtain ⟨⟨y0, y1⟩, n0, n1⟩ := ha
  dsimp only at y0 y1 n0 n1
  unfold hasB Nm.val
  dsimp only
  rw [← hN]
  obtain ⟨w2, hw2⟩ : ∃ w2, w2 = w.alloc (.cells #[.int .u8 y, .int .i64 n] 41) := ⟨_, rfl⟩
  have X := Lib.hid (show Ext w w2 by rw [hw2]; exact (Ext.refl _).alloc _)
  have hA : At2 w2 w.heap.size 0 ⟨y, n⟩ := by rw [hw2]; exact (BN.new w ⟨y, n⟩).at
  obtain ⟨q1, q2⟩ := hA
  simp only [Nat.zero_add] at q2
  have HW := Lib.hid hw2
  have Hat := Lib.hid hat
  clear hw2 hat hN h
  have k0 : IntKind.i64.wrap y = y := IntWalk.i64_in _ ⟨by omega, by omega⟩
  go_enter Tryd.func48, Tryd.ntmps48
  by_cases h1 : 1 ≤ y
  · obtain ⟨k, rfl⟩ : ∃ k : Nat, y = (k : Int) + 1 := ⟨(y - 1).toNat, by omega⟩
    have hk : ((k : Int) + 1 - 1).toNat = k := by omega
    rw [hk]
    by_cases h2 : (k : Int) + 1 ≤ N
    · obtain ⟨b, o, av, m, d, rfl, hc, hm, _⟩ := Hat.out k (by omega)
      rw [← hm]
      have hcx := X.out.cell hc
      have g1 : IntKind.u8.wrap ((k : Int) + 1 - 1) = k := by rw [show (k : Int) + 1 - 1 = k by omega]; exact (IntWalk.u8_in _ ⟨by omega, by omega⟩)
      have g2 : IntKind.u8.wrap (k : Int) = k := IntWalk.u8_in _ ⟨by omega, by omega⟩
      have g3 : (0 : Int) ≤ k := by omega
      have g4 : (k : Int) < N := by omega
      clear hc hm
      by_cases h3 : 0 ≤ n
      · by_cases h4 : n < m
        · go_wp2
          rw [← HW.out]
          go_quiet (fail)
          go_wp2
          go_ret
          exact ⟨ret_bool (by rw [decide_eq_true (show (1 : Int) ≤ (k : Int) + 1 by omega), decide_eq_true h2, decide_eq_true h3, decide_eq_true h4]; rfl), X.out.trans (by (focus (repeat (first | (with_reducible exact Ext.refl _) | (with_reducible apply Ext.drew) | (with_reducible apply Ext.drewN) | (with_reducible apply Ext.alloc)))))⟩
        · have e4 : decide (n < (m : Int)) = false := decide_eq_false h4
          go_wp2
          rw [← HW.out]
          go_quiet (fail)
          go_wp2
          go_ret
          exact ⟨ret_bool (by simp; intros; omega), X.out.trans (by (focus (repeat (first | (with_reducible exact Ext.refl _) | (with_reducible apply Ext.drew) | (with_reducible apply Ext.drewN) | (with_reducible apply Ext.alloc)))))⟩
      · have e3 : decide (0 ≤ n) = false := decide_eq_false h3
        go_wp2
        rw [← HW.out]
        go_quiet (fail)
        go_wp2
        go_ret
        exact ⟨ret_bool (by simp; intros; omega), X.out.trans (by (focus (repeat (first | (with_reducible exact Ext.refl _) | (with_reducible apply Ext.drew) | (with_reducible apply Ext.drewN) | (with_reducible apply Ext.alloc)))))⟩
    · have e2 : decide ((k : Int) + 1 ≤ N) = false := decide_eq_false h2
      go_wp2
      rw [← HW.out]
      go_quiet (fail)
      go_wp2
      go_ret
      exact ⟨ret_bool (by simp; intros; omega), X.out.trans (by (focus (repeat (first | (with_reducible exact Ext.refl _) | (with_reducible apply Ext.drew) | (with_reducible apply Ext.drewN) | (with_reducible apply Ext.alloc)))))⟩
  · have e1 : decide (1 ≤ y) = false := decide_eq_false h1
    go_wp2
    rw [← HW.out]
    go_quiet (fail)
    go_wp2
    go_ret
    exact ⟨ret_bool (by simp; intros; omega), X.out.trans (by (focus (repeat (first | (with_reducible exact Ext.refl _) | (with_reducible apply Ext.drew) | (with_reducible apply Ext.drewN) | (with_reducible apply Ext.alloc)))))⟩
set_option maxHeartbeats 4000000 in
theorem LHas_calls (tv : Value) (c : Nat) (t : Tab) (a : Nm) (w : World) (h : TB w tv c t) (ha : a.In) : Calls Tryd.prog 89 #[tv, a.val] w fun e w' => e = .returned (.bool (hasB t a)) ∧ Ext w w' := by
  obtain ⟨ao, N, rfl, hN, hNc, hc9, hat⟩ := h.open
  obtain ⟨y, n⟩ := a
  obtain ⟨⟨y0, y1⟩, n0, n1⟩ := ha
  dsimp only at y0 y1 n0 n1
  unfold hasB Nm.val
  dsimp only
  rw [← hN]
  obtain ⟨w2, hw2⟩ : ∃ w2, w2 = w.alloc (.cells #[.int .u8 y, .int .i64 n] 41) := ⟨_, rfl⟩
  have X := Lib.hid (show Ext w w2 by rw [hw2]; exact (Ext.refl _).alloc _)
  have hA : At2 w2 w.heap.size 0 ⟨y, n⟩ := by rw [hw2]; exact (BN.new w ⟨y, n⟩).at
  obtain ⟨q1, q2⟩ := hA
  simp only [Nat.zero_add] at q2
  have HW := Lib.hid hw2
  have Hat := Lib.hid hat
  clear hw2 hat hN h
  have k0 : IntKind.i64.wrap y = y := IntWalk.i64_in _ ⟨by omega, by omega⟩
  go_enter Tryd.func89, Tryd.ntmps89
  by_cases h1 : 1 ≤ y
  · obtain ⟨k, rfl⟩ : ∃ k : Nat, y = (k : Int) + 1 := ⟨(y - 1).toNat, by omega⟩
    have hk : ((k : Int) + 1 - 1).toNat = k := by omega
    rw [hk]
    by_cases h2 : (k : Int) + 1 ≤ N
    · obtain ⟨b, o, av, m, d, rfl, hc, hm, _⟩ := Hat.out k (by omega)
      rw [← hm]
      have hcx := X.out.cell hc
      have g1 : IntKind.u8.wrap ((k : Int) + 1 - 1) = k := by rw [show (k : Int) + 1 - 1 = k by omega]; exact (IntWalk.u8_in _ ⟨by omega, by omega⟩)
      have g2 : IntKind.u8.wrap (k : Int) = k := IntWalk.u8_in _ ⟨by omega, by omega⟩
      have g3 : (0 : Int) ≤ k := by omega
      have g4 : (k : Int) < N := by omega
      clear hc hm
      by_cases h3 : 0 ≤ n
      · by_cases h4 : n < m
        · go_wp2
          rw [← HW.out]
          go_quiet (fail)
          go_wp2
          go_ret
          exact ⟨ret_bool (by rw [decide_eq_true (show (1 : Int) ≤ (k : Int) + 1 by omega), decide_eq_true h2, decide_eq_true h3, decide_eq_true h4]; rfl), X.out.trans (by (focus (repeat (first | (with_reducible exact Ext.refl _) | (with_reducible apply Ext.drew) | (with_reducible apply Ext.drewN) | (with_reducible apply Ext.alloc)))))⟩
        · have e4 : decide (n < (m : Int)) = false := decide_eq_false h4
          go_wp2
          rw [← HW.out]
          go_quiet (fail)
          go_wp2
          go_ret
          exact ⟨ret_bool (by simp; intros; omega), X.out.trans (by (focus (repeat (first | (with_reducible exact Ext.refl _) | (with_reducible apply Ext.drew) | (with_reducible apply Ext.drewN) | (with_reducible apply Ext.alloc)))))⟩
      · have e3 : decide (0 ≤ n) = false := decide_eq_false h3
        go_wp2
        rw [← HW.out]
        go_quiet (fail)
        go_wp2
        go_ret
        exact ⟨ret_bool (by simp; intros; omega), X.out.trans (by (focus (repeat (first | (with_reducible exact Ext.refl _) | (with_reducible apply Ext.drew) | (with_reducible apply Ext.drewN) | (with_reducible apply Ext.alloc)))))⟩
    · have e2 : decide ((k : Int) + 1 ≤ N) = false := decide_eq_false h2
      go_wp2
      rw [← HW.out]
      go_quiet (fail)
      go_wp2
      go_ret
      exact ⟨ret_bool (by simp; intros; omega), X.out.trans (by (focus (repeat (first | (with_reducible exact Ext.refl _) | (with_reducible apply Ext.drew) | (with_reducible apply Ext.drewN) | (with_reducible apply Ext.alloc)))))⟩
  · have e1 : decide (1 ≤ y) = false := decide_eq_false h1
    go_wp2
    rw [← HW.out]
    go_quiet (fail)
    go_wp2
    go_ret
    exact ⟨ret_bool (by simp; intros; omega), X.out.trans (by (focus (repeat (first | (with_reducible exact Ext.refl _) | (with_reducible apply Ext.drew) | (with_reducible apply Ext.drewN) | (with_reducible apply Ext.alloc)))))⟩
/-- The crossing of two loops, with the sum 0. -/
def pairX (a b : Nm) : Xg := if 0 < cmpN a b then ⟨b, a, 0⟩ else ⟨a, b, 0⟩
set_option maxHeartbeats 4000000 in
theorem Pair_calls (a b : Nm) (w : World) : Calls Tryd.prog 49 #[a.val, b.val] w fun e w' => e = .returned (pairX a b).val ∧ Ext w w' := by
  unfold Nm.val
  obtain ⟨P, hP⟩ : ∃ P, P = pairX a b := ⟨_, rfl⟩
  rw [← hP]
  have HP := Lib.hid hP
  clear hP
  go_enter Tryd.func49, Tryd.ntmps49
  obtain ⟨W, hW⟩ : ∃ W, W = ((w.alloc (.cells #[.int .u8 a.y, .int .i64 a.n] 41)).alloc (.cells #[.int .u8 b.y, .int .i64 b.n] 41)).alloc (.cells #[.int .u8 0, .int .i64 0, .int .u8 0, .int .i64 0, .int .i64 0] 52) := ⟨_, rfl⟩
  have hA : BN W w.heap.size a := by rw [hW]; exact (BN.new w a).ext (((Ext.refl _).alloc _).alloc _)
  have hB : BN W (w.heap.size + 1) b := by rw [hW]; have := (BN.new (w.alloc (.cells #[.int .u8 a.y, .int .i64 a.n] 41)) b).ext ((Ext.refl _).alloc (.cells #[.int .u8 0, .int .i64 0, .int .u8 0, .int .i64 0, .int .i64 0] 52)); simpa using this
  have hC : B5 W (w.heap.size + 1 + 1) Xg.zero 52 := by rw [hW]; have := B5.new ((w.alloc (.cells #[.int .u8 a.y, .int .i64 a.n] 41)).alloc (.cells #[.int .u8 b.y, .int .i64 b.n] 41)) Xg.zero 52; simpa [Xg.zero, Nm.zero] using this
  have X := Lib.hid (show Ext w W by rw [hW]; exact (((Ext.refl _).alloc _).alloc _).alloc _)
  have HA := Lib.hid hA; have HB := Lib.hid hB; have HC := Lib.hid hC; have HW := Lib.hid hW
  clear hA hB hC hW
  go_wp2_with fail
  rw [← HW.out]
  refine (Compare_calls a b W).mono ?_
  rintro e w3 ⟨rfl, x⟩
  have X3 := Lib.hid (X.out.trans x)
  have bA := HA.out.ext x; have bB := HB.out.ext x; have bC := HC.out.ext x
  have hs := x.size
  have hs0 : W.heap.size = w.heap.size + 1 + 1 + 1 := by rw [HW.out]; simp
  have l0 : w.heap.size < w3.heap.size := by omega
  have l1 : w.heap.size + 1 < w3.heap.size := by omega
  have l2 : w.heap.size + 1 + 1 < w3.heap.size := by omega
  obtain ⟨a0, a1⟩ := bA.at; obtain ⟨b0, b1⟩ := bB.at; obtain ⟨c0, c1, c2, c3, c4⟩ := bC.at
  simp only [Nat.zero_add] at a1 b1 c1 c2 c3 c4
  have fa : ∀ o, w3.frozen? ⟨w.heap.size, o, none⟩ = false := fun o => by unfold BN at bA; simp [World.frozen?, bA]
  have fb : ∀ o, w3.frozen? ⟨w.heap.size + 1, o, none⟩ = false := fun o => by unfold BN at bB; simp [World.frozen?, bB]
  have fc : ∀ o, w3.frozen? ⟨w.heap.size + 1 + 1, o, none⟩ = false := fun o => by unfold B5 at bC; simp [World.frozen?, bC]
  clear x hs hs0 bA bB bC
  by_cases hp : 0 < cmpN a b
  · have hpx : P = ⟨b, a, 0⟩ := by rw [HP.out]; exact if_pos hp
    clear HP
    subst hpx
    generalize cmpN a b = C at hp ⊢
    go_wp2
    refine bodyPost_ret (v := .agg #[.int .u8 b.y, .int .i64 b.n, .int .u8 a.y, .int .i64 a.n, .int .i64 0]) (by simp [results, Tryd.results49, go_sem, a0, a1, b0, b1, c0, c1, c2, c3, c4, fa, fb, fc, l0, l1, l2]) rfl ⟨rfl, ?_⟩
    repeat' apply Ext.setCell
    all_goals first | exact X3.out | (dsimp only; omega)
  · have hpx : P = ⟨a, b, 0⟩ := by rw [HP.out]; exact if_neg hp
    clear HP
    subst hpx
    generalize cmpN a b = C at hp ⊢
    go_wp2
    refine bodyPost_ret (v := .agg #[.int .u8 a.y, .int .i64 a.n, .int .u8 b.y, .int .i64 b.n, .int .i64 0]) (by simp [results, Tryd.results49, go_sem, a0, a1, b0, b1, c0, c1, c2, c3, c4, fa, fb, fc, l0, l1, l2]) rfl ⟨rfl, ?_⟩
    repeat' apply Ext.setCell
    all_goals first | exact X3.out | (dsimp only; omega)
end Go.Proofs.YtlhkehfplcclgaaDoor
