/- The law NeedlesOrder: its walk. -/
import Derived.Test.YthjihkclccpnhaaDoorNg
import Derived.Deep.RegionHeld3
import Derived.Outline
namespace Go.Proofs.YthjihkclccpnhaaDoor
set_option linter.unusedVariables false
set_option linter.unusedSimpArgs false
open Go Go.RowKit

theorem order_law {b a d c r : Int} (h1 : 0 ≤ b) (h2 : b ≤ 1) (h3 : 0 ≤ d) (h4 : d ≤ 1) :
    (nspot b a r < nspot d c r) ↔ ((a + (if b = 1 then r else 0) < c + (if d = 1 then r else 0)) ∨ (a + (if b = 1 then r else 0) = c + (if d = 1 then r else 0) ∧ d < b)) := by
  unfold nspot
  split <;> split <;> omega

theorem needle_val (i b a : Int) (w : World) (h1 : 0 ≤ i) (h2 : i ≤ 255) (hb : b = i % 80 / 40) (ha : a = 1 + i % 40) :
    Calls Tryd.prog 15 #[.int .u8 i] w fun e w' => e = .returned (.agg #[.int .u8 b, .int .i64 a]) ∧ Ext w w' := by
  rw [hb, ha]; exact needle_calls i w h1 h2

set_option maxHeartbeats 2000000 in
theorem Order_00 (i j k a c : Int) (w : World) (i1 : 0 ≤ i) (i2 : i ≤ 255) (j1 : 0 ≤ j) (j2 : j ≤ 255) (k1 : 0 ≤ k) (k2 : k ≤ 255) (hb : 0 = i % 80 / 40) (ha : a = 1 + i % 40) (hd : 0 = j % 80 / 40) (hc : c = 1 + j % 40) :
    Calls Tryd.prog 8 #[.int .u8 i, .int .u8 j, .int .u8 k] w fun e w' => e = .returned (.bool true) ∧ Ext w w' := by
  obtain ⟨r, hr⟩ : ∃ r, r = k % 9 - 4 := ⟨_, rfl⟩
  have a1 : 1 ≤ a := by omega
  have a2 : a ≤ 40 := by omega
  have c1 : 1 ≤ c := by omega
  have c2 : c ≤ 40 := by omega
  have r1 : -4 ≤ r := by omega
  have r2 : r ≤ 4 := by omega
  have HN1 : Hid (∀ w, Calls Tryd.prog 15 #[.int .u8 i] w fun e w' => e = .returned (.agg #[.int .u8 0, .int .i64 a]) ∧ Ext w w') := fun w => needle_val i 0 a w i1 i2 hb ha
  have HN2 : Hid (∀ w, Calls Tryd.prog 15 #[.int .u8 j] w fun e w' => e = .returned (.agg #[.int .u8 0, .int .i64 c]) ∧ Ext w w') := fun w => needle_val j 0 c w j1 j2 hd hc
  have s1 := nspotF_ok (b := 0) (a := a) (r := r) ⟨by omega, a1, a2, r1, r2⟩
  have s2 := nspotF_ok (b := 0) (a := c) (r := r) ⟨by omega, c1, c2, r1, r2⟩
  have hl := order_law (b := 0) (a := a) (d := 0) (c := c) (r := r) (by omega) (by omega) (by omega) (by omega)
  obtain ⟨S1, hS1⟩ : ∃ S, S = nspot 0 a r := ⟨_, rfl⟩
  obtain ⟨S2, hS2⟩ : ∃ S, S = nspot 0 c r := ⟨_, rfl⟩
  rw [← hS1] at s1 hl
  rw [← hS2] at s2 hl
  have Hs1 : Hid (∀ w, Calls Tryd.prog 11 #[.agg #[.int .u8 0, .int .i64 a], .int .i64 r] w fun e w' => e = .returned (.int .i64 S1) ∧ Ext w w') := fun w => Spot_val 0 a r S1 w (by omega) (by omega) s1
  have Hs2 : Hid (∀ w, Calls Tryd.prog 11 #[.agg #[.int .u8 0, .int .i64 c], .int .i64 r] w fun e w' => e = .returned (.int .i64 S2) ∧ Ext w w') := fun w => Spot_val 0 c r S2 w (by omega) (by omega) s2
  have Hl := Lib.hid hl; have Hr := Lib.hid hr.symm
  clear hb ha hd hc s1 s2 hl hS1 hS2 hr
  go_enter Tryd.func8, Tryd.ntmps8
  go_wp2_with fail
  rw [Hr.out]
  refine (HN1.out _).mono ?_
  rintro e w1 ⟨rfl, x1⟩
  go_wp2_with fail
  refine (HN2.out _).mono ?_
  rintro e w2 ⟨rfl, x2⟩
  have X2 := Lib.hid (((x1.trans x2).alloc (.cells #[.int .u8 0, .int .i64 a] 24)).alloc (.cells #[.int .u8 0, .int .i64 c] 24))
  clear x1 x2
  go_wp2_with fail
  have hA := (B2.new w2 (.int .u8 0) (.int .i64 a) 24).alloc (.cells #[.int .u8 0, .int .i64 c] 24)
  have hB : B2 ((w2.alloc (.cells #[.int .u8 0, .int .i64 a] 24)).alloc (.cells #[.int .u8 0, .int .i64 c] 24)) (w2.heap.size + 1) (.int .u8 0) (.int .i64 c) 24 := by simpa using B2.new (w2.alloc (.cells #[.int .u8 0, .int .i64 a] 24)) (.int .u8 0) (.int .i64 c) 24
  obtain ⟨w3, hw3⟩ : ∃ w3, w3 = ((w2.alloc (.cells #[.int .u8 0, .int .i64 a] 24)).alloc (.cells #[.int .u8 0, .int .i64 c] 24)) := ⟨_, rfl⟩
  rw [← hw3] at hA hB X2 ⊢
  clear hw3
  have e0 := hA.c0; have e1 := hA.c1; have g0 := hB.c0; have g1 := hB.c1
  have HA := Lib.hid hA; have HB := Lib.hid hB
  clear hA hB
  go_quiet (fail)
  rcases (show a + 0 < c + 0 ∨ a + 0 = c + 0 ∨ c + 0 < a + 0 by omega) with hlt | heq | hgt
  · skip
    skip
    have hS : decide (S1 < S2) = true := by have := Hl.out; simp at this; simp; omega
    go_wp2
    go_region_held3 (fun w' => w'.cell? ⟨w2.heap.size, 0, none⟩ = some (.int .u8 0) ∧ w'.cell? ⟨w2.heap.size, 1, none⟩ = some (.int .i64 a) ∧ w'.cell? ⟨w2.heap.size + 1, 0, none⟩ = some (.int .u8 0) ∧ w'.cell? ⟨w2.heap.size + 1, 1, none⟩ = some (.int .i64 c)) (first | exact ⟨e0, e1, g0, g1⟩ | exact ⟨q0, q1, q2, q3⟩ | exact ⟨p0, p1, p2, p3⟩ | exact ⟨t0, t1, t2, t3⟩ | go_keep) (first
      | (go_at_call_of 11 a; refine (Hs1.out _).mono ?_; rintro e w4 ⟨rfl, x4⟩; have X4 := Lib.hid (((Ext.refl w3).drewN _).trans x4); have q0 := X4.out.cell e0; have q1 := X4.out.cell e1; have q2 := X4.out.cell g0; have q3 := X4.out.cell g1; clear x4)
      | (go_at_call_of 11 c; refine (Hs2.out _).mono ?_; rintro e w5 ⟨rfl, x5⟩; have X5 := Lib.hid (X4.out.trans x5); have p0 := X5.out.cell e0; have p1 := X5.out.cell e1; have p2 := X5.out.cell g0; have p3 := X5.out.cell g1; clear x5)
      | (go_at_call 12; refine (lives_calls _).mono ?_; rintro e w6 ⟨rfl, x6⟩; have X6 := Lib.hid (X5.out.trans x6); have t0 := X6.out.cell e0; have t1 := X6.out.cell e1; have t2 := X6.out.cell g0; have t3 := X6.out.cell g1; clear x6))
    go_wp2
    go_ret
    exact ⟨rfl, X2.out.trans X6.out⟩
  · have heq' : (a == c) = true := by rw [beq_iff_eq]; omega
    have heq'' : (a == c) = true := by rw [beq_iff_eq]; omega
    have hd' : decide (a < c) = false := by simp; omega
    have Heq := Lib.hid heq
    clear heq
    have hS : decide (S1 < S2) = false := by have hA := Hl.out; have hB := Heq.out; simp at hA hB ⊢; omega
    go_wp2
    go_region_held3 (fun w' => w'.cell? ⟨w2.heap.size, 0, none⟩ = some (.int .u8 0) ∧ w'.cell? ⟨w2.heap.size, 1, none⟩ = some (.int .i64 a) ∧ w'.cell? ⟨w2.heap.size + 1, 0, none⟩ = some (.int .u8 0) ∧ w'.cell? ⟨w2.heap.size + 1, 1, none⟩ = some (.int .i64 c)) (first | exact ⟨e0, e1, g0, g1⟩ | exact ⟨q0, q1, q2, q3⟩ | exact ⟨p0, p1, p2, p3⟩ | exact ⟨t0, t1, t2, t3⟩ | go_keep) (first
      | (go_at_call_of 11 a; refine (Hs1.out _).mono ?_; rintro e w4 ⟨rfl, x4⟩; have X4 := Lib.hid (((Ext.refl w3).drewN _).trans x4); have q0 := X4.out.cell e0; have q1 := X4.out.cell e1; have q2 := X4.out.cell g0; have q3 := X4.out.cell g1; clear x4)
      | (go_at_call_of 11 c; refine (Hs2.out _).mono ?_; rintro e w5 ⟨rfl, x5⟩; have X5 := Lib.hid (X4.out.trans x5); have p0 := X5.out.cell e0; have p1 := X5.out.cell e1; have p2 := X5.out.cell g0; have p3 := X5.out.cell g1; clear x5)
      | (go_at_call 12; refine (lives_calls _).mono ?_; rintro e w6 ⟨rfl, x6⟩; have X6 := Lib.hid (X5.out.trans x6); have t0 := X6.out.cell e0; have t1 := X6.out.cell e1; have t2 := X6.out.cell g0; have t3 := X6.out.cell g1; clear x6))
    go_wp2
    go_ret
    exact ⟨rfl, X2.out.trans X6.out⟩
  · have hne' : (a == c) = false := by rw [beq_eq_false_iff_ne]; omega
    have hne'' : (a == c) = false := by rw [beq_eq_false_iff_ne]; omega
    have hd' : decide (a < c) = false := by simp; omega
    skip
    have hS : decide (S1 < S2) = false := by have := Hl.out; simp at this ⊢; omega
    go_wp2
    go_region_held3 (fun w' => w'.cell? ⟨w2.heap.size, 0, none⟩ = some (.int .u8 0) ∧ w'.cell? ⟨w2.heap.size, 1, none⟩ = some (.int .i64 a) ∧ w'.cell? ⟨w2.heap.size + 1, 0, none⟩ = some (.int .u8 0) ∧ w'.cell? ⟨w2.heap.size + 1, 1, none⟩ = some (.int .i64 c)) (first | exact ⟨e0, e1, g0, g1⟩ | exact ⟨q0, q1, q2, q3⟩ | exact ⟨p0, p1, p2, p3⟩ | exact ⟨t0, t1, t2, t3⟩ | go_keep) (first
      | (go_at_call_of 11 a; refine (Hs1.out _).mono ?_; rintro e w4 ⟨rfl, x4⟩; have X4 := Lib.hid (((Ext.refl w3).drewN _).trans x4); have q0 := X4.out.cell e0; have q1 := X4.out.cell e1; have q2 := X4.out.cell g0; have q3 := X4.out.cell g1; clear x4)
      | (go_at_call_of 11 c; refine (Hs2.out _).mono ?_; rintro e w5 ⟨rfl, x5⟩; have X5 := Lib.hid (X4.out.trans x5); have p0 := X5.out.cell e0; have p1 := X5.out.cell e1; have p2 := X5.out.cell g0; have p3 := X5.out.cell g1; clear x5)
      | (go_at_call 12; refine (lives_calls _).mono ?_; rintro e w6 ⟨rfl, x6⟩; have X6 := Lib.hid (X5.out.trans x6); have t0 := X6.out.cell e0; have t1 := X6.out.cell e1; have t2 := X6.out.cell g0; have t3 := X6.out.cell g1; clear x6))
    go_wp2
    go_ret
    exact ⟨rfl, X2.out.trans X6.out⟩
set_option maxHeartbeats 2000000 in
theorem Order_01 (i j k a c : Int) (w : World) (i1 : 0 ≤ i) (i2 : i ≤ 255) (j1 : 0 ≤ j) (j2 : j ≤ 255) (k1 : 0 ≤ k) (k2 : k ≤ 255) (hb : 0 = i % 80 / 40) (ha : a = 1 + i % 40) (hd : 1 = j % 80 / 40) (hc : c = 1 + j % 40) :
    Calls Tryd.prog 8 #[.int .u8 i, .int .u8 j, .int .u8 k] w fun e w' => e = .returned (.bool true) ∧ Ext w w' := by
  obtain ⟨r, hr⟩ : ∃ r, r = k % 9 - 4 := ⟨_, rfl⟩
  have a1 : 1 ≤ a := by omega
  have a2 : a ≤ 40 := by omega
  have c1 : 1 ≤ c := by omega
  have c2 : c ≤ 40 := by omega
  have r1 : -4 ≤ r := by omega
  have r2 : r ≤ 4 := by omega
  have HN1 : Hid (∀ w, Calls Tryd.prog 15 #[.int .u8 i] w fun e w' => e = .returned (.agg #[.int .u8 0, .int .i64 a]) ∧ Ext w w') := fun w => needle_val i 0 a w i1 i2 hb ha
  have HN2 : Hid (∀ w, Calls Tryd.prog 15 #[.int .u8 j] w fun e w' => e = .returned (.agg #[.int .u8 1, .int .i64 c]) ∧ Ext w w') := fun w => needle_val j 1 c w j1 j2 hd hc
  have s1 := nspotF_ok (b := 0) (a := a) (r := r) ⟨by omega, a1, a2, r1, r2⟩
  have s2 := nspotF_ok (b := 1) (a := c) (r := r) ⟨by omega, c1, c2, r1, r2⟩
  have hl := order_law (b := 0) (a := a) (d := 1) (c := c) (r := r) (by omega) (by omega) (by omega) (by omega)
  obtain ⟨S1, hS1⟩ : ∃ S, S = nspot 0 a r := ⟨_, rfl⟩
  obtain ⟨S2, hS2⟩ : ∃ S, S = nspot 1 c r := ⟨_, rfl⟩
  rw [← hS1] at s1 hl
  rw [← hS2] at s2 hl
  have Hs1 : Hid (∀ w, Calls Tryd.prog 11 #[.agg #[.int .u8 0, .int .i64 a], .int .i64 r] w fun e w' => e = .returned (.int .i64 S1) ∧ Ext w w') := fun w => Spot_val 0 a r S1 w (by omega) (by omega) s1
  have Hs2 : Hid (∀ w, Calls Tryd.prog 11 #[.agg #[.int .u8 1, .int .i64 c], .int .i64 r] w fun e w' => e = .returned (.int .i64 S2) ∧ Ext w w') := fun w => Spot_val 1 c r S2 w (by omega) (by omega) s2
  have Hl := Lib.hid hl; have Hr := Lib.hid hr.symm
  clear hb ha hd hc s1 s2 hl hS1 hS2 hr
  go_enter Tryd.func8, Tryd.ntmps8
  go_wp2_with fail
  rw [Hr.out]
  refine (HN1.out _).mono ?_
  rintro e w1 ⟨rfl, x1⟩
  go_wp2_with fail
  refine (HN2.out _).mono ?_
  rintro e w2 ⟨rfl, x2⟩
  have X2 := Lib.hid (((x1.trans x2).alloc (.cells #[.int .u8 0, .int .i64 a] 24)).alloc (.cells #[.int .u8 1, .int .i64 c] 24))
  clear x1 x2
  go_wp2_with fail
  have hA := (B2.new w2 (.int .u8 0) (.int .i64 a) 24).alloc (.cells #[.int .u8 1, .int .i64 c] 24)
  have hB : B2 ((w2.alloc (.cells #[.int .u8 0, .int .i64 a] 24)).alloc (.cells #[.int .u8 1, .int .i64 c] 24)) (w2.heap.size + 1) (.int .u8 1) (.int .i64 c) 24 := by simpa using B2.new (w2.alloc (.cells #[.int .u8 0, .int .i64 a] 24)) (.int .u8 1) (.int .i64 c) 24
  obtain ⟨w3, hw3⟩ : ∃ w3, w3 = ((w2.alloc (.cells #[.int .u8 0, .int .i64 a] 24)).alloc (.cells #[.int .u8 1, .int .i64 c] 24)) := ⟨_, rfl⟩
  rw [← hw3] at hA hB X2 ⊢
  clear hw3
  have e0 := hA.c0; have e1 := hA.c1; have g0 := hB.c0; have g1 := hB.c1
  have HA := Lib.hid hA; have HB := Lib.hid hB
  clear hA hB
  go_quiet (fail)
  rcases (show a + 0 < c + r ∨ a + 0 = c + r ∨ c + r < a + 0 by omega) with hlt | heq | hgt
  · skip
    skip
    have hS : decide (S1 < S2) = true := by have := Hl.out; simp at this; simp; omega
    go_wp2
    go_region_held3 (fun w' => w'.cell? ⟨w2.heap.size, 0, none⟩ = some (.int .u8 0) ∧ w'.cell? ⟨w2.heap.size, 1, none⟩ = some (.int .i64 a) ∧ w'.cell? ⟨w2.heap.size + 1, 0, none⟩ = some (.int .u8 1) ∧ w'.cell? ⟨w2.heap.size + 1, 1, none⟩ = some (.int .i64 c)) (first | exact ⟨e0, e1, g0, g1⟩ | exact ⟨q0, q1, q2, q3⟩ | exact ⟨p0, p1, p2, p3⟩ | exact ⟨t0, t1, t2, t3⟩ | go_keep) (first
      | (go_at_call_of 11 a; refine (Hs1.out _).mono ?_; rintro e w4 ⟨rfl, x4⟩; have X4 := Lib.hid (((Ext.refl w3).drewN _).trans x4); have q0 := X4.out.cell e0; have q1 := X4.out.cell e1; have q2 := X4.out.cell g0; have q3 := X4.out.cell g1; clear x4)
      | (go_at_call_of 11 c; refine (Hs2.out _).mono ?_; rintro e w5 ⟨rfl, x5⟩; have X5 := Lib.hid (X4.out.trans x5); have p0 := X5.out.cell e0; have p1 := X5.out.cell e1; have p2 := X5.out.cell g0; have p3 := X5.out.cell g1; clear x5)
      | (go_at_call 12; refine (lives_calls _).mono ?_; rintro e w6 ⟨rfl, x6⟩; have X6 := Lib.hid (X5.out.trans x6); have t0 := X6.out.cell e0; have t1 := X6.out.cell e1; have t2 := X6.out.cell g0; have t3 := X6.out.cell g1; clear x6))
    go_wp2
    go_ret
    exact ⟨rfl, X2.out.trans X6.out⟩
  · have heq' : (a == c + r) = true := by rw [beq_iff_eq]; omega
    have heq'' : (a == c + r) = true := by rw [beq_iff_eq]; omega
    have hd' : decide (a < c + r) = false := by simp; omega
    have Heq := Lib.hid heq
    clear heq
    have hS : decide (S1 < S2) = false := by have hA := Hl.out; have hB := Heq.out; simp at hA hB ⊢; omega
    go_wp2
    go_region_held3 (fun w' => w'.cell? ⟨w2.heap.size, 0, none⟩ = some (.int .u8 0) ∧ w'.cell? ⟨w2.heap.size, 1, none⟩ = some (.int .i64 a) ∧ w'.cell? ⟨w2.heap.size + 1, 0, none⟩ = some (.int .u8 1) ∧ w'.cell? ⟨w2.heap.size + 1, 1, none⟩ = some (.int .i64 c)) (first | exact ⟨e0, e1, g0, g1⟩ | exact ⟨q0, q1, q2, q3⟩ | exact ⟨p0, p1, p2, p3⟩ | exact ⟨t0, t1, t2, t3⟩ | go_keep) (first
      | (go_at_call_of 11 a; refine (Hs1.out _).mono ?_; rintro e w4 ⟨rfl, x4⟩; have X4 := Lib.hid (((Ext.refl w3).drewN _).trans x4); have q0 := X4.out.cell e0; have q1 := X4.out.cell e1; have q2 := X4.out.cell g0; have q3 := X4.out.cell g1; clear x4)
      | (go_at_call_of 11 c; refine (Hs2.out _).mono ?_; rintro e w5 ⟨rfl, x5⟩; have X5 := Lib.hid (X4.out.trans x5); have p0 := X5.out.cell e0; have p1 := X5.out.cell e1; have p2 := X5.out.cell g0; have p3 := X5.out.cell g1; clear x5)
      | (go_at_call 12; refine (lives_calls _).mono ?_; rintro e w6 ⟨rfl, x6⟩; have X6 := Lib.hid (X5.out.trans x6); have t0 := X6.out.cell e0; have t1 := X6.out.cell e1; have t2 := X6.out.cell g0; have t3 := X6.out.cell g1; clear x6))
    go_wp2
    go_ret
    exact ⟨rfl, X2.out.trans X6.out⟩
  · have hne' : (a == c + r) = false := by rw [beq_eq_false_iff_ne]; omega
    have hne'' : (a == c + r) = false := by rw [beq_eq_false_iff_ne]; omega
    have hd' : decide (a < c + r) = false := by simp; omega
    skip
    have hS : decide (S1 < S2) = false := by have := Hl.out; simp at this ⊢; omega
    go_wp2
    go_region_held3 (fun w' => w'.cell? ⟨w2.heap.size, 0, none⟩ = some (.int .u8 0) ∧ w'.cell? ⟨w2.heap.size, 1, none⟩ = some (.int .i64 a) ∧ w'.cell? ⟨w2.heap.size + 1, 0, none⟩ = some (.int .u8 1) ∧ w'.cell? ⟨w2.heap.size + 1, 1, none⟩ = some (.int .i64 c)) (first | exact ⟨e0, e1, g0, g1⟩ | exact ⟨q0, q1, q2, q3⟩ | exact ⟨p0, p1, p2, p3⟩ | exact ⟨t0, t1, t2, t3⟩ | go_keep) (first
      | (go_at_call_of 11 a; refine (Hs1.out _).mono ?_; rintro e w4 ⟨rfl, x4⟩; have X4 := Lib.hid (((Ext.refl w3).drewN _).trans x4); have q0 := X4.out.cell e0; have q1 := X4.out.cell e1; have q2 := X4.out.cell g0; have q3 := X4.out.cell g1; clear x4)
      | (go_at_call_of 11 c; refine (Hs2.out _).mono ?_; rintro e w5 ⟨rfl, x5⟩; have X5 := Lib.hid (X4.out.trans x5); have p0 := X5.out.cell e0; have p1 := X5.out.cell e1; have p2 := X5.out.cell g0; have p3 := X5.out.cell g1; clear x5)
      | (go_at_call 12; refine (lives_calls _).mono ?_; rintro e w6 ⟨rfl, x6⟩; have X6 := Lib.hid (X5.out.trans x6); have t0 := X6.out.cell e0; have t1 := X6.out.cell e1; have t2 := X6.out.cell g0; have t3 := X6.out.cell g1; clear x6))
    go_wp2
    go_ret
    exact ⟨rfl, X2.out.trans X6.out⟩
set_option maxHeartbeats 2000000 in
theorem Order_10 (i j k a c : Int) (w : World) (i1 : 0 ≤ i) (i2 : i ≤ 255) (j1 : 0 ≤ j) (j2 : j ≤ 255) (k1 : 0 ≤ k) (k2 : k ≤ 255) (hb : 1 = i % 80 / 40) (ha : a = 1 + i % 40) (hd : 0 = j % 80 / 40) (hc : c = 1 + j % 40) :
    Calls Tryd.prog 8 #[.int .u8 i, .int .u8 j, .int .u8 k] w fun e w' => e = .returned (.bool true) ∧ Ext w w' := by
  obtain ⟨r, hr⟩ : ∃ r, r = k % 9 - 4 := ⟨_, rfl⟩
  have a1 : 1 ≤ a := by omega
  have a2 : a ≤ 40 := by omega
  have c1 : 1 ≤ c := by omega
  have c2 : c ≤ 40 := by omega
  have r1 : -4 ≤ r := by omega
  have r2 : r ≤ 4 := by omega
  have HN1 : Hid (∀ w, Calls Tryd.prog 15 #[.int .u8 i] w fun e w' => e = .returned (.agg #[.int .u8 1, .int .i64 a]) ∧ Ext w w') := fun w => needle_val i 1 a w i1 i2 hb ha
  have HN2 : Hid (∀ w, Calls Tryd.prog 15 #[.int .u8 j] w fun e w' => e = .returned (.agg #[.int .u8 0, .int .i64 c]) ∧ Ext w w') := fun w => needle_val j 0 c w j1 j2 hd hc
  have s1 := nspotF_ok (b := 1) (a := a) (r := r) ⟨by omega, a1, a2, r1, r2⟩
  have s2 := nspotF_ok (b := 0) (a := c) (r := r) ⟨by omega, c1, c2, r1, r2⟩
  have hl := order_law (b := 1) (a := a) (d := 0) (c := c) (r := r) (by omega) (by omega) (by omega) (by omega)
  obtain ⟨S1, hS1⟩ : ∃ S, S = nspot 1 a r := ⟨_, rfl⟩
  obtain ⟨S2, hS2⟩ : ∃ S, S = nspot 0 c r := ⟨_, rfl⟩
  rw [← hS1] at s1 hl
  rw [← hS2] at s2 hl
  have Hs1 : Hid (∀ w, Calls Tryd.prog 11 #[.agg #[.int .u8 1, .int .i64 a], .int .i64 r] w fun e w' => e = .returned (.int .i64 S1) ∧ Ext w w') := fun w => Spot_val 1 a r S1 w (by omega) (by omega) s1
  have Hs2 : Hid (∀ w, Calls Tryd.prog 11 #[.agg #[.int .u8 0, .int .i64 c], .int .i64 r] w fun e w' => e = .returned (.int .i64 S2) ∧ Ext w w') := fun w => Spot_val 0 c r S2 w (by omega) (by omega) s2
  have Hl := Lib.hid hl; have Hr := Lib.hid hr.symm
  clear hb ha hd hc s1 s2 hl hS1 hS2 hr
  go_enter Tryd.func8, Tryd.ntmps8
  go_wp2_with fail
  rw [Hr.out]
  refine (HN1.out _).mono ?_
  rintro e w1 ⟨rfl, x1⟩
  go_wp2_with fail
  refine (HN2.out _).mono ?_
  rintro e w2 ⟨rfl, x2⟩
  have X2 := Lib.hid (((x1.trans x2).alloc (.cells #[.int .u8 1, .int .i64 a] 24)).alloc (.cells #[.int .u8 0, .int .i64 c] 24))
  clear x1 x2
  go_wp2_with fail
  have hA := (B2.new w2 (.int .u8 1) (.int .i64 a) 24).alloc (.cells #[.int .u8 0, .int .i64 c] 24)
  have hB : B2 ((w2.alloc (.cells #[.int .u8 1, .int .i64 a] 24)).alloc (.cells #[.int .u8 0, .int .i64 c] 24)) (w2.heap.size + 1) (.int .u8 0) (.int .i64 c) 24 := by simpa using B2.new (w2.alloc (.cells #[.int .u8 1, .int .i64 a] 24)) (.int .u8 0) (.int .i64 c) 24
  obtain ⟨w3, hw3⟩ : ∃ w3, w3 = ((w2.alloc (.cells #[.int .u8 1, .int .i64 a] 24)).alloc (.cells #[.int .u8 0, .int .i64 c] 24)) := ⟨_, rfl⟩
  rw [← hw3] at hA hB X2 ⊢
  clear hw3
  have e0 := hA.c0; have e1 := hA.c1; have g0 := hB.c0; have g1 := hB.c1
  have HA := Lib.hid hA; have HB := Lib.hid hB
  clear hA hB
  go_quiet (fail)
  rcases (show a + r < c + 0 ∨ a + r = c + 0 ∨ c + 0 < a + r by omega) with hlt | heq | hgt
  · skip
    skip
    have hS : decide (S1 < S2) = true := by have := Hl.out; simp at this; simp; omega
    go_wp2
    go_region_held3 (fun w' => w'.cell? ⟨w2.heap.size, 0, none⟩ = some (.int .u8 1) ∧ w'.cell? ⟨w2.heap.size, 1, none⟩ = some (.int .i64 a) ∧ w'.cell? ⟨w2.heap.size + 1, 0, none⟩ = some (.int .u8 0) ∧ w'.cell? ⟨w2.heap.size + 1, 1, none⟩ = some (.int .i64 c)) (first | exact ⟨e0, e1, g0, g1⟩ | exact ⟨q0, q1, q2, q3⟩ | exact ⟨p0, p1, p2, p3⟩ | exact ⟨t0, t1, t2, t3⟩ | go_keep) (first
      | (go_at_call_of 11 a; refine (Hs1.out _).mono ?_; rintro e w4 ⟨rfl, x4⟩; have X4 := Lib.hid (((Ext.refl w3).drewN _).trans x4); have q0 := X4.out.cell e0; have q1 := X4.out.cell e1; have q2 := X4.out.cell g0; have q3 := X4.out.cell g1; clear x4)
      | (go_at_call_of 11 c; refine (Hs2.out _).mono ?_; rintro e w5 ⟨rfl, x5⟩; have X5 := Lib.hid (X4.out.trans x5); have p0 := X5.out.cell e0; have p1 := X5.out.cell e1; have p2 := X5.out.cell g0; have p3 := X5.out.cell g1; clear x5)
      | (go_at_call 12; refine (lives_calls _).mono ?_; rintro e w6 ⟨rfl, x6⟩; have X6 := Lib.hid (X5.out.trans x6); have t0 := X6.out.cell e0; have t1 := X6.out.cell e1; have t2 := X6.out.cell g0; have t3 := X6.out.cell g1; clear x6))
    go_wp2
    go_ret
    exact ⟨rfl, X2.out.trans X6.out⟩
  · have heq' : (a + r == c) = true := by rw [beq_iff_eq]; omega
    have heq'' : (a + r == c) = true := by rw [beq_iff_eq]; omega
    have hd' : decide (a + r < c) = false := by simp; omega
    have Heq := Lib.hid heq
    clear heq
    have hS : decide (S1 < S2) = true := by have hA := Hl.out; have hB := Heq.out; simp at hA hB ⊢; omega
    go_wp2
    go_region_held3 (fun w' => w'.cell? ⟨w2.heap.size, 0, none⟩ = some (.int .u8 1) ∧ w'.cell? ⟨w2.heap.size, 1, none⟩ = some (.int .i64 a) ∧ w'.cell? ⟨w2.heap.size + 1, 0, none⟩ = some (.int .u8 0) ∧ w'.cell? ⟨w2.heap.size + 1, 1, none⟩ = some (.int .i64 c)) (first | exact ⟨e0, e1, g0, g1⟩ | exact ⟨q0, q1, q2, q3⟩ | exact ⟨p0, p1, p2, p3⟩ | exact ⟨t0, t1, t2, t3⟩ | go_keep) (first
      | (go_at_call_of 11 a; refine (Hs1.out _).mono ?_; rintro e w4 ⟨rfl, x4⟩; have X4 := Lib.hid (((Ext.refl w3).drewN _).trans x4); have q0 := X4.out.cell e0; have q1 := X4.out.cell e1; have q2 := X4.out.cell g0; have q3 := X4.out.cell g1; clear x4)
      | (go_at_call_of 11 c; refine (Hs2.out _).mono ?_; rintro e w5 ⟨rfl, x5⟩; have X5 := Lib.hid (X4.out.trans x5); have p0 := X5.out.cell e0; have p1 := X5.out.cell e1; have p2 := X5.out.cell g0; have p3 := X5.out.cell g1; clear x5)
      | (go_at_call 12; refine (lives_calls _).mono ?_; rintro e w6 ⟨rfl, x6⟩; have X6 := Lib.hid (X5.out.trans x6); have t0 := X6.out.cell e0; have t1 := X6.out.cell e1; have t2 := X6.out.cell g0; have t3 := X6.out.cell g1; clear x6))
    go_wp2
    go_ret
    exact ⟨rfl, X2.out.trans X6.out⟩
  · have hne' : (a + r == c) = false := by rw [beq_eq_false_iff_ne]; omega
    have hne'' : (a + r == c) = false := by rw [beq_eq_false_iff_ne]; omega
    have hd' : decide (a + r < c) = false := by simp; omega
    skip
    have hS : decide (S1 < S2) = false := by have := Hl.out; simp at this ⊢; omega
    go_wp2
    go_region_held3 (fun w' => w'.cell? ⟨w2.heap.size, 0, none⟩ = some (.int .u8 1) ∧ w'.cell? ⟨w2.heap.size, 1, none⟩ = some (.int .i64 a) ∧ w'.cell? ⟨w2.heap.size + 1, 0, none⟩ = some (.int .u8 0) ∧ w'.cell? ⟨w2.heap.size + 1, 1, none⟩ = some (.int .i64 c)) (first | exact ⟨e0, e1, g0, g1⟩ | exact ⟨q0, q1, q2, q3⟩ | exact ⟨p0, p1, p2, p3⟩ | exact ⟨t0, t1, t2, t3⟩ | go_keep) (first
      | (go_at_call_of 11 a; refine (Hs1.out _).mono ?_; rintro e w4 ⟨rfl, x4⟩; have X4 := Lib.hid (((Ext.refl w3).drewN _).trans x4); have q0 := X4.out.cell e0; have q1 := X4.out.cell e1; have q2 := X4.out.cell g0; have q3 := X4.out.cell g1; clear x4)
      | (go_at_call_of 11 c; refine (Hs2.out _).mono ?_; rintro e w5 ⟨rfl, x5⟩; have X5 := Lib.hid (X4.out.trans x5); have p0 := X5.out.cell e0; have p1 := X5.out.cell e1; have p2 := X5.out.cell g0; have p3 := X5.out.cell g1; clear x5)
      | (go_at_call 12; refine (lives_calls _).mono ?_; rintro e w6 ⟨rfl, x6⟩; have X6 := Lib.hid (X5.out.trans x6); have t0 := X6.out.cell e0; have t1 := X6.out.cell e1; have t2 := X6.out.cell g0; have t3 := X6.out.cell g1; clear x6))
    go_wp2
    go_ret
    exact ⟨rfl, X2.out.trans X6.out⟩
set_option maxHeartbeats 2000000 in
theorem Order_11 (i j k a c : Int) (w : World) (i1 : 0 ≤ i) (i2 : i ≤ 255) (j1 : 0 ≤ j) (j2 : j ≤ 255) (k1 : 0 ≤ k) (k2 : k ≤ 255) (hb : 1 = i % 80 / 40) (ha : a = 1 + i % 40) (hd : 1 = j % 80 / 40) (hc : c = 1 + j % 40) :
    Calls Tryd.prog 8 #[.int .u8 i, .int .u8 j, .int .u8 k] w fun e w' => e = .returned (.bool true) ∧ Ext w w' := by
  obtain ⟨r, hr⟩ : ∃ r, r = k % 9 - 4 := ⟨_, rfl⟩
  have a1 : 1 ≤ a := by omega
  have a2 : a ≤ 40 := by omega
  have c1 : 1 ≤ c := by omega
  have c2 : c ≤ 40 := by omega
  have r1 : -4 ≤ r := by omega
  have r2 : r ≤ 4 := by omega
  have HN1 : Hid (∀ w, Calls Tryd.prog 15 #[.int .u8 i] w fun e w' => e = .returned (.agg #[.int .u8 1, .int .i64 a]) ∧ Ext w w') := fun w => needle_val i 1 a w i1 i2 hb ha
  have HN2 : Hid (∀ w, Calls Tryd.prog 15 #[.int .u8 j] w fun e w' => e = .returned (.agg #[.int .u8 1, .int .i64 c]) ∧ Ext w w') := fun w => needle_val j 1 c w j1 j2 hd hc
  have s1 := nspotF_ok (b := 1) (a := a) (r := r) ⟨by omega, a1, a2, r1, r2⟩
  have s2 := nspotF_ok (b := 1) (a := c) (r := r) ⟨by omega, c1, c2, r1, r2⟩
  have hl := order_law (b := 1) (a := a) (d := 1) (c := c) (r := r) (by omega) (by omega) (by omega) (by omega)
  obtain ⟨S1, hS1⟩ : ∃ S, S = nspot 1 a r := ⟨_, rfl⟩
  obtain ⟨S2, hS2⟩ : ∃ S, S = nspot 1 c r := ⟨_, rfl⟩
  rw [← hS1] at s1 hl
  rw [← hS2] at s2 hl
  have Hs1 : Hid (∀ w, Calls Tryd.prog 11 #[.agg #[.int .u8 1, .int .i64 a], .int .i64 r] w fun e w' => e = .returned (.int .i64 S1) ∧ Ext w w') := fun w => Spot_val 1 a r S1 w (by omega) (by omega) s1
  have Hs2 : Hid (∀ w, Calls Tryd.prog 11 #[.agg #[.int .u8 1, .int .i64 c], .int .i64 r] w fun e w' => e = .returned (.int .i64 S2) ∧ Ext w w') := fun w => Spot_val 1 c r S2 w (by omega) (by omega) s2
  have Hl := Lib.hid hl; have Hr := Lib.hid hr.symm
  clear hb ha hd hc s1 s2 hl hS1 hS2 hr
  go_enter Tryd.func8, Tryd.ntmps8
  go_wp2_with fail
  rw [Hr.out]
  refine (HN1.out _).mono ?_
  rintro e w1 ⟨rfl, x1⟩
  go_wp2_with fail
  refine (HN2.out _).mono ?_
  rintro e w2 ⟨rfl, x2⟩
  have X2 := Lib.hid (((x1.trans x2).alloc (.cells #[.int .u8 1, .int .i64 a] 24)).alloc (.cells #[.int .u8 1, .int .i64 c] 24))
  clear x1 x2
  go_wp2_with fail
  have hA := (B2.new w2 (.int .u8 1) (.int .i64 a) 24).alloc (.cells #[.int .u8 1, .int .i64 c] 24)
  have hB : B2 ((w2.alloc (.cells #[.int .u8 1, .int .i64 a] 24)).alloc (.cells #[.int .u8 1, .int .i64 c] 24)) (w2.heap.size + 1) (.int .u8 1) (.int .i64 c) 24 := by simpa using B2.new (w2.alloc (.cells #[.int .u8 1, .int .i64 a] 24)) (.int .u8 1) (.int .i64 c) 24
  obtain ⟨w3, hw3⟩ : ∃ w3, w3 = ((w2.alloc (.cells #[.int .u8 1, .int .i64 a] 24)).alloc (.cells #[.int .u8 1, .int .i64 c] 24)) := ⟨_, rfl⟩
  rw [← hw3] at hA hB X2 ⊢
  clear hw3
  have e0 := hA.c0; have e1 := hA.c1; have g0 := hB.c0; have g1 := hB.c1
  have HA := Lib.hid hA; have HB := Lib.hid hB
  clear hA hB
  go_quiet (fail)
  rcases (show a + r < c + r ∨ a + r = c + r ∨ c + r < a + r by omega) with hlt | heq | hgt
  · skip
    skip
    have hS : decide (S1 < S2) = true := by have := Hl.out; simp at this; simp; omega
    go_wp2
    go_region_held3 (fun w' => w'.cell? ⟨w2.heap.size, 0, none⟩ = some (.int .u8 1) ∧ w'.cell? ⟨w2.heap.size, 1, none⟩ = some (.int .i64 a) ∧ w'.cell? ⟨w2.heap.size + 1, 0, none⟩ = some (.int .u8 1) ∧ w'.cell? ⟨w2.heap.size + 1, 1, none⟩ = some (.int .i64 c)) (first | exact ⟨e0, e1, g0, g1⟩ | exact ⟨q0, q1, q2, q3⟩ | exact ⟨p0, p1, p2, p3⟩ | exact ⟨t0, t1, t2, t3⟩ | go_keep) (first
      | (go_at_call_of 11 a; refine (Hs1.out _).mono ?_; rintro e w4 ⟨rfl, x4⟩; have X4 := Lib.hid (((Ext.refl w3).drewN _).trans x4); have q0 := X4.out.cell e0; have q1 := X4.out.cell e1; have q2 := X4.out.cell g0; have q3 := X4.out.cell g1; clear x4)
      | (go_at_call_of 11 c; refine (Hs2.out _).mono ?_; rintro e w5 ⟨rfl, x5⟩; have X5 := Lib.hid (X4.out.trans x5); have p0 := X5.out.cell e0; have p1 := X5.out.cell e1; have p2 := X5.out.cell g0; have p3 := X5.out.cell g1; clear x5)
      | (go_at_call 12; refine (lives_calls _).mono ?_; rintro e w6 ⟨rfl, x6⟩; have X6 := Lib.hid (X5.out.trans x6); have t0 := X6.out.cell e0; have t1 := X6.out.cell e1; have t2 := X6.out.cell g0; have t3 := X6.out.cell g1; clear x6))
    go_wp2
    go_ret
    exact ⟨rfl, X2.out.trans X6.out⟩
  · have heq' : (a == c) = true := by rw [beq_iff_eq]; omega
    have heq'' : (a + r == c + r) = true := by rw [beq_iff_eq]; omega
    have hd' : decide (a < c) = false := by simp; omega
    have Heq := Lib.hid heq
    clear heq
    have hS : decide (S1 < S2) = false := by have hA := Hl.out; have hB := Heq.out; simp at hA hB ⊢; omega
    go_wp2
    go_region_held3 (fun w' => w'.cell? ⟨w2.heap.size, 0, none⟩ = some (.int .u8 1) ∧ w'.cell? ⟨w2.heap.size, 1, none⟩ = some (.int .i64 a) ∧ w'.cell? ⟨w2.heap.size + 1, 0, none⟩ = some (.int .u8 1) ∧ w'.cell? ⟨w2.heap.size + 1, 1, none⟩ = some (.int .i64 c)) (first | exact ⟨e0, e1, g0, g1⟩ | exact ⟨q0, q1, q2, q3⟩ | exact ⟨p0, p1, p2, p3⟩ | exact ⟨t0, t1, t2, t3⟩ | go_keep) (first
      | (go_at_call_of 11 a; refine (Hs1.out _).mono ?_; rintro e w4 ⟨rfl, x4⟩; have X4 := Lib.hid (((Ext.refl w3).drewN _).trans x4); have q0 := X4.out.cell e0; have q1 := X4.out.cell e1; have q2 := X4.out.cell g0; have q3 := X4.out.cell g1; clear x4)
      | (go_at_call_of 11 c; refine (Hs2.out _).mono ?_; rintro e w5 ⟨rfl, x5⟩; have X5 := Lib.hid (X4.out.trans x5); have p0 := X5.out.cell e0; have p1 := X5.out.cell e1; have p2 := X5.out.cell g0; have p3 := X5.out.cell g1; clear x5)
      | (go_at_call 12; refine (lives_calls _).mono ?_; rintro e w6 ⟨rfl, x6⟩; have X6 := Lib.hid (X5.out.trans x6); have t0 := X6.out.cell e0; have t1 := X6.out.cell e1; have t2 := X6.out.cell g0; have t3 := X6.out.cell g1; clear x6))
    go_wp2
    go_ret
    exact ⟨rfl, X2.out.trans X6.out⟩
  · have hne' : (a == c) = false := by rw [beq_eq_false_iff_ne]; omega
    have hne'' : (a + r == c + r) = false := by rw [beq_eq_false_iff_ne]; omega
    have hd' : decide (a < c) = false := by simp; omega
    skip
    have hS : decide (S1 < S2) = false := by have := Hl.out; simp at this ⊢; omega
    go_wp2
    go_region_held3 (fun w' => w'.cell? ⟨w2.heap.size, 0, none⟩ = some (.int .u8 1) ∧ w'.cell? ⟨w2.heap.size, 1, none⟩ = some (.int .i64 a) ∧ w'.cell? ⟨w2.heap.size + 1, 0, none⟩ = some (.int .u8 1) ∧ w'.cell? ⟨w2.heap.size + 1, 1, none⟩ = some (.int .i64 c)) (first | exact ⟨e0, e1, g0, g1⟩ | exact ⟨q0, q1, q2, q3⟩ | exact ⟨p0, p1, p2, p3⟩ | exact ⟨t0, t1, t2, t3⟩ | go_keep) (first
      | (go_at_call_of 11 a; refine (Hs1.out _).mono ?_; rintro e w4 ⟨rfl, x4⟩; have X4 := Lib.hid (((Ext.refl w3).drewN _).trans x4); have q0 := X4.out.cell e0; have q1 := X4.out.cell e1; have q2 := X4.out.cell g0; have q3 := X4.out.cell g1; clear x4)
      | (go_at_call_of 11 c; refine (Hs2.out _).mono ?_; rintro e w5 ⟨rfl, x5⟩; have X5 := Lib.hid (X4.out.trans x5); have p0 := X5.out.cell e0; have p1 := X5.out.cell e1; have p2 := X5.out.cell g0; have p3 := X5.out.cell g1; clear x5)
      | (go_at_call 12; refine (lives_calls _).mono ?_; rintro e w6 ⟨rfl, x6⟩; have X6 := Lib.hid (X5.out.trans x6); have t0 := X6.out.cell e0; have t1 := X6.out.cell e1; have t2 := X6.out.cell g0; have t3 := X6.out.cell g1; clear x6))
    go_wp2
    go_ret
    exact ⟨rfl, X2.out.trans X6.out⟩

theorem NeedlesOrder_walk (i j k : Int) (w : World) (hi : 0 ≤ i ∧ i ≤ 255) (hj : 0 ≤ j ∧ j ≤ 255) (hk : 0 ≤ k ∧ k ≤ 255) :
    Calls Tryd.prog 8 #[.int .u8 i, .int .u8 j, .int .u8 k] w fun e w' => e = .returned (.bool true) ∧ Ext w w' := by
  rcases (show 0 = i % 80 / 40 ∨ 1 = i % 80 / 40 by omega) with hb | hb <;> rcases (show 0 = j % 80 / 40 ∨ 1 = j % 80 / 40 by omega) with hd | hd
  · exact Order_00 i j k _ _ w hi.1 hi.2 hj.1 hj.2 hk.1 hk.2 hb rfl hd rfl
  · exact Order_01 i j k _ _ w hi.1 hi.2 hj.1 hj.2 hk.1 hk.2 hb rfl hd rfl
  · exact Order_10 i j k _ _ w hi.1 hi.2 hj.1 hj.2 hk.1 hk.2 hb rfl hd rfl
  · exact Order_11 i j k _ _ w hi.1 hi.2 hj.1 hj.2 hk.1 hk.2 hb rfl hd rfl
end Go.Proofs.YthjihkclccpnhaaDoor
