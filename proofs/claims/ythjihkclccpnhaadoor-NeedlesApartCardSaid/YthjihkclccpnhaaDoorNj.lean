/- The law NeedlesApart: its walk. -/
import Derived.Test.YthjihkclccpnhaaDoorNi
import Derived.Deep.RegionHeld3
import Derived.Outline
namespace Go.Proofs.YthjihkclccpnhaaDoor
set_option linter.unusedVariables false
set_option linter.unusedSimpArgs false
open Go Go.RowKit

set_option maxHeartbeats 2000000 in
theorem Apart_00ne (i j k a c : Int) (w : World) (i1 : 0 ≤ i) (i2 : i ≤ 255) (j1 : 0 ≤ j) (j2 : j ≤ 255) (k1 : 0 ≤ k) (k2 : k ≤ 255) (hb : 0 = i % 80 / 40) (ha : a = 1 + i % 40) (hd : 0 = j % 80 / 40) (hc : c = 1 + j % 40) (hne : ¬ a = c) :
    Calls Tryd.prog 7 #[.int .u8 i, .int .u8 j, .int .u8 k] w fun e w' => e = .returned (.bool true) ∧ Ext w w' := by
  obtain ⟨r, hr⟩ : ∃ r, r = k % 8 - 4 := ⟨_, rfl⟩
  have a1 : 1 ≤ a := by omega
  have a2 : a ≤ 40 := by omega
  have c1 : 1 ≤ c := by omega
  have c2 : c ≤ 40 := by omega
  have r1 : -4 ≤ r := by omega
  have r2 : r ≤ 3 := by omega
  have HN1 : Hid (∀ w, Calls Tryd.prog 15 #[.int .u8 i] w fun e w' => e = .returned (.agg #[.int .u8 0, .int .i64 a]) ∧ Ext w w') := fun w => needle_val' i 0 a w i1 i2 hb ha
  have HN2 : Hid (∀ w, Calls Tryd.prog 15 #[.int .u8 j] w fun e w' => e = .returned (.agg #[.int .u8 0, .int .i64 c]) ∧ Ext w w') := fun w => needle_val' j 0 c w j1 j2 hd hc
  have s1 := nspotF_ok (b := 0) (a := a) (r := r) ⟨by omega, a1, a2, r1, by omega⟩
  have s2 := nspotF_ok (b := 0) (a := c) (r := r) ⟨by omega, c1, c2, r1, by omega⟩
  have s3 := nspotF_ok (b := 0) (a := a) (r := r + 1) ⟨by omega, a1, a2, by omega, by omega⟩
  have hS12 : nspot 0 a r ≠ nspot 0 c r := fun h => hne (nspot_inj (by omega) (by omega) (by omega) (by omega) h).2
  obtain ⟨S1, hS1⟩ : ∃ S, S = nspot 0 a r := ⟨_, rfl⟩
  obtain ⟨S2, hS2⟩ : ∃ S, S = nspot 0 c r := ⟨_, rfl⟩
  have hS3 : nspot 0 a (r + 1) = S1 := by rw [hS1]; unfold nspot; simp; try omega
  rw [← hS1] at s1 hS12
  rw [← hS2] at s2 hS12
  rw [hS3] at s3
  have Hs1 : Hid (∀ w, Calls Tryd.prog 11 #[.agg #[.int .u8 0, .int .i64 a], .int .i64 r] w fun e w' => e = .returned (.int .i64 S1) ∧ Ext w w') := fun w => Spot_val 0 a r S1 w (by omega) (by omega) s1
  have Hs2 : Hid (∀ w, Calls Tryd.prog 11 #[.agg #[.int .u8 0, .int .i64 c], .int .i64 r] w fun e w' => e = .returned (.int .i64 S2) ∧ Ext w w') := fun w => Spot_val 0 c r S2 w (by omega) (by omega) s2
  have Hs3 : Hid (∀ w, Calls Tryd.prog 11 #[.agg #[.int .u8 0, .int .i64 a], .int .i64 (r + 1)] w fun e w' => e = .returned (.int .i64 (S1)) ∧ Ext w w') := fun w => Spot_val 0 a (r + 1) _ w (by omega) (by omega) s3
  have hS4 : S1 = 4 * a + 2 := by rw [hS1]; unfold nspot; simp
  have p1 : -100 ≤ S1 := by omega
  have p2 : S1 ≤ 1000 := by omega
  have e12 : (S1 == S2) = false := beq_eq_false_iff_ne.2 hS12
  have Hr := Lib.hid hr.symm; have H4 := Lib.hid hS4; skip
  clear hb ha hd hc s1 s2 s3 hS1 hS2 hr hS12 hS3 hS4
  go_enter Tryd.func7, Tryd.ntmps7
  go_wp2_with fail
  rw [Hr.out]
  refine (HN1.out _).mono ?_
  rintro e w1 ⟨rfl, x1⟩
  go_wp2_with fail
  refine (HN2.out _).mono ?_
  rintro e w2 ⟨rfl, x2⟩
  have X2 := Lib.hid (((x1.trans x2).alloc (.cells #[.int .u8 0, .int .i64 a] 24)).alloc (.cells #[.int .u8 0, .int .i64 c] 24))
  clear x1 x2
  go_wp2_with fail
  have hA := (B2.new w2 (.int .u8 0) (.int .i64 a) 24).alloc (.cells #[.int .u8 0, .int .i64 c] 24)
  have hB : B2 ((w2.alloc (.cells #[.int .u8 0, .int .i64 a] 24)).alloc (.cells #[.int .u8 0, .int .i64 c] 24)) (w2.heap.size + 1) (.int .u8 0) (.int .i64 c) 24 := by simpa using B2.new (w2.alloc (.cells #[.int .u8 0, .int .i64 a] 24)) (.int .u8 0) (.int .i64 c) 24
  obtain ⟨w3, hw3⟩ : ∃ w3, w3 = ((w2.alloc (.cells #[.int .u8 0, .int .i64 a] 24)).alloc (.cells #[.int .u8 0, .int .i64 c] 24)) := ⟨_, rfl⟩
  rw [← hw3] at hA hB X2 ⊢
  clear hw3
  have e0 := hA.c0; have e1 := hA.c1; have g0 := hB.c0; have g1 := hB.c1
  have HA := Lib.hid hA; have HB := Lib.hid hB
  clear hA hB
  go_region_held3 (fun w' => w'.cell? ⟨w2.heap.size, 0, none⟩ = some (.int .u8 0) ∧ w'.cell? ⟨w2.heap.size, 1, none⟩ = some (.int .i64 a) ∧ w'.cell? ⟨w2.heap.size + 1, 0, none⟩ = some (.int .u8 0) ∧ w'.cell? ⟨w2.heap.size + 1, 1, none⟩ = some (.int .i64 c)) (first | exact ⟨e0, e1, g0, g1⟩ | exact ⟨q0, q1, q2, q3⟩ | exact ⟨p0, p1, p2, p3⟩ | go_keep) (first
      | (go_at_call_of 11 a; refine (Hs1.out _).mono ?_; rintro e w4 ⟨rfl, x4⟩; have X4 : Hid (Ext w3 w4) := Lib.hid (Ext.trans (by first | exact Ext.refl w3 | exact (Ext.refl w3).drew | exact (Ext.refl w3).drewN _) x4); have q0 := X4.out.cell e0; have q1 := X4.out.cell e1; have q2 := X4.out.cell g0; have q3 := X4.out.cell g1; clear x4)
      | (go_at_call_of 11 c; refine (Hs2.out _).mono ?_; rintro e w5 ⟨rfl, x5⟩; have X5 := Lib.hid (X4.out.trans x5); have p0 := X5.out.cell e0; have p1 := X5.out.cell e1; have p2 := X5.out.cell g0; have p3 := X5.out.cell g1; clear x5))
  go_wp2_with fail
  refine (Hs3.out _).mono ?_
  rintro e w6 ⟨rfl, x6⟩
  go_wp2_with fail
  refine (lives_calls _).mono ?_
  rintro e w7 ⟨rfl, x7⟩
  go_wp2
  go_ret
  exact ⟨rfl, X2.out.trans (X5.out.trans (x6.trans x7))⟩
set_option maxHeartbeats 2000000 in
theorem Apart_00eq (i j k a c : Int) (w : World) (i1 : 0 ≤ i) (i2 : i ≤ 255) (j1 : 0 ≤ j) (j2 : j ≤ 255) (k1 : 0 ≤ k) (k2 : k ≤ 255) (hb : 0 = i % 80 / 40) (ha : a = 1 + i % 40) (hd : 0 = j % 80 / 40) (hc : c = 1 + j % 40) (hne : a = c) :
    Calls Tryd.prog 7 #[.int .u8 i, .int .u8 j, .int .u8 k] w fun e w' => e = .returned (.bool true) ∧ Ext w w' := by
  subst hne
  obtain ⟨r, hr⟩ : ∃ r, r = k % 8 - 4 := ⟨_, rfl⟩
  have a1 : 1 ≤ a := by omega
  have a2 : a ≤ 40 := by omega
  have c1 : 1 ≤ a := by omega
  have c2 : a ≤ 40 := by omega
  have r1 : -4 ≤ r := by omega
  have r2 : r ≤ 3 := by omega
  have HN1 : Hid (∀ w, Calls Tryd.prog 15 #[.int .u8 i] w fun e w' => e = .returned (.agg #[.int .u8 0, .int .i64 a]) ∧ Ext w w') := fun w => needle_val' i 0 a w i1 i2 hb ha
  have HN2 : Hid (∀ w, Calls Tryd.prog 15 #[.int .u8 j] w fun e w' => e = .returned (.agg #[.int .u8 0, .int .i64 a]) ∧ Ext w w') := fun w => needle_val' j 0 a w j1 j2 hd hc
  have s1 := nspotF_ok (b := 0) (a := a) (r := r) ⟨by omega, a1, a2, r1, by omega⟩
  have s2 := nspotF_ok (b := 0) (a := a) (r := r) ⟨by omega, c1, c2, r1, by omega⟩
  have s3 := nspotF_ok (b := 0) (a := a) (r := r + 1) ⟨by omega, a1, a2, by omega, by omega⟩
  have hS12 : nspot 0 a r = nspot 0 a r := rfl
  obtain ⟨S1, hS1⟩ : ∃ S, S = nspot 0 a r := ⟨_, rfl⟩
  obtain ⟨S2, hS2⟩ : ∃ S, S = nspot 0 a r := ⟨_, rfl⟩
  have hS3 : nspot 0 a (r + 1) = S1 := by rw [hS1]; unfold nspot; simp; try omega
  obtain rfl : S1 = S2 := by rw [hS1, hS2]
  rw [← hS1] at s1 s2
  rw [hS3] at s3
  have Hs1 : Hid (∀ w, Calls Tryd.prog 11 #[.agg #[.int .u8 0, .int .i64 a], .int .i64 r] w fun e w' => e = .returned (.int .i64 S1) ∧ Ext w w') := fun w => Spot_val 0 a r S1 w (by omega) (by omega) s1
  have Hs2 : Hid (∀ w, Calls Tryd.prog 11 #[.agg #[.int .u8 0, .int .i64 a], .int .i64 r] w fun e w' => e = .returned (.int .i64 S1) ∧ Ext w w') := fun w => Spot_val 0 a r S1 w (by omega) (by omega) s2
  have Hs3 : Hid (∀ w, Calls Tryd.prog 11 #[.agg #[.int .u8 0, .int .i64 a], .int .i64 (r + 1)] w fun e w' => e = .returned (.int .i64 (S1)) ∧ Ext w w') := fun w => Spot_val 0 a (r + 1) _ w (by omega) (by omega) s3
  have hS4 : S1 = 4 * a + 2 := by rw [hS1]; unfold nspot; simp
  have p1 : -100 ≤ S1 := by omega
  have p2 : S1 ≤ 1000 := by omega
  have e12 : (S1 == S1) = true := beq_iff_eq.2 rfl
  have Hr := Lib.hid hr.symm; have H4 := Lib.hid hS4; skip
  clear hb ha hd hc s1 s2 s3 hS2 hr hS12 hS3 hS4
  go_enter Tryd.func7, Tryd.ntmps7
  go_wp2_with fail
  rw [Hr.out]
  refine (HN1.out _).mono ?_
  rintro e w1 ⟨rfl, x1⟩
  go_wp2_with fail
  refine (HN2.out _).mono ?_
  rintro e w2 ⟨rfl, x2⟩
  have X2 := Lib.hid (((x1.trans x2).alloc (.cells #[.int .u8 0, .int .i64 a] 24)).alloc (.cells #[.int .u8 0, .int .i64 a] 24))
  clear x1 x2
  go_wp2_with fail
  have hA := (B2.new w2 (.int .u8 0) (.int .i64 a) 24).alloc (.cells #[.int .u8 0, .int .i64 a] 24)
  have hB : B2 ((w2.alloc (.cells #[.int .u8 0, .int .i64 a] 24)).alloc (.cells #[.int .u8 0, .int .i64 a] 24)) (w2.heap.size + 1) (.int .u8 0) (.int .i64 a) 24 := by simpa using B2.new (w2.alloc (.cells #[.int .u8 0, .int .i64 a] 24)) (.int .u8 0) (.int .i64 a) 24
  obtain ⟨w3, hw3⟩ : ∃ w3, w3 = ((w2.alloc (.cells #[.int .u8 0, .int .i64 a] 24)).alloc (.cells #[.int .u8 0, .int .i64 a] 24)) := ⟨_, rfl⟩
  rw [← hw3] at hA hB X2 ⊢
  clear hw3
  have e0 := hA.c0; have e1 := hA.c1; have g0 := hB.c0; have g1 := hB.c1
  have HA := Lib.hid hA; have HB := Lib.hid hB
  clear hA hB
  have tok1 : True := trivial
  go_region_held3 (fun w' => w'.cell? ⟨w2.heap.size, 0, none⟩ = some (.int .u8 0) ∧ w'.cell? ⟨w2.heap.size, 1, none⟩ = some (.int .i64 a) ∧ w'.cell? ⟨w2.heap.size + 1, 0, none⟩ = some (.int .u8 0) ∧ w'.cell? ⟨w2.heap.size + 1, 1, none⟩ = some (.int .i64 a)) (first | exact ⟨e0, e1, g0, g1⟩ | exact ⟨q0, q1, q2, q3⟩ | exact ⟨p0, p1, p2, p3⟩ | go_keep) (first
      | (go_at_call_of 11 a; have _t := tok1; refine (Hs1.out _).mono ?_; rintro e w4 ⟨rfl, x4⟩; have X4 : Hid (Ext w3 w4) := Lib.hid (Ext.trans (by first | exact Ext.refl w3 | exact (Ext.refl w3).drew | exact (Ext.refl w3).drewN _) x4); have q0 := X4.out.cell e0; have q1 := X4.out.cell e1; have q2 := X4.out.cell g0; have q3 := X4.out.cell g1; clear x4 tok1)
      | (go_at_call_of 11 a; refine (Hs2.out _).mono ?_; rintro e w5 ⟨rfl, x5⟩; have X5 := Lib.hid (X4.out.trans x5); have p0 := X5.out.cell e0; have p1 := X5.out.cell e1; have p2 := X5.out.cell g0; have p3 := X5.out.cell g1; clear x5))
  go_wp2_with fail
  refine (Hs3.out _).mono ?_
  rintro e w6 ⟨rfl, x6⟩
  go_wp2_with fail
  refine (lives_calls _).mono ?_
  rintro e w7 ⟨rfl, x7⟩
  go_wp2
  go_ret
  exact ⟨rfl, X2.out.trans (X5.out.trans (x6.trans x7))⟩
set_option maxHeartbeats 2000000 in
theorem Apart_01ne (i j k a c : Int) (w : World) (i1 : 0 ≤ i) (i2 : i ≤ 255) (j1 : 0 ≤ j) (j2 : j ≤ 255) (k1 : 0 ≤ k) (k2 : k ≤ 255) (hb : 0 = i % 80 / 40) (ha : a = 1 + i % 40) (hd : 1 = j % 80 / 40) (hc : c = 1 + j % 40)  :
    Calls Tryd.prog 7 #[.int .u8 i, .int .u8 j, .int .u8 k] w fun e w' => e = .returned (.bool true) ∧ Ext w w' := by
  obtain ⟨r, hr⟩ : ∃ r, r = k % 8 - 4 := ⟨_, rfl⟩
  have a1 : 1 ≤ a := by omega
  have a2 : a ≤ 40 := by omega
  have c1 : 1 ≤ c := by omega
  have c2 : c ≤ 40 := by omega
  have r1 : -4 ≤ r := by omega
  have r2 : r ≤ 3 := by omega
  have HN1 : Hid (∀ w, Calls Tryd.prog 15 #[.int .u8 i] w fun e w' => e = .returned (.agg #[.int .u8 0, .int .i64 a]) ∧ Ext w w') := fun w => needle_val' i 0 a w i1 i2 hb ha
  have HN2 : Hid (∀ w, Calls Tryd.prog 15 #[.int .u8 j] w fun e w' => e = .returned (.agg #[.int .u8 1, .int .i64 c]) ∧ Ext w w') := fun w => needle_val' j 1 c w j1 j2 hd hc
  have s1 := nspotF_ok (b := 0) (a := a) (r := r) ⟨by omega, a1, a2, r1, by omega⟩
  have s2 := nspotF_ok (b := 1) (a := c) (r := r) ⟨by omega, c1, c2, r1, by omega⟩
  have s3 := nspotF_ok (b := 0) (a := a) (r := r + 1) ⟨by omega, a1, a2, by omega, by omega⟩
  have hS12 : nspot 0 a r ≠ nspot 1 c r := fun h => absurd (nspot_inj (by omega) (by omega) (by omega) (by omega) h).1 (by omega)
  obtain ⟨S1, hS1⟩ : ∃ S, S = nspot 0 a r := ⟨_, rfl⟩
  obtain ⟨S2, hS2⟩ : ∃ S, S = nspot 1 c r := ⟨_, rfl⟩
  have hS3 : nspot 0 a (r + 1) = S1 := by rw [hS1]; unfold nspot; simp; try omega
  rw [← hS1] at s1 hS12
  rw [← hS2] at s2 hS12
  rw [hS3] at s3
  have Hs1 : Hid (∀ w, Calls Tryd.prog 11 #[.agg #[.int .u8 0, .int .i64 a], .int .i64 r] w fun e w' => e = .returned (.int .i64 S1) ∧ Ext w w') := fun w => Spot_val 0 a r S1 w (by omega) (by omega) s1
  have Hs2 : Hid (∀ w, Calls Tryd.prog 11 #[.agg #[.int .u8 1, .int .i64 c], .int .i64 r] w fun e w' => e = .returned (.int .i64 S2) ∧ Ext w w') := fun w => Spot_val 1 c r S2 w (by omega) (by omega) s2
  have Hs3 : Hid (∀ w, Calls Tryd.prog 11 #[.agg #[.int .u8 0, .int .i64 a], .int .i64 (r + 1)] w fun e w' => e = .returned (.int .i64 (S1)) ∧ Ext w w') := fun w => Spot_val 0 a (r + 1) _ w (by omega) (by omega) s3
  have hS4 : S1 = 4 * a + 2 := by rw [hS1]; unfold nspot; simp
  have p1 : -100 ≤ S1 := by omega
  have p2 : S1 ≤ 1000 := by omega
  have e12 : (S1 == S2) = false := beq_eq_false_iff_ne.2 hS12
  have Hr := Lib.hid hr.symm; have H4 := Lib.hid hS4; skip
  clear hb ha hd hc s1 s2 s3 hS1 hS2 hr hS12 hS3 hS4
  go_enter Tryd.func7, Tryd.ntmps7
  go_wp2_with fail
  rw [Hr.out]
  refine (HN1.out _).mono ?_
  rintro e w1 ⟨rfl, x1⟩
  go_wp2_with fail
  refine (HN2.out _).mono ?_
  rintro e w2 ⟨rfl, x2⟩
  have X2 := Lib.hid (((x1.trans x2).alloc (.cells #[.int .u8 0, .int .i64 a] 24)).alloc (.cells #[.int .u8 1, .int .i64 c] 24))
  clear x1 x2
  go_wp2_with fail
  have hA := (B2.new w2 (.int .u8 0) (.int .i64 a) 24).alloc (.cells #[.int .u8 1, .int .i64 c] 24)
  have hB : B2 ((w2.alloc (.cells #[.int .u8 0, .int .i64 a] 24)).alloc (.cells #[.int .u8 1, .int .i64 c] 24)) (w2.heap.size + 1) (.int .u8 1) (.int .i64 c) 24 := by simpa using B2.new (w2.alloc (.cells #[.int .u8 0, .int .i64 a] 24)) (.int .u8 1) (.int .i64 c) 24
  obtain ⟨w3, hw3⟩ : ∃ w3, w3 = ((w2.alloc (.cells #[.int .u8 0, .int .i64 a] 24)).alloc (.cells #[.int .u8 1, .int .i64 c] 24)) := ⟨_, rfl⟩
  rw [← hw3] at hA hB X2 ⊢
  clear hw3
  have e0 := hA.c0; have e1 := hA.c1; have g0 := hB.c0; have g1 := hB.c1
  have HA := Lib.hid hA; have HB := Lib.hid hB
  clear hA hB
  go_region_held3 (fun w' => w'.cell? ⟨w2.heap.size, 0, none⟩ = some (.int .u8 0) ∧ w'.cell? ⟨w2.heap.size, 1, none⟩ = some (.int .i64 a) ∧ w'.cell? ⟨w2.heap.size + 1, 0, none⟩ = some (.int .u8 1) ∧ w'.cell? ⟨w2.heap.size + 1, 1, none⟩ = some (.int .i64 c)) (first | exact ⟨e0, e1, g0, g1⟩ | exact ⟨q0, q1, q2, q3⟩ | exact ⟨p0, p1, p2, p3⟩ | go_keep) (first
      | (go_at_call_of 11 a; refine (Hs1.out _).mono ?_; rintro e w4 ⟨rfl, x4⟩; have X4 : Hid (Ext w3 w4) := Lib.hid (Ext.trans (by first | exact Ext.refl w3 | exact (Ext.refl w3).drew | exact (Ext.refl w3).drewN _) x4); have q0 := X4.out.cell e0; have q1 := X4.out.cell e1; have q2 := X4.out.cell g0; have q3 := X4.out.cell g1; clear x4)
      | (go_at_call_of 11 c; refine (Hs2.out _).mono ?_; rintro e w5 ⟨rfl, x5⟩; have X5 := Lib.hid (X4.out.trans x5); have p0 := X5.out.cell e0; have p1 := X5.out.cell e1; have p2 := X5.out.cell g0; have p3 := X5.out.cell g1; clear x5))
  go_wp2_with fail
  refine (Hs3.out _).mono ?_
  rintro e w6 ⟨rfl, x6⟩
  go_wp2_with fail
  refine (lives_calls _).mono ?_
  rintro e w7 ⟨rfl, x7⟩
  go_wp2
  go_ret
  exact ⟨rfl, X2.out.trans (X5.out.trans (x6.trans x7))⟩
set_option maxHeartbeats 2000000 in
theorem Apart_10ne (i j k a c : Int) (w : World) (i1 : 0 ≤ i) (i2 : i ≤ 255) (j1 : 0 ≤ j) (j2 : j ≤ 255) (k1 : 0 ≤ k) (k2 : k ≤ 255) (hb : 1 = i % 80 / 40) (ha : a = 1 + i % 40) (hd : 0 = j % 80 / 40) (hc : c = 1 + j % 40)  :
    Calls Tryd.prog 7 #[.int .u8 i, .int .u8 j, .int .u8 k] w fun e w' => e = .returned (.bool true) ∧ Ext w w' := by
  obtain ⟨r, hr⟩ : ∃ r, r = k % 8 - 4 := ⟨_, rfl⟩
  have a1 : 1 ≤ a := by omega
  have a2 : a ≤ 40 := by omega
  have c1 : 1 ≤ c := by omega
  have c2 : c ≤ 40 := by omega
  have r1 : -4 ≤ r := by omega
  have r2 : r ≤ 3 := by omega
  have HN1 : Hid (∀ w, Calls Tryd.prog 15 #[.int .u8 i] w fun e w' => e = .returned (.agg #[.int .u8 1, .int .i64 a]) ∧ Ext w w') := fun w => needle_val' i 1 a w i1 i2 hb ha
  have HN2 : Hid (∀ w, Calls Tryd.prog 15 #[.int .u8 j] w fun e w' => e = .returned (.agg #[.int .u8 0, .int .i64 c]) ∧ Ext w w') := fun w => needle_val' j 0 c w j1 j2 hd hc
  have s1 := nspotF_ok (b := 1) (a := a) (r := r) ⟨by omega, a1, a2, r1, by omega⟩
  have s2 := nspotF_ok (b := 0) (a := c) (r := r) ⟨by omega, c1, c2, r1, by omega⟩
  have s3 := nspotF_ok (b := 1) (a := a) (r := r + 1) ⟨by omega, a1, a2, by omega, by omega⟩
  have hS12 : nspot 1 a r ≠ nspot 0 c r := fun h => absurd (nspot_inj (by omega) (by omega) (by omega) (by omega) h).1 (by omega)
  obtain ⟨S1, hS1⟩ : ∃ S, S = nspot 1 a r := ⟨_, rfl⟩
  obtain ⟨S2, hS2⟩ : ∃ S, S = nspot 0 c r := ⟨_, rfl⟩
  have hS3 : nspot 1 a (r + 1) = S1 + 4 := by rw [hS1]; unfold nspot; simp; try omega
  rw [← hS1] at s1 hS12
  rw [← hS2] at s2 hS12
  rw [hS3] at s3
  have Hs1 : Hid (∀ w, Calls Tryd.prog 11 #[.agg #[.int .u8 1, .int .i64 a], .int .i64 r] w fun e w' => e = .returned (.int .i64 S1) ∧ Ext w w') := fun w => Spot_val 1 a r S1 w (by omega) (by omega) s1
  have Hs2 : Hid (∀ w, Calls Tryd.prog 11 #[.agg #[.int .u8 0, .int .i64 c], .int .i64 r] w fun e w' => e = .returned (.int .i64 S2) ∧ Ext w w') := fun w => Spot_val 0 c r S2 w (by omega) (by omega) s2
  have Hs3 : Hid (∀ w, Calls Tryd.prog 11 #[.agg #[.int .u8 1, .int .i64 a], .int .i64 (r + 1)] w fun e w' => e = .returned (.int .i64 (S1 + 4)) ∧ Ext w w') := fun w => Spot_val 1 a (r + 1) _ w (by omega) (by omega) s3
  have hS4 : S1 = 4 * a + 4 * r := by rw [hS1]; unfold nspot; simp
  have p1 : -100 ≤ S1 := by omega
  have p2 : S1 ≤ 1000 := by omega
  have e12 : (S1 == S2) = false := beq_eq_false_iff_ne.2 hS12
  have Hr := Lib.hid hr.symm; have H4 := Lib.hid hS4; skip
  clear hb ha hd hc s1 s2 s3 hS1 hS2 hr hS12 hS3 hS4
  go_enter Tryd.func7, Tryd.ntmps7
  go_wp2_with fail
  rw [Hr.out]
  refine (HN1.out _).mono ?_
  rintro e w1 ⟨rfl, x1⟩
  go_wp2_with fail
  refine (HN2.out _).mono ?_
  rintro e w2 ⟨rfl, x2⟩
  have X2 := Lib.hid (((x1.trans x2).alloc (.cells #[.int .u8 1, .int .i64 a] 24)).alloc (.cells #[.int .u8 0, .int .i64 c] 24))
  clear x1 x2
  go_wp2_with fail
  have hA := (B2.new w2 (.int .u8 1) (.int .i64 a) 24).alloc (.cells #[.int .u8 0, .int .i64 c] 24)
  have hB : B2 ((w2.alloc (.cells #[.int .u8 1, .int .i64 a] 24)).alloc (.cells #[.int .u8 0, .int .i64 c] 24)) (w2.heap.size + 1) (.int .u8 0) (.int .i64 c) 24 := by simpa using B2.new (w2.alloc (.cells #[.int .u8 1, .int .i64 a] 24)) (.int .u8 0) (.int .i64 c) 24
  obtain ⟨w3, hw3⟩ : ∃ w3, w3 = ((w2.alloc (.cells #[.int .u8 1, .int .i64 a] 24)).alloc (.cells #[.int .u8 0, .int .i64 c] 24)) := ⟨_, rfl⟩
  rw [← hw3] at hA hB X2 ⊢
  clear hw3
  have e0 := hA.c0; have e1 := hA.c1; have g0 := hB.c0; have g1 := hB.c1
  have HA := Lib.hid hA; have HB := Lib.hid hB
  clear hA hB
  go_region_held3 (fun w' => w'.cell? ⟨w2.heap.size, 0, none⟩ = some (.int .u8 1) ∧ w'.cell? ⟨w2.heap.size, 1, none⟩ = some (.int .i64 a) ∧ w'.cell? ⟨w2.heap.size + 1, 0, none⟩ = some (.int .u8 0) ∧ w'.cell? ⟨w2.heap.size + 1, 1, none⟩ = some (.int .i64 c)) (first | exact ⟨e0, e1, g0, g1⟩ | exact ⟨q0, q1, q2, q3⟩ | exact ⟨p0, p1, p2, p3⟩ | go_keep) (first
      | (go_at_call_of 11 a; refine (Hs1.out _).mono ?_; rintro e w4 ⟨rfl, x4⟩; have X4 : Hid (Ext w3 w4) := Lib.hid (Ext.trans (by first | exact Ext.refl w3 | exact (Ext.refl w3).drew | exact (Ext.refl w3).drewN _) x4); have q0 := X4.out.cell e0; have q1 := X4.out.cell e1; have q2 := X4.out.cell g0; have q3 := X4.out.cell g1; clear x4)
      | (go_at_call_of 11 c; refine (Hs2.out _).mono ?_; rintro e w5 ⟨rfl, x5⟩; have X5 := Lib.hid (X4.out.trans x5); have p0 := X5.out.cell e0; have p1 := X5.out.cell e1; have p2 := X5.out.cell g0; have p3 := X5.out.cell g1; clear x5))
  go_wp2_with fail
  refine (Hs3.out _).mono ?_
  rintro e w6 ⟨rfl, x6⟩
  have X6 := Lib.hid (X5.out.trans x6)
  clear x6
  go_wp2
  go_loopw [12, 13] (fun many i wx => ∃ k : Nat, k ≤ 40 ∧ i = .int .i64 k ∧ many = .int .i64 (if 1 ≤ a + r ∧ a + r ≤ k then 1 else 0) ∧ Hid (Ext w3 wx)) (fun _ i _ => 40 - (intOf i).toNat)
  case atStart => exact ⟨0, Nat.zero_le _, rfl, by rw [if_neg (by omega)], X6⟩
  case round =>
    obtain ⟨k, hk, rfl, hmany, H⟩ := hrel
    obtain ⟨M, hM⟩ : ∃ M : Int, M = (if 1 ≤ a + r ∧ a + r ≤ k then 1 else 0) := ⟨_, rfl⟩
    rw [← hM] at hmany
    subst hmany
    have HM := Lib.hid hM
    clear hM
    by_cases hlt : k < 40
    · have kb : (k : Int) < 40 := by omega
      have N : Hid (∀ w, Calls Tryd.prog 15 #[.int .u8 k] w fun e w' => e = .returned (.agg #[.int .u8 0, .int .i64 (1 + (k : Int))]) ∧ Ext w w') := fun w => needle_val' k 0 (1 + (k : Int)) w (by omega) (by omega) (by omega) (by omega)
      obtain ⟨V, hV⟩ : ∃ V : Int, V = 4 * (1 + (k : Int)) + 2 := ⟨_, rfl⟩
      have P : Hid (∀ w, Calls Tryd.prog 11 #[.agg #[.int .u8 0, .int .i64 (1 + (k : Int))], .int .i64 r] w fun e w' => e = .returned (.int .i64 V) ∧ Ext w w') := fun w => Spot_val 0 (1 + (k : Int)) r V w (by omega) (by omega) (by rw [hV, nspotF_ok ⟨by omega, by omega, by omega, by omega, by omega⟩]; rfl)
      have v1 : 0 ≤ V := by omega
      have v2 : V ≤ 1000 := by omega
      have HV := Lib.hid hV
      clear hV
      go_wp2_with fail
      refine (N.out _).mono ?_
      rintro e w8 ⟨rfl, x8⟩
      go_wp2_with fail
      refine (P.out _).mono ?_
      rintro e w9 ⟨rfl, x9⟩
      have X9 := Lib.hid (H.out.trans (x8.trans x9))
      clear x8 x9
      by_cases hg : S1 < V
      · by_cases hl : V < S1 + 4
        · have hM0 : M = 0 := by have := HV.out; have := H4.out; rw [HM.out, if_neg (by omega)]
          subst hM0
          go_wp2
          go_roundw
          case rel => exact ⟨k + 1, by omega, by go_num, by have := HV.out; have := H4.out; rw [if_pos (by omega)], X9⟩
          case measure => simp [intOf]; omega
        · go_wp2
          go_roundw
          case rel =>
            have hc : (1 ≤ a + r ∧ a + r ≤ ((k + 1 : Nat) : Int)) ↔ (1 ≤ a + r ∧ a + r ≤ k) := by have := HV.out; have := H4.out; omega
            exact ⟨k + 1, by omega, by go_num, by rw [HM.out]; simp only [hc], X9⟩
          case measure => simp [intOf]; omega
      · have hg' : decide (S1 < V) = false := by simpa using hg
        go_wp2
        go_roundw
        case rel =>
          have hc : (1 ≤ a + r ∧ a + r ≤ ((k + 1 : Nat) : Int)) ↔ (1 ≤ a + r ∧ a + r ≤ k) := by have := HV.out; have := H4.out; omega
          exact ⟨k + 1, by omega, by go_num, by rw [HM.out]; simp only [hc], X9⟩
        case measure => simp [intOf]; omega
    · obtain rfl : k = 40 := by omega
      have z0 := H.out.cell e0; have z1 := H.out.cell e1
      have X := Lib.hid H.out
      clear H
      by_cases hw : 1 ≤ a + r ∧ a + r ≤ 40
      · obtain rfl : M = 1 := by rw [HM.out, if_pos (by omega)]
        obtain ⟨hw1, hw2⟩ := hw
        clear HM
        go_wp2_with fail
        refine (lives_calls _).mono ?_
        rintro e wz ⟨rfl, xz⟩
        go_wp2
        go_ret
        exact ⟨rfl, X2.out.trans (X.out.trans xz)⟩
      · obtain rfl : M = 0 := by rw [HM.out, if_neg (by omega)]
        clear HM
        rcases (show a + r < 1 ∨ 40 < a + r by omega) with hw' | hw'
        all_goals
          clear hw
          go_wp2_with fail
          refine (lives_calls _).mono ?_
          rintro e wz ⟨rfl, xz⟩
          go_wp2
          go_ret
          exact ⟨rfl, X2.out.trans (X.out.trans xz)⟩
set_option maxHeartbeats 2000000 in
theorem Apart_11ne (i j k a c : Int) (w : World) (i1 : 0 ≤ i) (i2 : i ≤ 255) (j1 : 0 ≤ j) (j2 : j ≤ 255) (k1 : 0 ≤ k) (k2 : k ≤ 255) (hb : 1 = i % 80 / 40) (ha : a = 1 + i % 40) (hd : 1 = j % 80 / 40) (hc : c = 1 + j % 40) (hne : ¬ a = c) :
    Calls Tryd.prog 7 #[.int .u8 i, .int .u8 j, .int .u8 k] w fun e w' => e = .returned (.bool true) ∧ Ext w w' := by
  obtain ⟨r, hr⟩ : ∃ r, r = k % 8 - 4 := ⟨_, rfl⟩
  have a1 : 1 ≤ a := by omega
  have a2 : a ≤ 40 := by omega
  have c1 : 1 ≤ c := by omega
  have c2 : c ≤ 40 := by omega
  have r1 : -4 ≤ r := by omega
  have r2 : r ≤ 3 := by omega
  have HN1 : Hid (∀ w, Calls Tryd.prog 15 #[.int .u8 i] w fun e w' => e = .returned (.agg #[.int .u8 1, .int .i64 a]) ∧ Ext w w') := fun w => needle_val' i 1 a w i1 i2 hb ha
  have HN2 : Hid (∀ w, Calls Tryd.prog 15 #[.int .u8 j] w fun e w' => e = .returned (.agg #[.int .u8 1, .int .i64 c]) ∧ Ext w w') := fun w => needle_val' j 1 c w j1 j2 hd hc
  have s1 := nspotF_ok (b := 1) (a := a) (r := r) ⟨by omega, a1, a2, r1, by omega⟩
  have s2 := nspotF_ok (b := 1) (a := c) (r := r) ⟨by omega, c1, c2, r1, by omega⟩
  have s3 := nspotF_ok (b := 1) (a := a) (r := r + 1) ⟨by omega, a1, a2, by omega, by omega⟩
  have hS12 : nspot 1 a r ≠ nspot 1 c r := fun h => hne (nspot_inj (by omega) (by omega) (by omega) (by omega) h).2
  obtain ⟨S1, hS1⟩ : ∃ S, S = nspot 1 a r := ⟨_, rfl⟩
  obtain ⟨S2, hS2⟩ : ∃ S, S = nspot 1 c r := ⟨_, rfl⟩
  have hS3 : nspot 1 a (r + 1) = S1 + 4 := by rw [hS1]; unfold nspot; simp; try omega
  rw [← hS1] at s1 hS12
  rw [← hS2] at s2 hS12
  rw [hS3] at s3
  have Hs1 : Hid (∀ w, Calls Tryd.prog 11 #[.agg #[.int .u8 1, .int .i64 a], .int .i64 r] w fun e w' => e = .returned (.int .i64 S1) ∧ Ext w w') := fun w => Spot_val 1 a r S1 w (by omega) (by omega) s1
  have Hs2 : Hid (∀ w, Calls Tryd.prog 11 #[.agg #[.int .u8 1, .int .i64 c], .int .i64 r] w fun e w' => e = .returned (.int .i64 S2) ∧ Ext w w') := fun w => Spot_val 1 c r S2 w (by omega) (by omega) s2
  have Hs3 : Hid (∀ w, Calls Tryd.prog 11 #[.agg #[.int .u8 1, .int .i64 a], .int .i64 (r + 1)] w fun e w' => e = .returned (.int .i64 (S1 + 4)) ∧ Ext w w') := fun w => Spot_val 1 a (r + 1) _ w (by omega) (by omega) s3
  have hS4 : S1 = 4 * a + 4 * r := by rw [hS1]; unfold nspot; simp
  have p1 : -100 ≤ S1 := by omega
  have p2 : S1 ≤ 1000 := by omega
  have e12 : (S1 == S2) = false := beq_eq_false_iff_ne.2 hS12
  have Hr := Lib.hid hr.symm; have H4 := Lib.hid hS4; skip
  clear hb ha hd hc s1 s2 s3 hS1 hS2 hr hS12 hS3 hS4
  go_enter Tryd.func7, Tryd.ntmps7
  go_wp2_with fail
  rw [Hr.out]
  refine (HN1.out _).mono ?_
  rintro e w1 ⟨rfl, x1⟩
  go_wp2_with fail
  refine (HN2.out _).mono ?_
  rintro e w2 ⟨rfl, x2⟩
  have X2 := Lib.hid (((x1.trans x2).alloc (.cells #[.int .u8 1, .int .i64 a] 24)).alloc (.cells #[.int .u8 1, .int .i64 c] 24))
  clear x1 x2
  go_wp2_with fail
  have hA := (B2.new w2 (.int .u8 1) (.int .i64 a) 24).alloc (.cells #[.int .u8 1, .int .i64 c] 24)
  have hB : B2 ((w2.alloc (.cells #[.int .u8 1, .int .i64 a] 24)).alloc (.cells #[.int .u8 1, .int .i64 c] 24)) (w2.heap.size + 1) (.int .u8 1) (.int .i64 c) 24 := by simpa using B2.new (w2.alloc (.cells #[.int .u8 1, .int .i64 a] 24)) (.int .u8 1) (.int .i64 c) 24
  obtain ⟨w3, hw3⟩ : ∃ w3, w3 = ((w2.alloc (.cells #[.int .u8 1, .int .i64 a] 24)).alloc (.cells #[.int .u8 1, .int .i64 c] 24)) := ⟨_, rfl⟩
  rw [← hw3] at hA hB X2 ⊢
  clear hw3
  have e0 := hA.c0; have e1 := hA.c1; have g0 := hB.c0; have g1 := hB.c1
  have HA := Lib.hid hA; have HB := Lib.hid hB
  clear hA hB
  go_region_held3 (fun w' => w'.cell? ⟨w2.heap.size, 0, none⟩ = some (.int .u8 1) ∧ w'.cell? ⟨w2.heap.size, 1, none⟩ = some (.int .i64 a) ∧ w'.cell? ⟨w2.heap.size + 1, 0, none⟩ = some (.int .u8 1) ∧ w'.cell? ⟨w2.heap.size + 1, 1, none⟩ = some (.int .i64 c)) (first | exact ⟨e0, e1, g0, g1⟩ | exact ⟨q0, q1, q2, q3⟩ | exact ⟨p0, p1, p2, p3⟩ | go_keep) (first
      | (go_at_call_of 11 a; refine (Hs1.out _).mono ?_; rintro e w4 ⟨rfl, x4⟩; have X4 : Hid (Ext w3 w4) := Lib.hid (Ext.trans (by first | exact Ext.refl w3 | exact (Ext.refl w3).drew | exact (Ext.refl w3).drewN _) x4); have q0 := X4.out.cell e0; have q1 := X4.out.cell e1; have q2 := X4.out.cell g0; have q3 := X4.out.cell g1; clear x4)
      | (go_at_call_of 11 c; refine (Hs2.out _).mono ?_; rintro e w5 ⟨rfl, x5⟩; have X5 := Lib.hid (X4.out.trans x5); have p0 := X5.out.cell e0; have p1 := X5.out.cell e1; have p2 := X5.out.cell g0; have p3 := X5.out.cell g1; clear x5))
  go_wp2_with fail
  refine (Hs3.out _).mono ?_
  rintro e w6 ⟨rfl, x6⟩
  have X6 := Lib.hid (X5.out.trans x6)
  clear x6
  go_wp2
  go_loopw [12, 13] (fun many i wx => ∃ k : Nat, k ≤ 40 ∧ i = .int .i64 k ∧ many = .int .i64 (if 1 ≤ a + r ∧ a + r ≤ k then 1 else 0) ∧ Hid (Ext w3 wx)) (fun _ i _ => 40 - (intOf i).toNat)
  case atStart => exact ⟨0, Nat.zero_le _, rfl, by rw [if_neg (by omega)], X6⟩
  case round =>
    obtain ⟨k, hk, rfl, hmany, H⟩ := hrel
    obtain ⟨M, hM⟩ : ∃ M : Int, M = (if 1 ≤ a + r ∧ a + r ≤ k then 1 else 0) := ⟨_, rfl⟩
    rw [← hM] at hmany
    subst hmany
    have HM := Lib.hid hM
    clear hM
    by_cases hlt : k < 40
    · have kb : (k : Int) < 40 := by omega
      have N : Hid (∀ w, Calls Tryd.prog 15 #[.int .u8 k] w fun e w' => e = .returned (.agg #[.int .u8 0, .int .i64 (1 + (k : Int))]) ∧ Ext w w') := fun w => needle_val' k 0 (1 + (k : Int)) w (by omega) (by omega) (by omega) (by omega)
      obtain ⟨V, hV⟩ : ∃ V : Int, V = 4 * (1 + (k : Int)) + 2 := ⟨_, rfl⟩
      have P : Hid (∀ w, Calls Tryd.prog 11 #[.agg #[.int .u8 0, .int .i64 (1 + (k : Int))], .int .i64 r] w fun e w' => e = .returned (.int .i64 V) ∧ Ext w w') := fun w => Spot_val 0 (1 + (k : Int)) r V w (by omega) (by omega) (by rw [hV, nspotF_ok ⟨by omega, by omega, by omega, by omega, by omega⟩]; rfl)
      have v1 : 0 ≤ V := by omega
      have v2 : V ≤ 1000 := by omega
      have HV := Lib.hid hV
      clear hV
      go_wp2_with fail
      refine (N.out _).mono ?_
      rintro e w8 ⟨rfl, x8⟩
      go_wp2_with fail
      refine (P.out _).mono ?_
      rintro e w9 ⟨rfl, x9⟩
      have X9 := Lib.hid (H.out.trans (x8.trans x9))
      clear x8 x9
      by_cases hg : S1 < V
      · by_cases hl : V < S1 + 4
        · have hM0 : M = 0 := by have := HV.out; have := H4.out; rw [HM.out, if_neg (by omega)]
          subst hM0
          go_wp2
          go_roundw
          case rel => exact ⟨k + 1, by omega, by go_num, by have := HV.out; have := H4.out; rw [if_pos (by omega)], X9⟩
          case measure => simp [intOf]; omega
        · go_wp2
          go_roundw
          case rel =>
            have hc : (1 ≤ a + r ∧ a + r ≤ ((k + 1 : Nat) : Int)) ↔ (1 ≤ a + r ∧ a + r ≤ k) := by have := HV.out; have := H4.out; omega
            exact ⟨k + 1, by omega, by go_num, by rw [HM.out]; simp only [hc], X9⟩
          case measure => simp [intOf]; omega
      · have hg' : decide (S1 < V) = false := by simpa using hg
        go_wp2
        go_roundw
        case rel =>
          have hc : (1 ≤ a + r ∧ a + r ≤ ((k + 1 : Nat) : Int)) ↔ (1 ≤ a + r ∧ a + r ≤ k) := by have := HV.out; have := H4.out; omega
          exact ⟨k + 1, by omega, by go_num, by rw [HM.out]; simp only [hc], X9⟩
        case measure => simp [intOf]; omega
    · obtain rfl : k = 40 := by omega
      have z0 := H.out.cell e0; have z1 := H.out.cell e1
      have X := Lib.hid H.out
      clear H
      by_cases hw : 1 ≤ a + r ∧ a + r ≤ 40
      · obtain rfl : M = 1 := by rw [HM.out, if_pos (by omega)]
        obtain ⟨hw1, hw2⟩ := hw
        clear HM
        go_wp2_with fail
        refine (lives_calls _).mono ?_
        rintro e wz ⟨rfl, xz⟩
        go_wp2
        go_ret
        exact ⟨rfl, X2.out.trans (X.out.trans xz)⟩
      · obtain rfl : M = 0 := by rw [HM.out, if_neg (by omega)]
        clear HM
        rcases (show a + r < 1 ∨ 40 < a + r by omega) with hw' | hw'
        all_goals
          clear hw
          go_wp2_with fail
          refine (lives_calls _).mono ?_
          rintro e wz ⟨rfl, xz⟩
          go_wp2
          go_ret
          exact ⟨rfl, X2.out.trans (X.out.trans xz)⟩
set_option maxHeartbeats 2000000 in
theorem Apart_11eq (i j k a c : Int) (w : World) (i1 : 0 ≤ i) (i2 : i ≤ 255) (j1 : 0 ≤ j) (j2 : j ≤ 255) (k1 : 0 ≤ k) (k2 : k ≤ 255) (hb : 1 = i % 80 / 40) (ha : a = 1 + i % 40) (hd : 1 = j % 80 / 40) (hc : c = 1 + j % 40) (hne : a = c) :
    Calls Tryd.prog 7 #[.int .u8 i, .int .u8 j, .int .u8 k] w fun e w' => e = .returned (.bool true) ∧ Ext w w' := by
  subst hne
  obtain ⟨r, hr⟩ : ∃ r, r = k % 8 - 4 := ⟨_, rfl⟩
  have a1 : 1 ≤ a := by omega
  have a2 : a ≤ 40 := by omega
  have c1 : 1 ≤ a := by omega
  have c2 : a ≤ 40 := by omega
  have r1 : -4 ≤ r := by omega
  have r2 : r ≤ 3 := by omega
  have HN1 : Hid (∀ w, Calls Tryd.prog 15 #[.int .u8 i] w fun e w' => e = .returned (.agg #[.int .u8 1, .int .i64 a]) ∧ Ext w w') := fun w => needle_val' i 1 a w i1 i2 hb ha
  have HN2 : Hid (∀ w, Calls Tryd.prog 15 #[.int .u8 j] w fun e w' => e = .returned (.agg #[.int .u8 1, .int .i64 a]) ∧ Ext w w') := fun w => needle_val' j 1 a w j1 j2 hd hc
  have s1 := nspotF_ok (b := 1) (a := a) (r := r) ⟨by omega, a1, a2, r1, by omega⟩
  have s2 := nspotF_ok (b := 1) (a := a) (r := r) ⟨by omega, c1, c2, r1, by omega⟩
  have s3 := nspotF_ok (b := 1) (a := a) (r := r + 1) ⟨by omega, a1, a2, by omega, by omega⟩
  have hS12 : nspot 1 a r = nspot 1 a r := rfl
  obtain ⟨S1, hS1⟩ : ∃ S, S = nspot 1 a r := ⟨_, rfl⟩
  obtain ⟨S2, hS2⟩ : ∃ S, S = nspot 1 a r := ⟨_, rfl⟩
  have hS3 : nspot 1 a (r + 1) = S1 + 4 := by rw [hS1]; unfold nspot; simp; try omega
  obtain rfl : S1 = S2 := by rw [hS1, hS2]
  rw [← hS1] at s1 s2
  rw [hS3] at s3
  have Hs1 : Hid (∀ w, Calls Tryd.prog 11 #[.agg #[.int .u8 1, .int .i64 a], .int .i64 r] w fun e w' => e = .returned (.int .i64 S1) ∧ Ext w w') := fun w => Spot_val 1 a r S1 w (by omega) (by omega) s1
  have Hs2 : Hid (∀ w, Calls Tryd.prog 11 #[.agg #[.int .u8 1, .int .i64 a], .int .i64 r] w fun e w' => e = .returned (.int .i64 S1) ∧ Ext w w') := fun w => Spot_val 1 a r S1 w (by omega) (by omega) s2
  have Hs3 : Hid (∀ w, Calls Tryd.prog 11 #[.agg #[.int .u8 1, .int .i64 a], .int .i64 (r + 1)] w fun e w' => e = .returned (.int .i64 (S1 + 4)) ∧ Ext w w') := fun w => Spot_val 1 a (r + 1) _ w (by omega) (by omega) s3
  have hS4 : S1 = 4 * a + 4 * r := by rw [hS1]; unfold nspot; simp
  have p1 : -100 ≤ S1 := by omega
  have p2 : S1 ≤ 1000 := by omega
  have e12 : (S1 == S1) = true := beq_iff_eq.2 rfl
  have Hr := Lib.hid hr.symm; have H4 := Lib.hid hS4; skip
  clear hb ha hd hc s1 s2 s3 hS2 hr hS12 hS3 hS4
  go_enter Tryd.func7, Tryd.ntmps7
  go_wp2_with fail
  rw [Hr.out]
  refine (HN1.out _).mono ?_
  rintro e w1 ⟨rfl, x1⟩
  go_wp2_with fail
  refine (HN2.out _).mono ?_
  rintro e w2 ⟨rfl, x2⟩
  have X2 := Lib.hid (((x1.trans x2).alloc (.cells #[.int .u8 1, .int .i64 a] 24)).alloc (.cells #[.int .u8 1, .int .i64 a] 24))
  clear x1 x2
  go_wp2_with fail
  have hA := (B2.new w2 (.int .u8 1) (.int .i64 a) 24).alloc (.cells #[.int .u8 1, .int .i64 a] 24)
  have hB : B2 ((w2.alloc (.cells #[.int .u8 1, .int .i64 a] 24)).alloc (.cells #[.int .u8 1, .int .i64 a] 24)) (w2.heap.size + 1) (.int .u8 1) (.int .i64 a) 24 := by simpa using B2.new (w2.alloc (.cells #[.int .u8 1, .int .i64 a] 24)) (.int .u8 1) (.int .i64 a) 24
  obtain ⟨w3, hw3⟩ : ∃ w3, w3 = ((w2.alloc (.cells #[.int .u8 1, .int .i64 a] 24)).alloc (.cells #[.int .u8 1, .int .i64 a] 24)) := ⟨_, rfl⟩
  rw [← hw3] at hA hB X2 ⊢
  clear hw3
  have e0 := hA.c0; have e1 := hA.c1; have g0 := hB.c0; have g1 := hB.c1
  have HA := Lib.hid hA; have HB := Lib.hid hB
  clear hA hB
  have tok1 : True := trivial
  go_region_held3 (fun w' => w'.cell? ⟨w2.heap.size, 0, none⟩ = some (.int .u8 1) ∧ w'.cell? ⟨w2.heap.size, 1, none⟩ = some (.int .i64 a) ∧ w'.cell? ⟨w2.heap.size + 1, 0, none⟩ = some (.int .u8 1) ∧ w'.cell? ⟨w2.heap.size + 1, 1, none⟩ = some (.int .i64 a)) (first | exact ⟨e0, e1, g0, g1⟩ | exact ⟨q0, q1, q2, q3⟩ | exact ⟨p0, p1, p2, p3⟩ | go_keep) (first
      | (go_at_call_of 11 a; have _t := tok1; refine (Hs1.out _).mono ?_; rintro e w4 ⟨rfl, x4⟩; have X4 : Hid (Ext w3 w4) := Lib.hid (Ext.trans (by first | exact Ext.refl w3 | exact (Ext.refl w3).drew | exact (Ext.refl w3).drewN _) x4); have q0 := X4.out.cell e0; have q1 := X4.out.cell e1; have q2 := X4.out.cell g0; have q3 := X4.out.cell g1; clear x4 tok1)
      | (go_at_call_of 11 a; refine (Hs2.out _).mono ?_; rintro e w5 ⟨rfl, x5⟩; have X5 := Lib.hid (X4.out.trans x5); have p0 := X5.out.cell e0; have p1 := X5.out.cell e1; have p2 := X5.out.cell g0; have p3 := X5.out.cell g1; clear x5))
  go_wp2_with fail
  refine (Hs3.out _).mono ?_
  rintro e w6 ⟨rfl, x6⟩
  have X6 := Lib.hid (X5.out.trans x6)
  clear x6
  go_wp2
  go_loopw [12, 13] (fun many i wx => ∃ k : Nat, k ≤ 40 ∧ i = .int .i64 k ∧ many = .int .i64 (if 1 ≤ a + r ∧ a + r ≤ k then 1 else 0) ∧ Hid (Ext w3 wx)) (fun _ i _ => 40 - (intOf i).toNat)
  case atStart => exact ⟨0, Nat.zero_le _, rfl, by rw [if_neg (by omega)], X6⟩
  case round =>
    obtain ⟨k, hk, rfl, hmany, H⟩ := hrel
    obtain ⟨M, hM⟩ : ∃ M : Int, M = (if 1 ≤ a + r ∧ a + r ≤ k then 1 else 0) := ⟨_, rfl⟩
    rw [← hM] at hmany
    subst hmany
    have HM := Lib.hid hM
    clear hM
    by_cases hlt : k < 40
    · have kb : (k : Int) < 40 := by omega
      have N : Hid (∀ w, Calls Tryd.prog 15 #[.int .u8 k] w fun e w' => e = .returned (.agg #[.int .u8 0, .int .i64 (1 + (k : Int))]) ∧ Ext w w') := fun w => needle_val' k 0 (1 + (k : Int)) w (by omega) (by omega) (by omega) (by omega)
      obtain ⟨V, hV⟩ : ∃ V : Int, V = 4 * (1 + (k : Int)) + 2 := ⟨_, rfl⟩
      have P : Hid (∀ w, Calls Tryd.prog 11 #[.agg #[.int .u8 0, .int .i64 (1 + (k : Int))], .int .i64 r] w fun e w' => e = .returned (.int .i64 V) ∧ Ext w w') := fun w => Spot_val 0 (1 + (k : Int)) r V w (by omega) (by omega) (by rw [hV, nspotF_ok ⟨by omega, by omega, by omega, by omega, by omega⟩]; rfl)
      have v1 : 0 ≤ V := by omega
      have v2 : V ≤ 1000 := by omega
      have HV := Lib.hid hV
      clear hV
      go_wp2_with fail
      refine (N.out _).mono ?_
      rintro e w8 ⟨rfl, x8⟩
      go_wp2_with fail
      refine (P.out _).mono ?_
      rintro e w9 ⟨rfl, x9⟩
      have X9 := Lib.hid (H.out.trans (x8.trans x9))
      clear x8 x9
      by_cases hg : S1 < V
      · by_cases hl : V < S1 + 4
        · have hM0 : M = 0 := by have := HV.out; have := H4.out; rw [HM.out, if_neg (by omega)]
          subst hM0
          go_wp2
          go_roundw
          case rel => exact ⟨k + 1, by omega, by go_num, by have := HV.out; have := H4.out; rw [if_pos (by omega)], X9⟩
          case measure => simp [intOf]; omega
        · go_wp2
          go_roundw
          case rel =>
            have hc : (1 ≤ a + r ∧ a + r ≤ ((k + 1 : Nat) : Int)) ↔ (1 ≤ a + r ∧ a + r ≤ k) := by have := HV.out; have := H4.out; omega
            exact ⟨k + 1, by omega, by go_num, by rw [HM.out]; simp only [hc], X9⟩
          case measure => simp [intOf]; omega
      · have hg' : decide (S1 < V) = false := by simpa using hg
        go_wp2
        go_roundw
        case rel =>
          have hc : (1 ≤ a + r ∧ a + r ≤ ((k + 1 : Nat) : Int)) ↔ (1 ≤ a + r ∧ a + r ≤ k) := by have := HV.out; have := H4.out; omega
          exact ⟨k + 1, by omega, by go_num, by rw [HM.out]; simp only [hc], X9⟩
        case measure => simp [intOf]; omega
    · obtain rfl : k = 40 := by omega
      have z0 := H.out.cell e0; have z1 := H.out.cell e1
      have X := Lib.hid H.out
      clear H
      by_cases hw : 1 ≤ a + r ∧ a + r ≤ 40
      · obtain rfl : M = 1 := by rw [HM.out, if_pos (by omega)]
        obtain ⟨hw1, hw2⟩ := hw
        clear HM
        go_wp2_with fail
        refine (lives_calls _).mono ?_
        rintro e wz ⟨rfl, xz⟩
        go_wp2
        go_ret
        exact ⟨rfl, X2.out.trans (X.out.trans xz)⟩
      · obtain rfl : M = 0 := by rw [HM.out, if_neg (by omega)]
        clear HM
        rcases (show a + r < 1 ∨ 40 < a + r by omega) with hw' | hw'
        all_goals
          clear hw
          go_wp2_with fail
          refine (lives_calls _).mono ?_
          rintro e wz ⟨rfl, xz⟩
          go_wp2
          go_ret
          exact ⟨rfl, X2.out.trans (X.out.trans xz)⟩
theorem NeedlesApart_walk (i j k : Int) (w : World) (hi : 0 ≤ i ∧ i ≤ 255) (hj : 0 ≤ j ∧ j ≤ 255) (hk : 0 ≤ k ∧ k ≤ 255) :
    Calls Tryd.prog 7 #[.int .u8 i, .int .u8 j, .int .u8 k] w fun e w' => e = .returned (.bool true) ∧ Ext w w' := by
  rcases (show 0 = i % 80 / 40 ∨ 1 = i % 80 / 40 by omega) with hb | hb <;> rcases (show 0 = j % 80 / 40 ∨ 1 = j % 80 / 40 by omega) with hd | hd
  · by_cases h : 1 + i % 40 = 1 + j % 40
    · exact Apart_00eq i j k _ _ w hi.1 hi.2 hj.1 hj.2 hk.1 hk.2 hb rfl hd rfl h
    · exact Apart_00ne i j k _ _ w hi.1 hi.2 hj.1 hj.2 hk.1 hk.2 hb rfl hd rfl h
  · exact Apart_01ne i j k _ _ w hi.1 hi.2 hj.1 hj.2 hk.1 hk.2 hb rfl hd rfl
  · exact Apart_10ne i j k _ _ w hi.1 hi.2 hj.1 hj.2 hk.1 hk.2 hb rfl hd rfl
  · by_cases h : 1 + i % 40 = 1 + j % 40
    · exact Apart_11eq i j k _ _ w hi.1 hi.2 hj.1 hj.2 hk.1 hk.2 hb rfl hd rfl h
    · exact Apart_11ne i j k _ _ w hi.1 hi.2 hj.1 hj.2 hk.1 hk.2 hb rfl hd rfl h
end Go.Proofs.YthjihkclccpnhaaDoor
