/- The law NeedlesOpposite: its walk. -/
import Derived.Test.YthjihkclccpnhaaDoorNi
import Derived.Deep.RegionHeld3
import Derived.BigRegion
import Derived.Outline
namespace Go.Proofs.YthjihkclccpnhaaDoor
set_option linter.unusedVariables false
set_option linter.unusedSimpArgs false
open Go Go.RowKit

set_option maxHeartbeats 1000000 in
theorem Opposite_bad (b a r : Int) (w : World) (h1 : 0 ≤ b) (h2 : b ≤ 255) (hv : ¬ (b ≤ 1 ∧ 1 ≤ a ∧ a ≤ 40)) :
    Calls Tryd.prog 5 #[.agg #[.int .u8 b, .int .i64 a], .int .i64 r] w fun e w' => e = .returned (.bool true) ∧ Ext w w' := by
  have k1 := nval0 hv
  have K1 := Lib.hid k1; have HV := Lib.hid hv
  clear k1
  clear hv
  go_enter Tryd.func5, Tryd.ntmps5
  have Bn_0 : Hid (B2 (w.alloc (.cells #[.int .u8 b, .int .i64 a] 24)) (w.heap.size) (.int .u8 b) (.int .i64 a) 24) := Lib.hid (by simpa using (B2.new w (.int .u8 b) (.int .i64 a) 24))
  have X_0 := Lib.hid ((Ext.refl w).alloc (.cells #[.int .u8 b, .int .i64 a] 24))
  have c0n_0 := Bn_0.out.c0
  have c1n_0 := Bn_0.out.c1
  have ltn_0 := Bn_0.out.lt
  go_wp2_with fail
  clear c0n_0 c1n_0 ltn_0
  refine (Opp_bad b a r _ h1 h2 HV.out).mono ?_
  rintro e w1 ⟨rfl, x1⟩
  have Bn_1 := Lib.hid (Bn_0.out.ext x1)
  have X_1 := Lib.hid (X_0.out.trans x1)
  clear x1
  have c0n_1 := Bn_1.out.c0
  have c1n_1 := Bn_1.out.c1
  have ltn_1 := Bn_1.out.lt
  go_wp2_with fail
  clear c0n_1 c1n_1 ltn_1
  refine (valid_val b a 0 _ h1 h2 K1.out).mono ?_
  rintro e w2 ⟨rfl, x2⟩
  have Bn_2 := Lib.hid ((Bn_1.out.alloc (.cells #[.int .u8 0, .int .i64 0] 24)).ext x2)
  have Bm_2 := Lib.hid ((B2.new w1 (.int .u8 0) (.int .i64 0) 24).ext x2)
  have X_2 := Lib.hid ((X_1.out.alloc (.cells #[.int .u8 0, .int .i64 0] 24)).trans x2)
  clear x2
  have c0n_2 := Bn_2.out.c0
  have c1n_2 := Bn_2.out.c1
  have ltn_2 := Bn_2.out.lt
  have c0m_2 := Bm_2.out.c0
  have c1m_2 := Bm_2.out.c1
  have ltm_2 := Bm_2.out.lt
  go_wp2_with fail
  clear c0n_2 c1n_2 ltn_2 c0m_2 c1m_2 ltm_2
  refine (lives_calls _).mono ?_
  rintro e w3 ⟨rfl, x3⟩
  have Bn_3 := Lib.hid (Bn_2.out.ext x3)
  have Bm_3 := Lib.hid (Bm_2.out.ext x3)
  have X_3 := Lib.hid (X_2.out.trans x3)
  clear x3
  go_wp2
  go_ret
  exact ⟨rfl, X_3.out⟩

set_option maxHeartbeats 1000000 in
theorem Opposite_rack (b a r : Int) (w : World) (h1 : 0 ≤ b) (h2 : b ≤ 255) (hv : b ≤ 1 ∧ 1 ≤ a ∧ a ≤ 40) (hr : ¬ (-4 ≤ r ∧ r ≤ 4)) :
    Calls Tryd.prog 5 #[.agg #[.int .u8 b, .int .i64 a], .int .i64 r] w fun e w' => e = .returned (.bool true) ∧ Ext w w' := by
  have k1 := nval1 hv
  have K1 := Lib.hid k1; have HV := Lib.hid hv
  clear k1
  have HR := Lib.hid hr
  rcases (show r < -4 ∨ 4 < r by omega) with hr' | hr'
  all_goals
    clear hr hv
    go_enter Tryd.func5, Tryd.ntmps5
    have Bn_0 : Hid (B2 (w.alloc (.cells #[.int .u8 b, .int .i64 a] 24)) (w.heap.size) (.int .u8 b) (.int .i64 a) 24) := Lib.hid (by simpa using (B2.new w (.int .u8 b) (.int .i64 a) 24))
    have X_0 := Lib.hid ((Ext.refl w).alloc (.cells #[.int .u8 b, .int .i64 a] 24))
    have c0n_0 := Bn_0.out.c0
    have c1n_0 := Bn_0.out.c1
    have ltn_0 := Bn_0.out.lt
    go_wp2_with fail
    clear c0n_0 c1n_0 ltn_0
    refine (Opp_rack b a r _ h1 h2 HV.out HR.out).mono ?_
    rintro e w1 ⟨rfl, x1⟩
    have Bn_1 := Lib.hid (Bn_0.out.ext x1)
    have X_1 := Lib.hid (X_0.out.trans x1)
    clear x1
    have c0n_1 := Bn_1.out.c0
    have c1n_1 := Bn_1.out.c1
    have ltn_1 := Bn_1.out.lt
    go_wp2_with fail
    clear c0n_1 c1n_1 ltn_1
    refine (valid_val b a 1 _ h1 h2 K1.out).mono ?_
    rintro e w2 ⟨rfl, x2⟩
    have Bn_2 := Lib.hid ((Bn_1.out.alloc (.cells #[.int .u8 0, .int .i64 0] 24)).ext x2)
    have Bm_2 := Lib.hid ((B2.new w1 (.int .u8 0) (.int .i64 0) 24).ext x2)
    have X_2 := Lib.hid ((X_1.out.alloc (.cells #[.int .u8 0, .int .i64 0] 24)).trans x2)
    clear x2
    have c0n_2 := Bn_2.out.c0
    have c1n_2 := Bn_2.out.c1
    have ltn_2 := Bn_2.out.lt
    have c0m_2 := Bm_2.out.c0
    have c1m_2 := Bm_2.out.c1
    have ltm_2 := Bm_2.out.lt
    go_wp2_with fail
    clear c0n_2 c1n_2 ltn_2 c0m_2 c1m_2 ltm_2
    refine (lives_calls _).mono ?_
    rintro e w3 ⟨rfl, x3⟩
    have Bn_3 := Lib.hid (Bn_2.out.ext x3)
    have Bm_3 := Lib.hid (Bm_2.out.ext x3)
    have X_3 := Lib.hid (X_2.out.trans x3)
    clear x3
    go_wp2
    go_ret
    exact ⟨rfl, X_3.out⟩

set_option maxHeartbeats 4000000 in
set_option maxRecDepth 100000 in
theorem Opposite_0 (a r A mb ma c : Int) (idx : Nat) (w : World) (a1 : 1 ≤ a) (a2 : a ≤ 40) (r1 : -4 ≤ r) (r2 : r ≤ 4) (hA : A = a - r) (hidx : idx ≤ 80)
    (hi1 : 1 ≤ A ∧ A ≤ 40 → (idx : Int) = 40 + A - 1 ∧ mb = 1 ∧ ma = A ∧ c = 0) (hi2 : ¬ (1 ≤ A ∧ A ≤ 40) → idx = 80 ∧ mb = 0 ∧ ma = 0 ∧ c = 11)
    (hcall : ∀ w, Calls Tryd.prog 16 #[.agg #[.int .u8 0, .int .i64 a], .int .i64 r] w (RetNd mb ma c w)) :
    Calls Tryd.prog 5 #[.agg #[.int .u8 0, .int .i64 a], .int .i64 r] w fun e w' => e = .returned (.bool true) ∧ Ext w w' := by
  have k1 := nval1 (b := 0) (a := a) ⟨by omega, a1, a2⟩
  have K1 := Lib.hid k1; have Hc := Lib.hid hcall; have HA := Lib.hid hA; have Hi1 := Lib.hid hi1; have Hi2 := Lib.hid hi2
  have A0 : -100 ≤ A := by omega
  have A9 : A ≤ 100 := by omega
  clear k1 hcall hA hi1 hi2
  go_enter Tryd.func5, Tryd.ntmps5
  have n0 := B2.new w (.int .u8 0) (.int .i64 a) 24
  have N0 := Lib.hid n0
  clear n0
  go_wp2_with fail
  refine (Hc.out _).mono ?_
  rintro e w1 ⟨rfl, x1⟩
  have N1 := Lib.hid (N0.out.ext x1)
  have X1 := Lib.hid (((Ext.refl w).alloc (.cells #[.int .u8 0, .int .i64 a] 24)).trans x1)
  have c0 := N1.out.c0; have c1 := N1.out.c1; have lt := N1.out.lt
  clear x1
  go_wp2_with fail
  clear c0 c1 lt
  refine (valid_val 0 a 1 _ (by omega) (by omega) K1.out).mono ?_
  rintro e w2 ⟨rfl, x2⟩
  have N2 := Lib.hid ((N1.out.alloc (.cells #[.int .u8 mb, .int .i64 ma] 24)).ext x2)
  have M2 := Lib.hid ((B2.new w1 (.int .u8 mb) (.int .i64 ma) 24).ext x2)
  have X2 := Lib.hid ((X1.out.alloc (.cells #[.int .u8 mb, .int .i64 ma] 24)).trans x2)
  clear x2
  go_wp2
  go_loopw [7] (fun i wx => ∃ k : Nat, k ≤ idx ∧ i = .int .i64 k ∧ Hid (Ext w2 wx)) (fun i _ => 81 - (intOf i).toNat)
  case atStart => exact ⟨0, Nat.zero_le _, rfl, Lib.hid (Ext.refl _)⟩
  case round =>
    obtain ⟨k, hk, rfl, H⟩ := hrel
    by_cases hlt : k < 80
    · have kb : (k : Int) < 80 := by omega
      have c0 := (N2.out.ext H.out).c0; have c1 := (N2.out.ext H.out).c1; have lt := (N2.out.ext H.out).lt
      by_cases h40 : k < 40
      · have N : Hid (∀ w, Calls Tryd.prog 15 #[.int .u8 k] w fun e w' => e = .returned (.agg #[.int .u8 0, .int .i64 (1 + (k : Int))]) ∧ Ext w w') := fun w => needle_val' k 0 (1 + (k : Int)) w (by omega) (by omega) (by omega) (by omega)
        go_wp2_with fail
        refine (N.out _).mono ?_
        rintro e w3 ⟨rfl, x3⟩
        have X3 := Lib.hid (H.out.trans (x3.alloc (.cells #[.int .u8 0, .int .i64 (1 + (k : Int))] 24)))
        have c0' := x3.cell c0; have c1' := x3.cell c1; have lt' := Nat.lt_of_lt_of_le lt x3.size
        have hne : k < idx := by
          rcases Nat.lt_or_ge k idx with h | h
          · exact h
          · by_cases hA : 1 ≤ A ∧ A ≤ 40
            · have := Hi1.out hA; omega
            · have := Hi2.out hA; omega
        clear x3
        go_wp2
        go_roundw
        case rel => exact ⟨k + 1, by omega, by go_num, X3⟩
        case measure => simp [intOf]; omega
      · have N : Hid (∀ w, Calls Tryd.prog 15 #[.int .u8 k] w fun e w' => e = .returned (.agg #[.int .u8 1, .int .i64 ((k : Int) - 39)]) ∧ Ext w w') := fun w => needle_val' k 1 ((k : Int) - 39) w (by omega) (by omega) (by omega) (by omega)
        by_cases he : k = idx
        · have hAin : 1 ≤ A ∧ A ≤ 40 := by
            rcases Decidable.em (1 ≤ A ∧ A ≤ 40) with h | h
            · exact h
            · have := Hi2.out h; omega
          obtain ⟨i1, hmb, hma, hcc⟩ := Hi1.out hAin
          subst hmb
          subst hcc
          have hma' := hma.symm
          subst hma'
          clear hma
          have hxv : (k : Int) - 39 = A := by rw [← he] at i1; omega
          rw [hxv] at N
          obtain ⟨A1, A2⟩ := hAin
          have hq : (a != A + r) = false := by have := HA.out; rw [bne_eq_false_iff_eq]; omega
          have hback : A + r = a := by have := HA.out; omega
          have hopp : Hid (∀ w, Calls Tryd.prog 16 #[.agg #[.int .u8 1, .int .i64 A], .int .i64 r] w (RetNd 0 a 0 w)) := fun w => by
            have := Opp_bok 1 A r w rfl A1 A2 r1 r2 (by omega) (by omega)
            rwa [hback] at this
          have s1 := nspotF_ok (b := 0) (a := a) (r := r) ⟨by omega, a1, a2, r1, r2⟩
          have s2 := nspotF_ok (b := 1) (a := A) (r := r) ⟨by omega, A1, A2, r1, r2⟩
          obtain ⟨S1, hS1⟩ : ∃ S, S = nspot 0 a r := ⟨_, rfl⟩
          obtain ⟨S2, hS2⟩ : ∃ S, S = nspot 1 A r := ⟨_, rfl⟩
          rw [← hS1] at s1
          rw [← hS2] at s2
          have hsp : (S1 == S2 + 2) = true := by have := HA.out; rw [beq_iff_eq, hS1, hS2]; unfold nspot; simp; omega
          have sb : -10000 ≤ S2 ∧ S2 ≤ 10000 := by have := HA.out; rw [hS2]; unfold nspot; simp; omega
          obtain ⟨sb1, sb2⟩ := sb
          have hwr : IntKind.i64.wrap (S2 + 2) = S2 + 2 := IntWalk.i64_in _ ⟨by omega, by omega⟩
          have HWR := Lib.hid hwr
          clear hwr
          have Hs1 : Hid (∀ w, Calls Tryd.prog 11 #[.agg #[.int .u8 0, .int .i64 a], .int .i64 r] w fun e w' => e = .returned (.int .i64 S1) ∧ Ext w w') := fun w => Spot_val 0 a r S1 w (by omega) (by omega) s1
          have Hs2 : Hid (∀ w, Calls Tryd.prog 11 #[.agg #[.int .u8 1, .int .i64 A], .int .i64 r] w fun e w' => e = .returned (.int .i64 S2) ∧ Ext w w') := fun w => Spot_val 1 A r S2 w (by omega) (by omega) s2
          clear hxv hback s1 s2 hS1 hS2 i1 he
          go_wp2_with fail
          refine (N.out _).mono ?_
          rintro e w3 ⟨rfl, x3⟩
          have X3 := Lib.hid (H.out.trans x3)
          have c0' := x3.cell c0; have c1' := x3.cell c1; have lt' := Nat.lt_of_lt_of_le lt x3.size
          clear x3
          go_wp2
          have hx4 := B2.new w3 (.int .u8 1) (.int .i64 A) 24
          have hn4 := (N2.out.ext X3.out).alloc (.cells #[.int .u8 1, .int .i64 A] 24)
          have hm4 := (M2.out.ext X3.out).alloc (.cells #[.int .u8 1, .int .i64 A] 24)
          have hX4 := X3.out.alloc (.cells #[.int .u8 1, .int .i64 A] 24)
          obtain ⟨w4, hw4⟩ : ∃ w4, w4 = w3.alloc (.cells #[.int .u8 1, .int .i64 A] 24) := ⟨_, rfl⟩
          rw [← hw4] at hx4 hn4 hm4 hX4 ⊢
          have X4 := Lib.hid hX4
          have d0 := hx4.c0; have d1 := hx4.c1; have d2 := hx4.lt
          have e0 := hn4.c0; have e1 := hn4.c1; have e2 := hn4.lt
          have m0 := hm4.c0; have m1 := hm4.c1; have m2 := hm4.lt
          have d3 : w3.heap.size < w4.heap.size + 1 := by omega
          have e3 : w.heap.size < w4.heap.size + 1 := by omega
          have m3 : w1.heap.size < w4.heap.size + 1 := by omega
          clear hw4 hx4 hn4 hm4 hX4 c0' c1' lt' c0 c1 lt
          go_region
          · go_wp2_with fail
            refine (hopp.out _).mono ?_
            rintro e w5 ⟨rfl, x5⟩
            have y5 := ((((Ext.refl w4).alloc _).alloc _).drew).trans x5
            have bx := (B2.new w4 (.int .u8 0) (.int .i64 a) 24).alloc (.cells #[.int .u8 1, .int .i64 A] 24)
            have bf : B2 ((w4.alloc (.cells #[.int .u8 0, .int .i64 a] 24)).alloc (.cells #[.int .u8 1, .int .i64 A] 24)) (w4.heap.size + 1) (.int .u8 1) (.int .i64 A) 24 := by simpa using B2.new (w4.alloc (.cells #[.int .u8 0, .int .i64 a] 24)) (.int .u8 1) (.int .i64 A) 24
            have bx5 := bx.ext (((Ext.refl _).drew).trans x5)
            have bf5 := bf.ext (((Ext.refl _).drew).trans x5)
            have BX := Lib.hid bx5; have BF := Lib.hid bf5
            have X5 := Lib.hid (X4.out.trans y5)
            have YA := Lib.hid (y5.cell e0); have YB := Lib.hid (y5.cell e1); have YC := Lib.hid (y5.cell m0); have YD := Lib.hid (y5.cell m1); have YE := Lib.hid (y5.cell d0); have YF := Lib.hid (y5.cell d1)
            clear y5 bx bf bx5 bf5 x5 d0 d1 d2 d3 e0 e1 e2 e3 m0 m1 m2 m3
            go_wp2_with fail
            have hag := B2.new w5 (.int .u8 0) (.int .i64 a) 24
            have ha := (Ext.refl w5).alloc (.cells #[.int .u8 0, .int .i64 a] 24)
            have bx6 := BX.out.ext ha; have bf6 := BF.out.ext ha
            have f0 := ha.cell YA.out; have f1 := ha.cell YB.out; have f2 := ha.cell YC.out; have f3 := ha.cell YD.out; have f4 := ha.cell YE.out; have f5 := ha.cell YF.out; have f6 := hag.c0; have f7 := hag.c1; have f8 := bx6.c0; have f9 := bx6.c1; have f10 := bf6.c0; have f11 := bf6.c1
            obtain ⟨w6, hw6⟩ : ∃ w6, w6 = w5.alloc (.cells #[.int .u8 0, .int .i64 a] 24) := ⟨_, rfl⟩
            rw [← hw6] at f0 f1 f2 f3 f4 f5 f6 f7 f8 f9 f10 f11 ha ⊢
            have X6 := Lib.hid (X2.out.trans (X5.out.trans ha))
            clear hw6 hag ha bx6 bf6 BX BF YA YB YC YD YE YF
            have hwr := HWR.out
            go_region_held3 (fun w' => w'.cell? ⟨w.heap.size, 0, none⟩ = some (.int .u8 0) ∧ w'.cell? ⟨w.heap.size, 1, none⟩ = some (.int .i64 a) ∧ w'.cell? ⟨w1.heap.size, 0, none⟩ = some (.int .u8 1) ∧ w'.cell? ⟨w1.heap.size, 1, none⟩ = some (.int .i64 A) ∧ w'.cell? ⟨w3.heap.size, 0, none⟩ = some (.int .u8 1) ∧ w'.cell? ⟨w3.heap.size, 1, none⟩ = some (.int .i64 A) ∧ w'.cell? ⟨w5.heap.size, 0, none⟩ = some (.int .u8 0) ∧ w'.cell? ⟨w5.heap.size, 1, none⟩ = some (.int .i64 a) ∧ w'.cell? ⟨w4.heap.size, 0, none⟩ = some (.int .u8 0) ∧ w'.cell? ⟨w4.heap.size, 1, none⟩ = some (.int .i64 a) ∧ w'.cell? ⟨w4.heap.size + 1, 0, none⟩ = some (.int .u8 1) ∧ w'.cell? ⟨w4.heap.size + 1, 1, none⟩ = some (.int .i64 A)) (first | exact ⟨f0, f1, f2, f3, f4, f5, f6, f7, f8, f9, f10, f11⟩ | exact ⟨q0, q1, q2, q3, q4, q5, q6, q7, q8, q9, q10, q11⟩ | exact ⟨p0, p1, p2, p3, p4, p5, p6, p7, p8, p9, p10, p11⟩ | exact ⟨t0, t1, t2, t3, t4, t5, t6, t7, t8, t9, t10, t11⟩ | go_keep) (first
              | (go_at_call_of 11 a; refine (Hs1.out _).mono ?_; rintro e w7 ⟨rfl, x7⟩; have Z7 : Hid (Ext w6 w7) := Lib.hid (Ext.trans (by first | exact Ext.refl w6 | exact (Ext.refl w6).drew | exact (Ext.refl w6).drewN _) x7); have q0 := Z7.out.cell f0; have q1 := Z7.out.cell f1; have q2 := Z7.out.cell f2; have q3 := Z7.out.cell f3; have q4 := Z7.out.cell f4; have q5 := Z7.out.cell f5; have q6 := Z7.out.cell f6; have q7 := Z7.out.cell f7; have q8 := Z7.out.cell f8; have q9 := Z7.out.cell f9; have q10 := Z7.out.cell f10; have q11 := Z7.out.cell f11; clear x7)
              | (go_at_call_of 11 A; refine (Hs2.out _).mono ?_; rintro e w8 ⟨rfl, x8⟩; have Z8 := Lib.hid (Z7.out.trans x8); have p0 := Z8.out.cell f0; have p1 := Z8.out.cell f1; have p2 := Z8.out.cell f2; have p3 := Z8.out.cell f3; have p4 := Z8.out.cell f4; have p5 := Z8.out.cell f5; have p6 := Z8.out.cell f6; have p7 := Z8.out.cell f7; have p8 := Z8.out.cell f8; have p9 := Z8.out.cell f9; have p10 := Z8.out.cell f10; have p11 := Z8.out.cell f11; clear x8)
              | (go_at_call 12; refine (lives_calls _).mono ?_; rintro e w9 ⟨rfl, x9⟩; have Z9 := Lib.hid (Z8.out.trans x9); have t0 := Z9.out.cell f0; have t1 := Z9.out.cell f1; have t2 := Z9.out.cell f2; have t3 := Z9.out.cell f3; have t4 := Z9.out.cell f4; have t5 := Z9.out.cell f5; have t6 := Z9.out.cell f6; have t7 := Z9.out.cell f7; have t8 := Z9.out.cell f8; have t9 := Z9.out.cell f9; have t10 := Z9.out.cell f10; have t11 := Z9.out.cell f11; clear x9))
            go_wp2
            go_ret
            exact ⟨rfl, X6.out.trans Z9.out⟩
          · go_wp2_with fail
            refine (hopp.out _).mono ?_
            rintro e w5 ⟨rfl, x5⟩
            have y5 := ((((Ext.refl w4).alloc _).alloc _).drew).trans x5
            have bx := (B2.new w4 (.int .u8 1) (.int .i64 A) 24).alloc (.cells #[.int .u8 0, .int .i64 a] 24)
            have bf : B2 ((w4.alloc (.cells #[.int .u8 1, .int .i64 A] 24)).alloc (.cells #[.int .u8 0, .int .i64 a] 24)) (w4.heap.size + 1) (.int .u8 0) (.int .i64 a) 24 := by simpa using B2.new (w4.alloc (.cells #[.int .u8 1, .int .i64 A] 24)) (.int .u8 0) (.int .i64 a) 24
            have bx5 := bx.ext (((Ext.refl _).drew).trans x5)
            have bf5 := bf.ext (((Ext.refl _).drew).trans x5)
            have BX := Lib.hid bx5; have BF := Lib.hid bf5
            have X5 := Lib.hid (X4.out.trans y5)
            have YA := Lib.hid (y5.cell e0); have YB := Lib.hid (y5.cell e1); have YC := Lib.hid (y5.cell m0); have YD := Lib.hid (y5.cell m1); have YE := Lib.hid (y5.cell d0); have YF := Lib.hid (y5.cell d1)
            clear y5 bx bf bx5 bf5 x5 d0 d1 d2 d3 e0 e1 e2 e3 m0 m1 m2 m3
            go_wp2_with fail
            have hag := B2.new w5 (.int .u8 0) (.int .i64 a) 24
            have ha := (Ext.refl w5).alloc (.cells #[.int .u8 0, .int .i64 a] 24)
            have bx6 := BX.out.ext ha; have bf6 := BF.out.ext ha
            have f0 := ha.cell YA.out; have f1 := ha.cell YB.out; have f2 := ha.cell YC.out; have f3 := ha.cell YD.out; have f4 := ha.cell YE.out; have f5 := ha.cell YF.out; have f6 := hag.c0; have f7 := hag.c1; have f8 := bf6.c0; have f9 := bf6.c1; have f10 := bx6.c0; have f11 := bx6.c1
            obtain ⟨w6, hw6⟩ : ∃ w6, w6 = w5.alloc (.cells #[.int .u8 0, .int .i64 a] 24) := ⟨_, rfl⟩
            rw [← hw6] at f0 f1 f2 f3 f4 f5 f6 f7 f8 f9 f10 f11 ha ⊢
            have X6 := Lib.hid (X2.out.trans (X5.out.trans ha))
            clear hw6 hag ha bx6 bf6 BX BF YA YB YC YD YE YF
            have hwr := HWR.out
            go_region_held3 (fun w' => w'.cell? ⟨w.heap.size, 0, none⟩ = some (.int .u8 0) ∧ w'.cell? ⟨w.heap.size, 1, none⟩ = some (.int .i64 a) ∧ w'.cell? ⟨w1.heap.size, 0, none⟩ = some (.int .u8 1) ∧ w'.cell? ⟨w1.heap.size, 1, none⟩ = some (.int .i64 A) ∧ w'.cell? ⟨w3.heap.size, 0, none⟩ = some (.int .u8 1) ∧ w'.cell? ⟨w3.heap.size, 1, none⟩ = some (.int .i64 A) ∧ w'.cell? ⟨w5.heap.size, 0, none⟩ = some (.int .u8 0) ∧ w'.cell? ⟨w5.heap.size, 1, none⟩ = some (.int .i64 a) ∧ w'.cell? ⟨w4.heap.size + 1, 0, none⟩ = some (.int .u8 0) ∧ w'.cell? ⟨w4.heap.size + 1, 1, none⟩ = some (.int .i64 a) ∧ w'.cell? ⟨w4.heap.size, 0, none⟩ = some (.int .u8 1) ∧ w'.cell? ⟨w4.heap.size, 1, none⟩ = some (.int .i64 A)) (first | exact ⟨f0, f1, f2, f3, f4, f5, f6, f7, f8, f9, f10, f11⟩ | exact ⟨q0, q1, q2, q3, q4, q5, q6, q7, q8, q9, q10, q11⟩ | exact ⟨p0, p1, p2, p3, p4, p5, p6, p7, p8, p9, p10, p11⟩ | exact ⟨t0, t1, t2, t3, t4, t5, t6, t7, t8, t9, t10, t11⟩ | go_keep) (first
              | (go_at_call_of 11 a; refine (Hs1.out _).mono ?_; rintro e w7 ⟨rfl, x7⟩; have Z7 : Hid (Ext w6 w7) := Lib.hid (Ext.trans (by first | exact Ext.refl w6 | exact (Ext.refl w6).drew | exact (Ext.refl w6).drewN _) x7); have q0 := Z7.out.cell f0; have q1 := Z7.out.cell f1; have q2 := Z7.out.cell f2; have q3 := Z7.out.cell f3; have q4 := Z7.out.cell f4; have q5 := Z7.out.cell f5; have q6 := Z7.out.cell f6; have q7 := Z7.out.cell f7; have q8 := Z7.out.cell f8; have q9 := Z7.out.cell f9; have q10 := Z7.out.cell f10; have q11 := Z7.out.cell f11; clear x7)
              | (go_at_call_of 11 A; refine (Hs2.out _).mono ?_; rintro e w8 ⟨rfl, x8⟩; have Z8 := Lib.hid (Z7.out.trans x8); have p0 := Z8.out.cell f0; have p1 := Z8.out.cell f1; have p2 := Z8.out.cell f2; have p3 := Z8.out.cell f3; have p4 := Z8.out.cell f4; have p5 := Z8.out.cell f5; have p6 := Z8.out.cell f6; have p7 := Z8.out.cell f7; have p8 := Z8.out.cell f8; have p9 := Z8.out.cell f9; have p10 := Z8.out.cell f10; have p11 := Z8.out.cell f11; clear x8)
              | (go_at_call 12; refine (lives_calls _).mono ?_; rintro e w9 ⟨rfl, x9⟩; have Z9 := Lib.hid (Z8.out.trans x9); have t0 := Z9.out.cell f0; have t1 := Z9.out.cell f1; have t2 := Z9.out.cell f2; have t3 := Z9.out.cell f3; have t4 := Z9.out.cell f4; have t5 := Z9.out.cell f5; have t6 := Z9.out.cell f6; have t7 := Z9.out.cell f7; have t8 := Z9.out.cell f8; have t9 := Z9.out.cell f9; have t10 := Z9.out.cell f10; have t11 := Z9.out.cell f11; clear x9))
            go_wp2
            go_ret
            exact ⟨rfl, X6.out.trans Z9.out⟩
        · have hne : a ≠ ((k : Int) - 39) + r := fun h => he (by
            by_cases hA : 1 ≤ A ∧ A ≤ 40
            · have := Hi1.out hA; have := HA.out; omega
            · have := HA.out; omega)
          have hne' : (a != ((k : Int) - 39) + r) = true := by rw [bne_iff_ne]; exact hne
          have hki : k < idx := by omega
          have HE := Lib.hid he
          clear hne he
          go_wp2_with fail
          refine (N.out _).mono ?_
          rintro e w3 ⟨rfl, x3⟩
          have X3 := Lib.hid (H.out.trans x3)
          have c0' := x3.cell c0; have c1' := x3.cell c1; have lt' := Nat.lt_of_lt_of_le lt x3.size
          clear x3
          go_wp2
          have hx4 := B2.new w3 (.int .u8 1) (.int .i64 ((k : Int) - 39)) 24
          have hn4 := (N2.out.ext X3.out).alloc (.cells #[.int .u8 1, .int .i64 ((k : Int) - 39)] 24)
          have hX4 := X3.out.alloc (.cells #[.int .u8 1, .int .i64 ((k : Int) - 39)] 24)
          obtain ⟨w4, hw4⟩ : ∃ w4, w4 = w3.alloc (.cells #[.int .u8 1, .int .i64 ((k : Int) - 39)] 24) := ⟨_, rfl⟩
          rw [← hw4] at hx4 hn4 hX4 ⊢
          have X4 := Lib.hid hX4
          have d0 := hx4.c0; have d1 := hx4.c1; have d2 := hx4.lt
          have e0 := hn4.c0; have e1 := hn4.c1; have e2 := hn4.lt
          have d3 : w3.heap.size < w4.heap.size + 1 := by omega
          have e3 : w.heap.size < w4.heap.size + 1 := by omega
          clear hw4 hx4 hn4 hX4 c0' c1' lt' c0 c1 lt
          go_region
          all_goals
            go_wp2
            refine ⟨⟨k + 1, by omega, by go_num, Lib.hid ?_⟩, by simp [intOf]; omega⟩
            exact ((X4.out.alloc _).alloc _).drew
    · have hid : ¬ (1 ≤ A ∧ A ≤ 40) := fun h => by have := Hi1.out h; omega
      obtain ⟨he, rfl, rfl, rfl⟩ := Hi2.out hid
      have m0 := (M2.out.ext H.out).c0; have m1 := (M2.out.ext H.out).c1; have ltm := (M2.out.ext H.out).lt
      have HX := Lib.hid (X2.out.trans H.out)
      clear hid he
      obtain rfl : k = 80 := by omega
      go_wp2_with fail
      refine (lives_calls _).mono ?_
      rintro e wz ⟨rfl, xz⟩
      go_wp2
      go_ret
      exact ⟨rfl, HX.out.trans xz⟩

set_option maxHeartbeats 4000000 in
set_option maxRecDepth 100000 in
theorem Opposite_1 (a r A mb ma c : Int) (idx : Nat) (w : World) (a1 : 1 ≤ a) (a2 : a ≤ 40) (r1 : -4 ≤ r) (r2 : r ≤ 4) (hA : A = a + r) (hidx : idx ≤ 80)
    (hi1 : 1 ≤ A ∧ A ≤ 40 → (idx : Int) = 0 + A - 1 ∧ mb = 0 ∧ ma = A ∧ c = 0) (hi2 : ¬ (1 ≤ A ∧ A ≤ 40) → idx = 80 ∧ mb = 0 ∧ ma = 0 ∧ c = 11)
    (hcall : ∀ w, Calls Tryd.prog 16 #[.agg #[.int .u8 1, .int .i64 a], .int .i64 r] w (RetNd mb ma c w)) :
    Calls Tryd.prog 5 #[.agg #[.int .u8 1, .int .i64 a], .int .i64 r] w fun e w' => e = .returned (.bool true) ∧ Ext w w' := by
  have k1 := nval1 (b := 1) (a := a) ⟨by omega, a1, a2⟩
  have K1 := Lib.hid k1; have Hc := Lib.hid hcall; have HA := Lib.hid hA; have Hi1 := Lib.hid hi1; have Hi2 := Lib.hid hi2
  have A0 : -100 ≤ A := by omega
  have A9 : A ≤ 100 := by omega
  clear k1 hcall hA hi1 hi2
  go_enter Tryd.func5, Tryd.ntmps5
  have n0 := B2.new w (.int .u8 1) (.int .i64 a) 24
  have N0 := Lib.hid n0
  clear n0
  go_wp2_with fail
  refine (Hc.out _).mono ?_
  rintro e w1 ⟨rfl, x1⟩
  have N1 := Lib.hid (N0.out.ext x1)
  have X1 := Lib.hid (((Ext.refl w).alloc (.cells #[.int .u8 1, .int .i64 a] 24)).trans x1)
  have c0 := N1.out.c0; have c1 := N1.out.c1; have lt := N1.out.lt
  clear x1
  go_wp2_with fail
  clear c0 c1 lt
  refine (valid_val 1 a 1 _ (by omega) (by omega) K1.out).mono ?_
  rintro e w2 ⟨rfl, x2⟩
  have N2 := Lib.hid ((N1.out.alloc (.cells #[.int .u8 mb, .int .i64 ma] 24)).ext x2)
  have M2 := Lib.hid ((B2.new w1 (.int .u8 mb) (.int .i64 ma) 24).ext x2)
  have X2 := Lib.hid ((X1.out.alloc (.cells #[.int .u8 mb, .int .i64 ma] 24)).trans x2)
  clear x2
  go_wp2
  go_loopw [7] (fun i wx => ∃ k : Nat, k ≤ idx ∧ i = .int .i64 k ∧ Hid (Ext w2 wx)) (fun i _ => 81 - (intOf i).toNat)
  case atStart => exact ⟨0, Nat.zero_le _, rfl, Lib.hid (Ext.refl _)⟩
  case round =>
    obtain ⟨k, hk, rfl, H⟩ := hrel
    by_cases hlt : k < 80
    · have kb : (k : Int) < 80 := by omega
      have c0 := (N2.out.ext H.out).c0; have c1 := (N2.out.ext H.out).c1; have lt := (N2.out.ext H.out).lt
      by_cases h40 : k < 40
      · have N : Hid (∀ w, Calls Tryd.prog 15 #[.int .u8 k] w fun e w' => e = .returned (.agg #[.int .u8 0, .int .i64 (1 + (k : Int))]) ∧ Ext w w') := fun w => needle_val' k 0 (1 + (k : Int)) w (by omega) (by omega) (by omega) (by omega)
        by_cases he : k = idx
        · have hAin : 1 ≤ A ∧ A ≤ 40 := by
            rcases Decidable.em (1 ≤ A ∧ A ≤ 40) with h | h
            · exact h
            · have := Hi2.out h; omega
          obtain ⟨i1, hmb, hma, hcc⟩ := Hi1.out hAin
          subst hmb
          subst hcc
          have hma' := hma.symm
          subst hma'
          clear hma
          have hxv : 1 + (k : Int) = A := by rw [← he] at i1; omega
          rw [hxv] at N
          obtain ⟨A1, A2⟩ := hAin
          have hq : (A != a + r) = false := by have := HA.out; rw [bne_eq_false_iff_eq]; omega
          have hback : A - r = a := by have := HA.out; omega
          have hopp : Hid (∀ w, Calls Tryd.prog 16 #[.agg #[.int .u8 0, .int .i64 A], .int .i64 r] w (RetNd 1 a 0 w)) := fun w => by
            have := Opp_fok 0 A r w rfl A1 A2 r1 r2 (by omega) (by omega)
            rwa [hback] at this
          have s1 := nspotF_ok (b := 1) (a := a) (r := r) ⟨by omega, a1, a2, r1, r2⟩
          have s2 := nspotF_ok (b := 0) (a := A) (r := r) ⟨by omega, A1, A2, r1, r2⟩
          obtain ⟨S1, hS1⟩ : ∃ S, S = nspot 1 a r := ⟨_, rfl⟩
          obtain ⟨S2, hS2⟩ : ∃ S, S = nspot 0 A r := ⟨_, rfl⟩
          rw [← hS1] at s1
          rw [← hS2] at s2
          have hsp : (S2 == S1 + 2) = true := by have := HA.out; rw [beq_iff_eq, hS1, hS2]; unfold nspot; simp; omega
          have sb : -10000 ≤ S1 ∧ S1 ≤ 10000 := by have := HA.out; rw [hS1]; unfold nspot; simp; omega
          obtain ⟨sb1, sb2⟩ := sb
          have hwr : IntKind.i64.wrap (S1 + 2) = S1 + 2 := IntWalk.i64_in _ ⟨by omega, by omega⟩
          have HWR := Lib.hid hwr
          clear hwr
          have Hs1 : Hid (∀ w, Calls Tryd.prog 11 #[.agg #[.int .u8 1, .int .i64 a], .int .i64 r] w fun e w' => e = .returned (.int .i64 S1) ∧ Ext w w') := fun w => Spot_val 1 a r S1 w (by omega) (by omega) s1
          have Hs2 : Hid (∀ w, Calls Tryd.prog 11 #[.agg #[.int .u8 0, .int .i64 A], .int .i64 r] w fun e w' => e = .returned (.int .i64 S2) ∧ Ext w w') := fun w => Spot_val 0 A r S2 w (by omega) (by omega) s2
          clear hxv hback s1 s2 hS1 hS2 i1 he
          go_wp2_with fail
          refine (N.out _).mono ?_
          rintro e w3 ⟨rfl, x3⟩
          have X3 := Lib.hid (H.out.trans x3)
          have c0' := x3.cell c0; have c1' := x3.cell c1; have lt' := Nat.lt_of_lt_of_le lt x3.size
          clear x3
          go_wp2
          have hx4 := B2.new w3 (.int .u8 0) (.int .i64 A) 24
          have hn4 := (N2.out.ext X3.out).alloc (.cells #[.int .u8 0, .int .i64 A] 24)
          have hm4 := (M2.out.ext X3.out).alloc (.cells #[.int .u8 0, .int .i64 A] 24)
          have hX4 := X3.out.alloc (.cells #[.int .u8 0, .int .i64 A] 24)
          obtain ⟨w4, hw4⟩ : ∃ w4, w4 = w3.alloc (.cells #[.int .u8 0, .int .i64 A] 24) := ⟨_, rfl⟩
          rw [← hw4] at hx4 hn4 hm4 hX4 ⊢
          have X4 := Lib.hid hX4
          have d0 := hx4.c0; have d1 := hx4.c1; have d2 := hx4.lt
          have e0 := hn4.c0; have e1 := hn4.c1; have e2 := hn4.lt
          have m0 := hm4.c0; have m1 := hm4.c1; have m2 := hm4.lt
          have d3 : w3.heap.size < w4.heap.size + 1 := by omega
          have e3 : w.heap.size < w4.heap.size + 1 := by omega
          have m3 : w1.heap.size < w4.heap.size + 1 := by omega
          clear hw4 hx4 hn4 hm4 hX4 c0' c1' lt' c0 c1 lt
          go_region
          · go_wp2_with fail
            go_region
            go_wp2_with fail
            refine (hopp.out _).mono ?_
            rintro e w5 ⟨rfl, x5⟩
            have y5 := ((((Ext.refl w4).alloc _).alloc _).drew.drew).trans x5
            have bx := (B2.new w4 (.int .u8 0) (.int .i64 A) 24).alloc (.cells #[.int .u8 1, .int .i64 a] 24)
            have bf : B2 ((w4.alloc (.cells #[.int .u8 0, .int .i64 A] 24)).alloc (.cells #[.int .u8 1, .int .i64 a] 24)) (w4.heap.size + 1) (.int .u8 1) (.int .i64 a) 24 := by simpa using B2.new (w4.alloc (.cells #[.int .u8 0, .int .i64 A] 24)) (.int .u8 1) (.int .i64 a) 24
            have bx5 := bx.ext (((Ext.refl _).drew.drew).trans x5)
            have bf5 := bf.ext (((Ext.refl _).drew.drew).trans x5)
            have BX := Lib.hid bx5; have BF := Lib.hid bf5
            have X5 := Lib.hid (X4.out.trans y5)
            have YA := Lib.hid (y5.cell e0); have YB := Lib.hid (y5.cell e1); have YC := Lib.hid (y5.cell m0); have YD := Lib.hid (y5.cell m1); have YE := Lib.hid (y5.cell d0); have YF := Lib.hid (y5.cell d1)
            clear y5 bx bf bx5 bf5 x5 d0 d1 d2 d3 e0 e1 e2 e3 m0 m1 m2 m3
            go_wp2_with fail
            have hag := B2.new w5 (.int .u8 1) (.int .i64 a) 24
            have ha := (Ext.refl w5).alloc (.cells #[.int .u8 1, .int .i64 a] 24)
            have bx6 := BX.out.ext ha; have bf6 := BF.out.ext ha
            have f0 := ha.cell YA.out; have f1 := ha.cell YB.out; have f2 := ha.cell YC.out; have f3 := ha.cell YD.out; have f4 := ha.cell YE.out; have f5 := ha.cell YF.out; have f6 := hag.c0; have f7 := hag.c1; have f8 := bx6.c0; have f9 := bx6.c1; have f10 := bf6.c0; have f11 := bf6.c1
            obtain ⟨w6, hw6⟩ : ∃ w6, w6 = w5.alloc (.cells #[.int .u8 1, .int .i64 a] 24) := ⟨_, rfl⟩
            rw [← hw6] at f0 f1 f2 f3 f4 f5 f6 f7 f8 f9 f10 f11 ha ⊢
            have X6 := Lib.hid (X2.out.trans (X5.out.trans ha))
            clear hw6 hag ha bx6 bf6 BX BF YA YB YC YD YE YF
            have hwr := HWR.out
            go_region_held3 (fun w' => w'.cell? ⟨w.heap.size, 0, none⟩ = some (.int .u8 1) ∧ w'.cell? ⟨w.heap.size, 1, none⟩ = some (.int .i64 a) ∧ w'.cell? ⟨w1.heap.size, 0, none⟩ = some (.int .u8 0) ∧ w'.cell? ⟨w1.heap.size, 1, none⟩ = some (.int .i64 A) ∧ w'.cell? ⟨w3.heap.size, 0, none⟩ = some (.int .u8 0) ∧ w'.cell? ⟨w3.heap.size, 1, none⟩ = some (.int .i64 A) ∧ w'.cell? ⟨w5.heap.size, 0, none⟩ = some (.int .u8 1) ∧ w'.cell? ⟨w5.heap.size, 1, none⟩ = some (.int .i64 a) ∧ w'.cell? ⟨w4.heap.size, 0, none⟩ = some (.int .u8 0) ∧ w'.cell? ⟨w4.heap.size, 1, none⟩ = some (.int .i64 A) ∧ w'.cell? ⟨w4.heap.size + 1, 0, none⟩ = some (.int .u8 1) ∧ w'.cell? ⟨w4.heap.size + 1, 1, none⟩ = some (.int .i64 a)) (first | exact ⟨f0, f1, f2, f3, f4, f5, f6, f7, f8, f9, f10, f11⟩ | exact ⟨q0, q1, q2, q3, q4, q5, q6, q7, q8, q9, q10, q11⟩ | exact ⟨p0, p1, p2, p3, p4, p5, p6, p7, p8, p9, p10, p11⟩ | exact ⟨t0, t1, t2, t3, t4, t5, t6, t7, t8, t9, t10, t11⟩ | go_keep) (first
              | (go_at_call_of 11 A; refine (Hs2.out _).mono ?_; rintro e w7 ⟨rfl, x7⟩; have Z7 : Hid (Ext w6 w7) := Lib.hid (Ext.trans (by first | exact Ext.refl w6 | exact (Ext.refl w6).drew | exact (Ext.refl w6).drewN _) x7); have q0 := Z7.out.cell f0; have q1 := Z7.out.cell f1; have q2 := Z7.out.cell f2; have q3 := Z7.out.cell f3; have q4 := Z7.out.cell f4; have q5 := Z7.out.cell f5; have q6 := Z7.out.cell f6; have q7 := Z7.out.cell f7; have q8 := Z7.out.cell f8; have q9 := Z7.out.cell f9; have q10 := Z7.out.cell f10; have q11 := Z7.out.cell f11; clear x7)
              | (go_at_call_of 11 a; refine (Hs1.out _).mono ?_; rintro e w8 ⟨rfl, x8⟩; have Z8 := Lib.hid (Z7.out.trans x8); have p0 := Z8.out.cell f0; have p1 := Z8.out.cell f1; have p2 := Z8.out.cell f2; have p3 := Z8.out.cell f3; have p4 := Z8.out.cell f4; have p5 := Z8.out.cell f5; have p6 := Z8.out.cell f6; have p7 := Z8.out.cell f7; have p8 := Z8.out.cell f8; have p9 := Z8.out.cell f9; have p10 := Z8.out.cell f10; have p11 := Z8.out.cell f11; clear x8)
              | (go_at_call 12; refine (lives_calls _).mono ?_; rintro e w9 ⟨rfl, x9⟩; have Z9 := Lib.hid (Z8.out.trans x9); have t0 := Z9.out.cell f0; have t1 := Z9.out.cell f1; have t2 := Z9.out.cell f2; have t3 := Z9.out.cell f3; have t4 := Z9.out.cell f4; have t5 := Z9.out.cell f5; have t6 := Z9.out.cell f6; have t7 := Z9.out.cell f7; have t8 := Z9.out.cell f8; have t9 := Z9.out.cell f9; have t10 := Z9.out.cell f10; have t11 := Z9.out.cell f11; clear x9))
            go_wp2
            go_ret
            exact ⟨rfl, X6.out.trans Z9.out⟩
          · go_wp2_with fail
            go_region
            go_wp2_with fail
            refine (hopp.out _).mono ?_
            rintro e w5 ⟨rfl, x5⟩
            have y5 := ((((Ext.refl w4).alloc _).alloc _).drew.drew).trans x5
            have bx := (B2.new w4 (.int .u8 1) (.int .i64 a) 24).alloc (.cells #[.int .u8 0, .int .i64 A] 24)
            have bf : B2 ((w4.alloc (.cells #[.int .u8 1, .int .i64 a] 24)).alloc (.cells #[.int .u8 0, .int .i64 A] 24)) (w4.heap.size + 1) (.int .u8 0) (.int .i64 A) 24 := by simpa using B2.new (w4.alloc (.cells #[.int .u8 1, .int .i64 a] 24)) (.int .u8 0) (.int .i64 A) 24
            have bx5 := bx.ext (((Ext.refl _).drew.drew).trans x5)
            have bf5 := bf.ext (((Ext.refl _).drew.drew).trans x5)
            have BX := Lib.hid bx5; have BF := Lib.hid bf5
            have X5 := Lib.hid (X4.out.trans y5)
            have YA := Lib.hid (y5.cell e0); have YB := Lib.hid (y5.cell e1); have YC := Lib.hid (y5.cell m0); have YD := Lib.hid (y5.cell m1); have YE := Lib.hid (y5.cell d0); have YF := Lib.hid (y5.cell d1)
            clear y5 bx bf bx5 bf5 x5 d0 d1 d2 d3 e0 e1 e2 e3 m0 m1 m2 m3
            go_wp2_with fail
            have hag := B2.new w5 (.int .u8 1) (.int .i64 a) 24
            have ha := (Ext.refl w5).alloc (.cells #[.int .u8 1, .int .i64 a] 24)
            have bx6 := BX.out.ext ha; have bf6 := BF.out.ext ha
            have f0 := ha.cell YA.out; have f1 := ha.cell YB.out; have f2 := ha.cell YC.out; have f3 := ha.cell YD.out; have f4 := ha.cell YE.out; have f5 := ha.cell YF.out; have f6 := hag.c0; have f7 := hag.c1; have f8 := bf6.c0; have f9 := bf6.c1; have f10 := bx6.c0; have f11 := bx6.c1
            obtain ⟨w6, hw6⟩ : ∃ w6, w6 = w5.alloc (.cells #[.int .u8 1, .int .i64 a] 24) := ⟨_, rfl⟩
            rw [← hw6] at f0 f1 f2 f3 f4 f5 f6 f7 f8 f9 f10 f11 ha ⊢
            have X6 := Lib.hid (X2.out.trans (X5.out.trans ha))
            clear hw6 hag ha bx6 bf6 BX BF YA YB YC YD YE YF
            have hwr := HWR.out
            go_region_held3 (fun w' => w'.cell? ⟨w.heap.size, 0, none⟩ = some (.int .u8 1) ∧ w'.cell? ⟨w.heap.size, 1, none⟩ = some (.int .i64 a) ∧ w'.cell? ⟨w1.heap.size, 0, none⟩ = some (.int .u8 0) ∧ w'.cell? ⟨w1.heap.size, 1, none⟩ = some (.int .i64 A) ∧ w'.cell? ⟨w3.heap.size, 0, none⟩ = some (.int .u8 0) ∧ w'.cell? ⟨w3.heap.size, 1, none⟩ = some (.int .i64 A) ∧ w'.cell? ⟨w5.heap.size, 0, none⟩ = some (.int .u8 1) ∧ w'.cell? ⟨w5.heap.size, 1, none⟩ = some (.int .i64 a) ∧ w'.cell? ⟨w4.heap.size + 1, 0, none⟩ = some (.int .u8 0) ∧ w'.cell? ⟨w4.heap.size + 1, 1, none⟩ = some (.int .i64 A) ∧ w'.cell? ⟨w4.heap.size, 0, none⟩ = some (.int .u8 1) ∧ w'.cell? ⟨w4.heap.size, 1, none⟩ = some (.int .i64 a)) (first | exact ⟨f0, f1, f2, f3, f4, f5, f6, f7, f8, f9, f10, f11⟩ | exact ⟨q0, q1, q2, q3, q4, q5, q6, q7, q8, q9, q10, q11⟩ | exact ⟨p0, p1, p2, p3, p4, p5, p6, p7, p8, p9, p10, p11⟩ | exact ⟨t0, t1, t2, t3, t4, t5, t6, t7, t8, t9, t10, t11⟩ | go_keep) (first
              | (go_at_call_of 11 A; refine (Hs2.out _).mono ?_; rintro e w7 ⟨rfl, x7⟩; have Z7 : Hid (Ext w6 w7) := Lib.hid (Ext.trans (by first | exact Ext.refl w6 | exact (Ext.refl w6).drew | exact (Ext.refl w6).drewN _) x7); have q0 := Z7.out.cell f0; have q1 := Z7.out.cell f1; have q2 := Z7.out.cell f2; have q3 := Z7.out.cell f3; have q4 := Z7.out.cell f4; have q5 := Z7.out.cell f5; have q6 := Z7.out.cell f6; have q7 := Z7.out.cell f7; have q8 := Z7.out.cell f8; have q9 := Z7.out.cell f9; have q10 := Z7.out.cell f10; have q11 := Z7.out.cell f11; clear x7)
              | (go_at_call_of 11 a; refine (Hs1.out _).mono ?_; rintro e w8 ⟨rfl, x8⟩; have Z8 := Lib.hid (Z7.out.trans x8); have p0 := Z8.out.cell f0; have p1 := Z8.out.cell f1; have p2 := Z8.out.cell f2; have p3 := Z8.out.cell f3; have p4 := Z8.out.cell f4; have p5 := Z8.out.cell f5; have p6 := Z8.out.cell f6; have p7 := Z8.out.cell f7; have p8 := Z8.out.cell f8; have p9 := Z8.out.cell f9; have p10 := Z8.out.cell f10; have p11 := Z8.out.cell f11; clear x8)
              | (go_at_call 12; refine (lives_calls _).mono ?_; rintro e w9 ⟨rfl, x9⟩; have Z9 := Lib.hid (Z8.out.trans x9); have t0 := Z9.out.cell f0; have t1 := Z9.out.cell f1; have t2 := Z9.out.cell f2; have t3 := Z9.out.cell f3; have t4 := Z9.out.cell f4; have t5 := Z9.out.cell f5; have t6 := Z9.out.cell f6; have t7 := Z9.out.cell f7; have t8 := Z9.out.cell f8; have t9 := Z9.out.cell f9; have t10 := Z9.out.cell f10; have t11 := Z9.out.cell f11; clear x9))
            go_wp2
            go_ret
            exact ⟨rfl, X6.out.trans Z9.out⟩
        · have hne : (1 + (k : Int)) ≠ a + r := fun h => he (by
            by_cases hA : 1 ≤ A ∧ A ≤ 40
            · have := Hi1.out hA; have := HA.out; omega
            · have := HA.out; omega)
          have hne' : ((1 + (k : Int)) != a + r) = true := by rw [bne_iff_ne]; exact hne
          have hki : k < idx := by omega
          have HE := Lib.hid he
          clear hne he
          go_wp2_with fail
          refine (N.out _).mono ?_
          rintro e w3 ⟨rfl, x3⟩
          have X3 := Lib.hid (H.out.trans x3)
          have c0' := x3.cell c0; have c1' := x3.cell c1; have lt' := Nat.lt_of_lt_of_le lt x3.size
          clear x3
          go_wp2
          have hx4 := B2.new w3 (.int .u8 0) (.int .i64 (1 + (k : Int))) 24
          have hn4 := (N2.out.ext X3.out).alloc (.cells #[.int .u8 0, .int .i64 (1 + (k : Int))] 24)
          have hX4 := X3.out.alloc (.cells #[.int .u8 0, .int .i64 (1 + (k : Int))] 24)
          obtain ⟨w4, hw4⟩ : ∃ w4, w4 = w3.alloc (.cells #[.int .u8 0, .int .i64 (1 + (k : Int))] 24) := ⟨_, rfl⟩
          rw [← hw4] at hx4 hn4 hX4 ⊢
          have X4 := Lib.hid hX4
          have d0 := hx4.c0; have d1 := hx4.c1; have d2 := hx4.lt
          have e0 := hn4.c0; have e1 := hn4.c1; have e2 := hn4.lt
          have d3 : w3.heap.size < w4.heap.size + 1 := by omega
          have e3 : w.heap.size < w4.heap.size + 1 := by omega
          clear hw4 hx4 hn4 hX4 c0' c1' lt' c0 c1 lt
          go_region
          all_goals
            go_wp2
            go_region
            go_wp2
            refine ⟨⟨k + 1, by omega, by go_num, Lib.hid ?_⟩, by simp [intOf]; omega⟩
            exact ((X4.out.alloc _).alloc _).drew.drew
      · have N : Hid (∀ w, Calls Tryd.prog 15 #[.int .u8 k] w fun e w' => e = .returned (.agg #[.int .u8 1, .int .i64 ((k : Int) - 39)]) ∧ Ext w w') := fun w => needle_val' k 1 ((k : Int) - 39) w (by omega) (by omega) (by omega) (by omega)
        go_wp2_with fail
        refine (N.out _).mono ?_
        rintro e w3 ⟨rfl, x3⟩
        have X3 := Lib.hid (H.out.trans (x3.alloc (.cells #[.int .u8 1, .int .i64 ((k : Int) - 39)] 24)))
        have c0' := x3.cell c0; have c1' := x3.cell c1; have lt' := Nat.lt_of_lt_of_le lt x3.size
        have hne : k < idx := by
          rcases Nat.lt_or_ge k idx with h | h
          · exact h
          · by_cases hA : 1 ≤ A ∧ A ≤ 40
            · have := Hi1.out hA; omega
            · have := Hi2.out hA; omega
        clear x3
        go_wp2
        go_roundw
        case rel => exact ⟨k + 1, by omega, by go_num, X3⟩
        case measure => simp [intOf]; omega
    · have hid : ¬ (1 ≤ A ∧ A ≤ 40) := fun h => by have := Hi1.out h; omega
      obtain ⟨he, rfl, rfl, rfl⟩ := Hi2.out hid
      have m0 := (M2.out.ext H.out).c0; have m1 := (M2.out.ext H.out).c1; have ltm := (M2.out.ext H.out).lt
      have HX := Lib.hid (X2.out.trans H.out)
      clear hid he
      obtain rfl : k = 80 := by omega
      go_wp2_with fail
      refine (lives_calls _).mono ?_
      rintro e wz ⟨rfl, xz⟩
      go_wp2
      go_ret
      exact ⟨rfl, HX.out.trans xz⟩

theorem NeedlesOpposite_walk (b a r : Int) (w : World) (hb : 0 ≤ b ∧ b ≤ 255) :
    Calls Tryd.prog 5 #[.agg #[.int .u8 b, .int .i64 a], .int .i64 r] w fun e w' => e = .returned (.bool true) ∧ Ext w w' := by
  by_cases hv : b ≤ 1 ∧ 1 ≤ a ∧ a ≤ 40
  · by_cases hr : -4 ≤ r ∧ r ≤ 4
    · rcases (show b = 0 ∨ b = 1 by omega) with rfl | rfl
      · by_cases hA : 1 ≤ a - r ∧ a - r ≤ 40
        · exact Opposite_0 a r (a - r) 1 (a - r) 0 (40 + (a - r) - 1).toNat w hv.2.1 hv.2.2 hr.1 hr.2 rfl (by omega) (fun _ => ⟨by omega, rfl, rfl, rfl⟩) (fun h => absurd hA h) (fun w => Opp_fok 0 a r w rfl hv.2.1 hv.2.2 hr.1 hr.2 hA.1 hA.2)
        · exact Opposite_0 a r (a - r) 0 0 11 80 w hv.2.1 hv.2.2 hr.1 hr.2 rfl (by omega) (fun h => absurd h hA) (fun _ => ⟨rfl, rfl, rfl, rfl⟩) (fun w => Opp_fno 0 a r w rfl hv.2.1 hv.2.2 hr.1 hr.2 hA)
      · by_cases hA : 1 ≤ a + r ∧ a + r ≤ 40
        · exact Opposite_1 a r (a + r) 0 (a + r) 0 (0 + (a + r) - 1).toNat w hv.2.1 hv.2.2 hr.1 hr.2 rfl (by omega) (fun _ => ⟨by omega, rfl, rfl, rfl⟩) (fun h => absurd hA h) (fun w => Opp_bok 1 a r w rfl hv.2.1 hv.2.2 hr.1 hr.2 hA.1 hA.2)
        · exact Opposite_1 a r (a + r) 0 0 11 80 w hv.2.1 hv.2.2 hr.1 hr.2 rfl (by omega) (fun h => absurd h hA) (fun _ => ⟨rfl, rfl, rfl, rfl⟩) (fun w => Opp_bno 1 a r w rfl hv.2.1 hv.2.2 hr.1 hr.2 hA)
    · exact Opposite_rack b a r w hb.1 hb.2 hv hr
  · exact Opposite_bad b a r w hb.1 hb.2 hv
end Go.Proofs.YthjihkclccpnhaaDoor
