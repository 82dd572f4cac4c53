/- The law NeedlesSpots: its walk. -/
import Derived.Test.YthjihkclccpnhaaDoorNf
import Derived.Outline
namespace Go.Proofs.YthjihkclccpnhaaDoor
set_option linter.unusedVariables false
set_option linter.unusedSimpArgs false
open Go Go.RowKit

theorem nspot_bd {b a r : Int} (h1 : b ≤ 1) (h2 : 1 ≤ a) (h3 : a ≤ 40) (h4 : -4 ≤ r) (h5 : r ≤ 4) : -13 < nspot b a r ∧ nspot b a r < 179 ∧ nspot b a r % 2 = 0 := by
  unfold nspot; split <;> omega
theorem nspotF0 {b a r : Int} (h : ¬ (b ≤ 1 ∧ 1 ≤ a ∧ a ≤ 40 ∧ -4 ≤ r ∧ r ≤ 4)) : nspotF b a r = 0 := by unfold nspotF; rw [if_neg h]

theorem valid_val (b a v : Int) (w : World) (h1 : 0 ≤ b) (h2 : b ≤ 255) (h : nval b a = v) :
    Calls Tryd.prog 9 #[.agg #[.int .u8 b, .int .i64 a]] w fun e w' => e = .returned (.int .i64 v) ∧ Ext w w' := by
  rw [← h]; exact valid_calls b a w h1 h2
theorem Check_val (b a v : Int) (w : World) (h1 : 0 ≤ b) (h2 : b ≤ 255) (h : 1 - nval b a = v) :
    Calls Tryd.prog 10 #[.agg #[.int .u8 b, .int .i64 a]] w fun e w' => e = .returned (.int .i64 v) ∧ Ext w w' := by
  rw [← h]; exact Check_calls b a w h1 h2

set_option maxHeartbeats 1000000 in
theorem Spots_bad (b a r : Int) (w : World) (h1 : 0 ≤ b) (h2 : b ≤ 255) (hv : ¬ (b ≤ 1 ∧ 1 ≤ a ∧ a ≤ 40)) :
    Calls Tryd.prog 3 #[.agg #[.int .u8 b, .int .i64 a], .int .i64 r] w fun e w' => e = .returned (.bool true) ∧ Ext w w' := by
  have k1 := nval0 hv
  have k2 : 1 - nval b a = 1 := by rw [k1]; rfl
  have k3 := nspotF0 (b := b) (a := a) (r := r) (fun h => hv ⟨h.1, h.2.1, h.2.2.1⟩)
  have K1 := Lib.hid k1; have K2 := Lib.hid k2; have K3 := Lib.hid k3
  clear k1 k2 k3 hv
  go_enter Tryd.func3, Tryd.ntmps3
  have Bn_0 : Hid (B2 (w.alloc (.cells #[.int .u8 b, .int .i64 a] 24)) (w.heap.size) (.int .u8 b) (.int .i64 a) 24) := Lib.hid (by simpa using (B2.new w (.int .u8 b) (.int .i64 a) 24))
  have X_0 := Lib.hid ((Ext.refl w).alloc (.cells #[.int .u8 b, .int .i64 a] 24))
  go_wp2_with fail
  refine (valid_val b a 0 _ h1 h2 K1.out).mono ?_
  rintro e w1 ⟨rfl, x1⟩
  have Bn_1 := Lib.hid (Bn_0.out.ext x1)
  have X_1 := Lib.hid (X_0.out.trans x1)
  clear x1
  have c0n_1 := Bn_1.out.c0
  have c1n_1 := Bn_1.out.c1
  have ltn_1 := Bn_1.out.lt
  go_wp2_with fail
  clear c0n_1 c1n_1 ltn_1
  refine (Check_val b a 1 _ h1 h2 K2.out).mono ?_
  rintro e w2 ⟨rfl, x2⟩
  have Bn_2 := Lib.hid (Bn_1.out.ext x2)
  have X_2 := Lib.hid (X_1.out.trans x2)
  clear x2
  have c0n_2 := Bn_2.out.c0
  have c1n_2 := Bn_2.out.c1
  have ltn_2 := Bn_2.out.lt
  go_wp2_with fail
  clear c0n_2 c1n_2 ltn_2
  refine (Spot_val b a r 0 _ h1 h2 K3.out).mono ?_
  rintro e w3 ⟨rfl, x3⟩
  have Bn_3 := Lib.hid (Bn_2.out.ext x3)
  have X_3 := Lib.hid (X_2.out.trans x3)
  clear x3
  go_wp2_with fail
  refine (lives_calls _).mono ?_
  rintro e w4 ⟨rfl, x4⟩
  have Bn_4 := Lib.hid (Bn_3.out.ext x4)
  have X_4 := Lib.hid (X_3.out.trans x4)
  clear x4
  go_wp2
  go_ret
  exact ⟨rfl, X_4.out⟩

set_option maxHeartbeats 1000000 in
theorem Spots_rack (b a r : Int) (w : World) (h1 : 0 ≤ b) (h2 : b ≤ 255) (hv : b ≤ 1 ∧ 1 ≤ a ∧ a ≤ 40) (hr : ¬ (-4 ≤ r ∧ r ≤ 4)) :
    Calls Tryd.prog 3 #[.agg #[.int .u8 b, .int .i64 a], .int .i64 r] w fun e w' => e = .returned (.bool true) ∧ Ext w w' := by
  have k1 := nval1 hv
  have k2 : 1 - nval b a = 0 := by rw [k1]; rfl
  have k3 := nspotF0 (b := b) (a := a) (r := r) (fun h => hr h.2.2.2)
  have K1 := Lib.hid k1; have K2 := Lib.hid k2; have K3 := Lib.hid k3
  clear k1 k2 k3 hv
  rcases (show r < -4 ∨ 4 < r by omega) with hr' | hr'
  all_goals
    clear hr
    go_enter Tryd.func3, Tryd.ntmps3
    have Bn_0 : Hid (B2 (w.alloc (.cells #[.int .u8 b, .int .i64 a] 24)) (w.heap.size) (.int .u8 b) (.int .i64 a) 24) := Lib.hid (by simpa using (B2.new w (.int .u8 b) (.int .i64 a) 24))
    have X_0 := Lib.hid ((Ext.refl w).alloc (.cells #[.int .u8 b, .int .i64 a] 24))
    go_wp2_with fail
    refine (valid_val b a 1 _ h1 h2 K1.out).mono ?_
    rintro e w1 ⟨rfl, x1⟩
    have Bn_1 := Lib.hid (Bn_0.out.ext x1)
    have X_1 := Lib.hid (X_0.out.trans x1)
    clear x1
    have c0n_1 := Bn_1.out.c0
    have c1n_1 := Bn_1.out.c1
    have ltn_1 := Bn_1.out.lt
    go_wp2_with fail
    clear c0n_1 c1n_1 ltn_1
    refine (Check_val b a 0 _ h1 h2 K2.out).mono ?_
    rintro e w2 ⟨rfl, x2⟩
    have Bn_2 := Lib.hid (Bn_1.out.ext x2)
    have X_2 := Lib.hid (X_1.out.trans x2)
    clear x2
    have c0n_2 := Bn_2.out.c0
    have c1n_2 := Bn_2.out.c1
    have ltn_2 := Bn_2.out.lt
    go_wp2_with fail
    clear c0n_2 c1n_2 ltn_2
    refine (Spot_val b a r 0 _ h1 h2 K3.out).mono ?_
    rintro e w3 ⟨rfl, x3⟩
    have Bn_3 := Lib.hid (Bn_2.out.ext x3)
    have X_3 := Lib.hid (X_2.out.trans x3)
    clear x3
    go_wp2_with fail
    refine (lives_calls _).mono ?_
    rintro e w4 ⟨rfl, x4⟩
    have Bn_4 := Lib.hid (Bn_3.out.ext x4)
    have X_4 := Lib.hid (X_3.out.trans x4)
    clear x4
    go_wp2
    go_ret
    exact ⟨rfl, X_4.out⟩

set_option maxHeartbeats 1000000 in
theorem Spots_ok (b a r : Int) (w : World) (h1 : 0 ≤ b) (h2 : b ≤ 255) (hv : b ≤ 1 ∧ 1 ≤ a ∧ a ≤ 40) (hr : -4 ≤ r ∧ r ≤ 4) :
    Calls Tryd.prog 3 #[.agg #[.int .u8 b, .int .i64 a], .int .i64 r] w fun e w' => e = .returned (.bool true) ∧ Ext w w' := by
  obtain ⟨v1, v2, v3⟩ := hv
  obtain ⟨r1, r2⟩ := hr
  have k1 := nval1 ⟨v1, v2, v3⟩
  have k2 : 1 - nval b a = 0 := by rw [k1]; rfl
  have k3 := nspotF_ok (b := b) (a := a) (r := r) ⟨v1, v2, v3, r1, r2⟩
  obtain ⟨g1, g2, g3⟩ := nspot_bd (b := b) v1 v2 v3 r1 r2
  have k4 : nspot b a r = nspot b a r := rfl
  have K4 : Hid (∀ w, Calls Tryd.prog 13 #[.int .i64 (nspot b a r), .int .i64 r] w (RetNd b a 0 w)) := fun w => At_found _ b a r w ⟨r1, r2⟩ h1 v1 v2 v3 rfl
  have K5 : Hid (∀ w, Calls Tryd.prog 14 #[.agg #[.int .u8 b, .int .i64 a], .int .i64 r] w fun e w' => e = .returned (.int .i64 (nspot b a r)) ∧ Ext w w') := fun w => spot_calls b a r w h1 h2 (by omega) (by omega) (by omega) (by omega)
  obtain ⟨S, hS⟩ : ∃ S, S = nspot b a r := ⟨_, rfl⟩
  rw [← hS] at k3 g1 g2 g3 K4 K5
  have g4 : (S.tmod 2 == 0) = true := by rw [Int.tmod_eq_zero_of_dvd (Int.dvd_of_emod_eq_zero g3)]; rfl
  have K1 := Lib.hid k1; have K2 := Lib.hid k2; have K3 := Lib.hid k3
  clear k1 k2 k3 k4 hS g3
  go_enter Tryd.func3, Tryd.ntmps3
  have Bn_0 : Hid (B2 (w.alloc (.cells #[.int .u8 b, .int .i64 a] 24)) (w.heap.size) (.int .u8 b) (.int .i64 a) 24) := Lib.hid (by simpa using (B2.new w (.int .u8 b) (.int .i64 a) 24))
  have X_0 := Lib.hid ((Ext.refl w).alloc (.cells #[.int .u8 b, .int .i64 a] 24))
  go_wp2_with fail
  refine (valid_val b a 1 _ h1 h2 K1.out).mono ?_
  rintro e w1 ⟨rfl, x1⟩
  have Bn_1 := Lib.hid (Bn_0.out.ext x1)
  have X_1 := Lib.hid (X_0.out.trans x1)
  clear x1
  have c0n_1 := Bn_1.out.c0
  have c1n_1 := Bn_1.out.c1
  have ltn_1 := Bn_1.out.lt
  go_wp2_with fail
  clear c0n_1 c1n_1 ltn_1
  refine (Check_val b a 0 _ h1 h2 K2.out).mono ?_
  rintro e w2 ⟨rfl, x2⟩
  have Bn_2 := Lib.hid (Bn_1.out.ext x2)
  have X_2 := Lib.hid (X_1.out.trans x2)
  clear x2
  have c0n_2 := Bn_2.out.c0
  have c1n_2 := Bn_2.out.c1
  have ltn_2 := Bn_2.out.lt
  go_wp2_with fail
  clear c0n_2 c1n_2 ltn_2
  refine (Spot_val b a r S _ h1 h2 K3.out).mono ?_
  rintro e w3 ⟨rfl, x3⟩
  have Bn_3 := Lib.hid (Bn_2.out.ext x3)
  have X_3 := Lib.hid (X_2.out.trans x3)
  clear x3
  go_wp2_with fail
  refine (K4.out _).mono ?_
  rintro e w4 ⟨rfl, x4⟩
  have Bn_4 := Lib.hid (Bn_3.out.ext x4)
  have X_4 := Lib.hid (X_3.out.trans x4)
  clear x4
  have c0n_4 := Bn_4.out.c0
  have c1n_4 := Bn_4.out.c1
  have ltn_4 := Bn_4.out.lt
  go_wp2_with fail
  clear c0n_4 c1n_4 ltn_4
  refine (K5.out _).mono ?_
  rintro e w5 ⟨rfl, x5⟩
  have Bn_5 := Lib.hid ((Bn_4.out.alloc (.cells #[.int .u8 b, .int .i64 a] 24)).ext x5)
  have Bm_5 := Lib.hid ((B2.new w4 (.int .u8 b) (.int .i64 a) 24).ext x5)
  have X_5 := Lib.hid ((X_4.out.alloc (.cells #[.int .u8 b, .int .i64 a] 24)).trans x5)
  clear x5
  have c0n_5 := Bn_5.out.c0
  have c1n_5 := Bn_5.out.c1
  have ltn_5 := Bn_5.out.lt
  have c0m_5 := Bm_5.out.c0
  have c1m_5 := Bm_5.out.c1
  have ltm_5 := Bm_5.out.lt
  go_wp2_with fail
  clear c0n_5 c1n_5 ltn_5 c0m_5 c1m_5 ltm_5
  refine (lives_calls _).mono ?_
  rintro e w6 ⟨rfl, x6⟩
  have Bn_6 := Lib.hid (Bn_5.out.ext x6)
  have Bm_6 := Lib.hid (Bm_5.out.ext x6)
  have X_6 := Lib.hid (X_5.out.trans x6)
  clear x6
  go_wp2
  go_ret
  exact ⟨rfl, X_6.out⟩

theorem NeedlesSpots_walk (b a r : Int) (w : World) (hb : 0 ≤ b ∧ b ≤ 255) :
    Calls Tryd.prog 3 #[.agg #[.int .u8 b, .int .i64 a], .int .i64 r] w fun e w' => e = .returned (.bool true) ∧ Ext w w' := by
  by_cases hv : b ≤ 1 ∧ 1 ≤ a ∧ a ≤ 40
  · by_cases hr : -4 ≤ r ∧ r ≤ 4
    · exact Spots_ok b a r w hb.1 hb.2 hv hr
    · exact Spots_rack b a r w hb.1 hb.2 hv hr
  · exact Spots_bad b a r w hb.1 hb.2 hv
end Go.Proofs.YthjihkclccpnhaaDoor
