/- Texts of this claim in one file: libraries and walks. -/
import Derived.Test.YtkolebjpeaigcaaDoorL9
import Derived.Test.YtkolebjpeaigcaaDoorMCheck0
/- The law ChartsCheck, walked. -/
namespace Go.Proofs.YtkolebjpeaigcaaDoor
set_option linter.unusedVariables false
set_option linter.unusedSimpArgs false
set_option maxRecDepth 8000
open Go Go.RowKit

/-- A list of lists that lies in memory, opened. -/
theorem ISV.out {k : IntKind} {w : World} {v : Value} {c : Nat} {vs : Nat → Value} {caps : Nat → Nat} {rows : List (List Int)} (h : ISV k w v c vs caps rows) : ∃ ao n, v = .slice ao n c ∧ n = rows.length ∧ n ≤ c ∧ c ≤ maxLen ∧
    ∀ i, i < n → ∃ b o a m d, ao = some ⟨b, o, none⟩ ∧ w.cell? ⟨b, o + i, none⟩ = some (.slice a m d) ∧ m = (ri rows i).length ∧ d = caps i ∧ IS k w (.slice a m d) d (ri rows i) := by
  obtain ⟨h1, h2, ao, hv, h3⟩ := h.open
  refine ⟨ao, _, hv, rfl, h1, h2, fun i hi => ?_⟩
  rcases h3 with ⟨_, h4, _⟩ | ⟨b, o, h5, h6⟩
  · omega
  · obtain ⟨a, m, c', hvi, hm, hc, his⟩ := (h.2 i hi).out
    exact ⟨b, o, a, m, c', h5, by rw [h6 i hi, hvi], hm, hc, his⟩
set_option maxHeartbeats 8000000 in
theorem ChartsCheck_walk (v : Value) (c : Nat) (rows : List (List St)) (w : World) (h : RR w v c rows) (hin : ∀ l ∈ rows, ∀ s ∈ l, St.In s) (hy : Sy w) (hm : Mx w) :
    Calls Tryd.prog 7 #[.agg #[v]] w fun e w' => e = .returned (.bool true) ∧ Ext w w' := by
  have hInS : ∀ k, k < rows.length → ∀ i, i < (sw rows k).length → St.In (si (sw rows k) i) := fun k hk i hi => 
    hin (sw rows k) (by rw [sw_of_lt hk]; exact List.getElem_mem hk) (si (sw rows k) i) (by rw [si_of_lt hi]; exact List.getElem_mem hi)
  have hIn : ∀ k, k < rows.length → ∀ i, i < (sw rows k).length → 0 ≤ (si (sw rows k) i).k ∧ 0 ≤ (si (sw rows k) i).y := fun k hk i hi => ⟨(hInS k hk i hi).1.1, (hInS k hk i hi).2.1.1⟩
  have hIny : ∀ k, k < rows.length → ∀ i, i < (sw rows k).length → 0 ≤ (si (sw rows k) i).y ∧ (si (sw rows k) i).y ≤ 255 := fun k hk i hi => (hInS k hk i hi).2.1
  have hsb := sml_one (rows := rows)
  have k1 := fun w' (x : Ext w w') => small_calls v c rows w' (h.ext x)
  have k2 := fun w' (x : Ext w w') => RCLoads_calls v c rows w' (h.ext x) hIn
  have k3 := fun w' (x : Ext w w') => CLoads_calls v c rows w' (h.ext x)
  have k4 := fun (hz : sml rows ≠ 0) w' (x : Ext w w') => Widths_calls v c rows w' (h.ext x) (fun i hi => by have := (hsb hz).2 i hi; omega) (by have := (hsb hz).1; omega)
  have k5 := fun w' (x : Ext w w') => CCheck_calls v c rows w' (h.ext x)
  have k6 := fun w' (x : Ext w w') => lives13_calls w' (hy.ext x) (hm.ext x)
  have k7 := fun (hz : sml rows ≠ 0) k (hk : k < rows.length) w' v c (r : RS w' v c (sw rows k)) => RRowNeeds_calls v c (sw rows k) w' r (by have := (hsb hz).2 k hk; omega) (hIn k hk)
  have k8 := fun (hz : sml rows ≠ 0) k (hk : k < rows.length) w' v c (r : RS w' v c (sw rows k)) => RRowMakes_calls v c (sw rows k) w' r (by have := (hsb hz).2 k hk; omega) (hIn k hk)
  have k9 := fun w' (x : Ext w w') => Yarns_calls v c rows w' (h.ext x) hIny
  have hs1 := sml_cases rows
  obtain ⟨a1, n, rfl, hn, hc, hcm, hat⟩ := h.open
  unfold maxLen at hcm
  obtain ⟨hG1, hG2⟩ := cloads_at rows
  obtain ⟨W, hW⟩ : ∃ W, W = w.alloc (.cells #[.slice a1 n c] 27) := ⟨_, rfl⟩
  have xW : Ext w W := by rw [hW]; exact (Ext.refl w).alloc _
  have d1 : W.cell? ⟨w.heap.size, 0, none⟩ = some (.slice a1 n c) := by rw [hW, World.cell?_alloc_at (hn := rfl)]; rfl
  have HD1 := Lib.hid (fun w' (x : Ext W w') => x.cell d1)
  have XW := Lib.hid xW; have HW := Lib.hid hW; have Hn := Lib.hid hn; have HA := Lib.hid hat; have HIny := Lib.hid (fun k (hk : k < n) => hIny k (by omega))
  have K1 := Lib.hid k1; have K2 := Lib.hid k2; have K3 := Lib.hid k3; have K5 := Lib.hid k5; have K6 := Lib.hid k6; have K9 := Lib.hid k9
  rw [hW] at d1
  rcases hs1 with hs | hs
  · rw [hs] at k1
    have K1 := Lib.hid k1
    clear k1 k2 k3 k4 k5 k6 k7 k8 k9 h hy hm xW hW hsb hn hIn hInS hIny hin hat hG1 hG2 hs
    go_enter Tryd.func7, Tryd.ntmps7
    go_wp2_with fail
    rw [← HW.out]
    refine (K1.out _ XW.out).mono ?_
    rintro e w1 ⟨rfl, x1⟩
    have X1 := Lib.hid x1
    clear x1 d1 HW
    go_wp2
    go_ret
    exact ⟨rfl, XW.out.trans X1.out⟩
  have hz : sml rows ≠ 0 := by rw [hs]; decide
  rw [hs] at k1
  have hn40 : n ≤ 40 := by have := (hsb hz).1; omega
  have hm40 : ∀ k, k < n → (sw rows k).length ≤ 40 := fun k hk => (hsb hz).2 k (by omega)
  replace k4 := k4 hz; replace k7 := k7 hz; replace k8 := k8 hz
  replace K1 := Lib.hid k1
  have K4 := Lib.hid k4; have K7 := Lib.hid (fun (h0 : 0 < n) => k7 0 (by omega)); have K8 := Lib.hid (fun k (hk : k < n) => k8 k (by omega))
  have HM40 := Lib.hid hm40
  have hwl := fun (h0 : 0 < n) => wds_len (rows := rows) (by omega)
  have hw0 := fun (h0 : 0 < n) => wds_zero (rows := rows) (by omega)
  have hws := fun i (hi : i < n) => wds_succ (rows := rows) (i := i) (by omega)
  have hwn : n = 0 → wds rows = [] := fun h0 => by unfold wds; rw [if_pos (List.eq_nil_of_length_eq_zero (by omega))]
  have HWl := Lib.hid hwl; have HW0 := Lib.hid hw0; have HWs := Lib.hid hws; have HWn := Lib.hid hwn
  have HG1 := Lib.hid hG1; have HG2 := Lib.hid hG2
  clear k1 k2 k3 k4 k5 k6 k7 k8 k9 h hy hm xW hW hsb hn hIn hInS hIny hin hat hs hz hm40 hwl hw0 hws hwn hG1 hG2
  obtain ⟨G, hG⟩ : ∃ G, G = (cloads rows).2 := ⟨_, rfl⟩
  obtain ⟨E, hE⟩ : ∃ E, E = (cloads rows).1 := ⟨_, rfl⟩
  obtain ⟨D, hD⟩ : ∃ D, D = wds rows := ⟨_, rfl⟩
  rw [← hG, ← hE] at K2 K3
  rw [← hE] at K5
  rw [← hG, ← hD] at HG1 HG2
  rw [← hD] at K4 HWl HW0 HWs HWn
  have hEE : (E != E) = false := by rw [bne, beq_iff_eq.2 rfl]; rfl
  clear hG hE hD
  go_enter Tryd.func7, Tryd.ntmps7
  go_wp2_with fail
  rw [← HW.out]
  refine (K1.out _ XW.out).mono ?_
  rintro e w1 ⟨rfl, x1⟩
  have X1 := Lib.hid x1
  have e1 := HD1.out _ x1
  clear x1 d1 HW
  go_wp2_with fail
  refine ((K2.out _ (XW.out.trans X1.out))).mono ?_
  rintro e w2 ⟨v2, c2, rfl, ⟨vs2, cs2, i2⟩, x⟩
  have X2 := Lib.hid (X1.out.trans x)
  clear e1
  have e1 := HD1.out _ X2.out
  obtain ⟨a2, n2, rfl, hn2, hc2, hcm2, hat2⟩ := i2.out
  have HA2 := Lib.hid hat2
  have Hn2 := Lib.hid hn2
  clear i2 hn2 hat2
  clear x
  go_wp2_with fail
  refine ((K3.out _ (XW.out.trans X2.out))).mono ?_
  rintro e w3 ⟨v3, rfl, ⟨vs3, i3⟩, x⟩
  have X3 := Lib.hid (X2.out.trans x)
  clear e1
  have e1 := HD1.out _ X3.out
  have X23 := Lib.hid x
  obtain ⟨a3, n3, rfl, hn3, hc3, hcm3, hat3⟩ := i3.out
  have HA3 := Lib.hid hat3
  have Hn3 := Lib.hid hn3
  clear i3 hn3 hat3
  clear x
  go_wp2_with fail
  refine ((K4.out _ (XW.out.trans X3.out))).mono ?_
  rintro e w4 ⟨v4, c4, rfl, i4, x⟩
  have X4 := Lib.hid (X3.out.trans x)
  clear e1
  have e1 := HD1.out _ X4.out
  have X34 := Lib.hid x
  obtain ⟨a4, n4, c4', rfl, hn4, hc4, i4'⟩ := i4.out
  have I4 := Lib.hid i4'
  have Hn4 := Lib.hid hn4
  clear i4 hn4
  clear x
  obtain rfl : n2 = G.length := Hn2.out
  obtain rfl : n3 = G.length := Hn3.out
  obtain ⟨N, hN⟩ : ∃ N, N = G.length := ⟨_, rfl⟩
  rw [← hN] at HA2 HA3 HG1 HG2 hc2 hc3 ⊢
  have HN := Lib.hid hN
  have hNN : ((N : Int) != (N : Int)) = false := by rw [bne, beq_iff_eq.2 rfl]; rfl
  have hcm2' : N ≤ 2 ^ 63 - 1 := by unfold maxLen at hcm2; omega
  clear hN Hn2 Hn3
  go_wp2_with fail
  refine ((K5.out _ (XW.out.trans X4.out))).mono ?_
  rintro e w5 ⟨rfl, x⟩
  have X5 := Lib.hid (X4.out.trans x)
  clear e1
  have e1 := HD1.out _ X5.out
  have X45 := Lib.hid (X34.out.trans x)
  have X4s := Lib.hid x
  clear x
  have X25 := Lib.hid (X23.out.trans X45.out)
  go_wp2
  clear e1
  go_loopw [8, 9] (fun i _ wr => ∃ k : Nat, k ≤ N ∧ i = .int .i64 k ∧ Hid (Ext w5 wr)) (fun i _ _ => N - (intOf i).toNat)
  case atStart => exact ⟨0, Nat.zero_le _, rfl, Lib.hid (Ext.refl _)⟩
  case round =>
    obtain ⟨k, hk, rfl, HX⟩ := hrel
    by_cases hlt : k < N
    · obtain ⟨b3, o3, q3, m3, d3, rfl, y1, y2, y3, y4⟩ := HA3.out k hlt
      obtain ⟨b2, o2, q2, m2, d2, rfl, z1, z2, z3, z4⟩ := HA2.out k (show k < N from hlt)
      obtain rfl : m3 = m2 := by omega
      obtain rfl : d3 = m3 := by omega
      have hD := HG2.out k hlt
      have hDl : D.length = N := by rcases HG1.out with e | e <;> omega
      have hn4 : n4 = N := by rw [Hn4.out, hDl]
      obtain ⟨b4, o4, rfl, y5⟩ := I4.out.at (show k < n4 by omega)
      have y6 := y5 k (by omega)
      rw [← hD, ← y2] at y6
      have HY4 := Lib.hid y4; have HZ4 := Lib.hid z4; have Hm := Lib.hid y2; have HY1 := Lib.hid (fun w' (x : Ext w5 w') => (X45.out.trans x).cell y1); have HZ1 := Lib.hid (fun w' (x : Ext w5 w') => (X25.out.trans x).cell z1)
      replace y1 := HY1.out _ HX.out
      replace z1 := HZ1.out _ HX.out
      replace y6 := (X4s.out.trans HX.out).cell y6
      have t1 : (k : Int) < N := by omega
      have hd3 : d3 ≤ 2 ^ 63 - 1 := by have := y4.open.2.1; unfold maxLen at this; exact this
      have t2 : (k : Int) < n4 := by omega
      have t3 : ((d3 : Int) != (d3 : Int)) = false := by rw [bne, beq_iff_eq.2 rfl]; rfl
      clear y2 y3 y4 z2 z3 z4 hD hDl y5 hn4 hk
      go_wp2
      go_quiet (fail)
      clear y6 t2
      go_wp2
      clear y1 z1
      go_loopw [9] (fun i wr => ∃ j : Nat, j ≤ d3 ∧ i = .int .i64 j ∧ Hid (Ext w5 wr)) (fun i _ => d3 - (intOf i).toNat)
      case atStart => exact ⟨0, Nat.zero_le _, rfl, Lib.hid (by first | exact HX.out | exact (HX.out.drewN _))⟩
      case round =>
        obtain ⟨j, hj, rfl, HX2⟩ := hrel
        have y1 := HY1.out _ HX2.out
        have z1 := HZ1.out _ HX2.out
        by_cases hlt2 : j < d3
        · obtain ⟨b5, o5, rfl, y7⟩ := HY4.out.at hlt2
          obtain ⟨b6, o6, rfl, z7⟩ := HZ4.out.at hlt2
          have y8 := (X45.out.trans HX2.out).cell (y7 j hlt2)
          have z8 := (X25.out.trans HX2.out).cell (z7 j hlt2)
          generalize gi (ri G k) j = V at y8 z8
          have t4 : (V != V) = false := by rw [bne, beq_iff_eq.2 rfl]; rfl
          have t5 : (j : Int) < d3 := by omega
          clear y7 z7
          go_wp2
          go_quiet (fail)
          clear y8 z8 t5 y1 z1
          go_wp2
          go_roundw
          case rel => exact ⟨j + 1, by omega, by go_num, Lib.hid (by first | exact HX2.out | exact (HX2.out.drewN _))⟩
          case measure => simp [intOf]; omega
        · obtain rfl : d3 = j := by omega
          go_wp2
          go_roundw
          case rel => exact ⟨k + 1, by omega, by go_num, HX2⟩
          case measure => simp [intOf]; omega
    · obtain rfl : N = k := by omega
      obtain ⟨w6, hw6⟩ : ∃ w6 : World, w6 = wr := ⟨_, rfl⟩
      rw [← hw6] at HX ⊢
      have X6 := Lib.hid (X5.out.trans HX.out)
      have HZ := Lib.hid (z58_row w6)
      clear hw6 hlt hk
      go_wp2
      have X46 := Lib.hid (X4s.out.trans HX.out)
      have HY0 := Lib.hid (show YI w6 (w6.alloc (.cells Tryd.zeroCells58 58)) w6.heap.size (yset rows 0) from ⟨(Ext.refl w6).alloc _, Nat.le_refl _, _, HZ.out, fun i hi => rfl⟩)
      clear HX HZ X5 X4s X34 X45 X25 X23 HA2 HA3 hEE hNN K1 K2 K3 K4 K5
      go_loopw [11, 12, 13, 14] (fun x i _ _ wr => ∃ k : Nat, k ≤ n ∧ i = .int .i64 k ∧ x = .int .i64 (ycnt (yset rows k) 256 : Nat) ∧ Hid (YI w6 wr w6.heap.size (yset rows k))) (fun _ i _ _ _ => n - (intOf i).toNat)
      case atStart => exact ⟨0, Nat.zero_le _, rfl, rfl, HY0⟩
      case round =>
        obtain ⟨k, hk, rfl, rfl, HY⟩ := hrel
        have e1 := HD1.out _ (X6.out.trans HY.out.1)
        by_cases hlt : k < n
        · obtain ⟨b, o, a, m, d, rfl, y1, y2⟩ := HA.out k hlt
          have HRk := Lib.hid y2
          have hm40 := HM40.out k hlt
          obtain ⟨_, _, e2, e3, e4, e5, e6⟩ := y2.open
          simp only [Value.slice.injEq] at e2
          obtain ⟨rfl, rfl, _⟩ := e2
          have hmb : m ≤ 40 := by omega
          have HC1 := Lib.hid (fun w' (x : Ext w6 w') => (XW.out.trans (X6.out.trans x)).cell y1)
          have HCs := Lib.hid e6; have Hm := Lib.hid e3
          have hn4 : n4 = n + 1 := by rw [Hn4.out, HWl.out (by omega), Hn.out]
          obtain ⟨b4, o4, rfl, y5⟩ := I4.out.at (show 0 < n4 by omega)
          have y6 := y5 (k + 1) (by omega)
          rw [HWs.out k hlt] at y6
          have y7 := y5 0 (by omega)
          rw [HW0.out (by omega)] at y7
          have c1 := HC1.out _ HY.out.1
          have c6 := (X46.out.trans HY.out.1).cell y6
          have c7 := (X46.out.trans HY.out.1).cell y7
          have hK8 := fun w' (x : Ext w6 w') => K8.out k hlt w' _ _ (HRk.out.ext (XW.out.trans (X6.out.trans x)))
          obtain ⟨M, hM⟩ : ∃ M, M = rmake (sw rows k) := ⟨_, rfl⟩
          rw [← hM] at hK8 c6
          have hMM : (M != M) = false := by rw [bne, beq_iff_eq.2 rfl]; rfl
          have t1 : (k : Int) < n := by omega
          have t2 : IntKind.i64.wrap ((k : Int) + 1) = (k : Int) + 1 := IntWalk.i64_in _ ⟨by omega, by omega⟩
          have t3 : (0 : Int) ≤ (k : Int) + 1 := by omega
          have t4 : ((k : Int) + 1).toNat = k + 1 := by omega
          have t5 : (k : Int) + 1 < n4 := by omega
          have HK8 := Lib.hid hK8
          have t6 : n + 1 ≤ n4 := by omega
          clear hM y1 y2 y5 y6 y7 e3 e6 hK8 hn4
          have q0_1 := e1; have q0_2 := c1; have q0_3 := c6; have q0_4 := c7
          clear e1 c1 c6 c7
          have hcont : True := trivial
          by_cases h0 : k = 0
          · subst h0
            have hK7 := fun w' (x : Ext w6 w') => K7.out (by omega) w' _ _ (HRk.out.ext (XW.out.trans (X6.out.trans x)))
            generalize rneed (sw rows 0) = M2 at hK7 q0_4
            have hMM2 : (M2 != M2) = false := by rw [bne, beq_iff_eq.2 rfl]; rfl
            have HK7 := Lib.hid hK7
            have s1 : (0 : Int) < n := by omega
            have s2 : (0 : Int) < n4 := by omega
            have s3 : 0 < n4 := by omega
            have s4 : 0 < n := by omega
            clear hK7
            simp only [Nat.add_zero, Nat.zero_add, Int.zero_add, Int.natCast_zero] at q0_1 q0_2 q0_3 q0_4 t1 t2 t3 t4 t5 ⊢
            go_wp2
            refine wp_region_held_drew (S := fun w' => w'.cell? ⟨w.heap.size, 0, Option.none⟩ = some (.slice (some ⟨b, o, Option.none⟩) n c) ∧ w'.cell? ⟨b, o, Option.none⟩ = some (.slice a m d) ∧ w'.cell? ⟨b4, o4 + 1, Option.none⟩ = some (.int .i64 M) ∧ w'.cell? ⟨b4, o4, Option.none⟩ = some (.int .i64 M2)) (by kernel_rfl) ?_ (fun hHeld => ?_)
            · exact ⟨q0_1, q0_2, q0_3, q0_4⟩
            refine wpAnyH_take (i := 0) (v := ?va269_0) rfl (by kernel_rfl) (by kernel_rfl) (by kernel_rfl) (fun _ _ _ h => h) (Or.inl ⟨by rfl, fun w hSw => ?ti269_0⟩) (by assumption) ?rest269_0
            case ti269_0 => ((try dsimp only at hSw); go_simp; (first | done | with_reducible rfl))
            try simp only [Act.put, List.getElem_toArray, List.getElem_cons_zero, List.getElem_cons_succ, List.setIfInBounds_toArray, List.set_cons_zero, List.set_cons_succ]
            refine wpAnyH_take (i := 1) (v := ?va272_1) rfl (by kernel_rfl) (by kernel_rfl) (by kernel_rfl) (fun _ _ _ h => h) (Or.inl ⟨by rfl, fun w hSw => ?ti272_1⟩) (by assumption) ?rest272_1
            case ti272_1 => ((try dsimp only at hSw); go_simp; (first | done | with_reducible rfl))
            try simp only [Act.put, List.getElem_toArray, List.getElem_cons_zero, List.getElem_cons_succ, List.setIfInBounds_toArray, List.set_cons_zero, List.set_cons_succ]
            refine wpAnyH_take (i := 2) (v := ?va275_2) rfl (by kernel_rfl) (by kernel_rfl) (by kernel_rfl) (fun _ _ _ h => h) (Or.inl ⟨by rfl, fun w hSw => ?ti275_2⟩) (by assumption) ?rest275_2
            case ti275_2 => ((try dsimp only at hSw); go_simp; (first | done | with_reducible rfl))
            try simp only [Act.put, List.getElem_toArray, List.getElem_cons_zero, List.getElem_cons_succ, List.setIfInBounds_toArray, List.set_cons_zero, List.set_cons_succ]
            refine wpAnyH_take (i := 3) (v := ?va278_3) rfl (by kernel_rfl) (by kernel_rfl) (by kernel_rfl) (fun _ _ _ h => h) (Or.inl ⟨by rfl, fun w hSw => ?ti278_3⟩) (by assumption) ?rest278_3
            case ti278_3 => ((try dsimp only at hSw); go_simp; (first | done | with_reducible rfl))
            try simp only [Act.put, List.getElem_toArray, List.getElem_cons_zero, List.getElem_cons_succ, List.setIfInBounds_toArray, List.set_cons_zero, List.set_cons_succ]
            refine wpAnyH_take (i := 4) (v := ?va281_4) rfl (by kernel_rfl) (by kernel_rfl) (by kernel_rfl) (fun _ _ _ h => h) (Or.inl ⟨by rfl, fun w hSw => ?ti281_4⟩) (by assumption) ?rest281_4
            case ti281_4 => ((try dsimp only at hSw); go_simp; (first | done | with_reducible rfl))
            try simp only [Act.put, List.getElem_toArray, List.getElem_cons_zero, List.getElem_cons_succ, List.setIfInBounds_toArray, List.set_cons_zero, List.set_cons_succ]
            refine wpAnyH_take (i := 5) (v := ?va284_5) rfl (by kernel_rfl) (by kernel_rfl) (by kernel_rfl) (fun _ _ _ h => h) (Or.inl ⟨by rfl, fun w hSw => ?ti284_5⟩) (by assumption) ?rest284_5
            case ti284_5 => ((try dsimp only at hSw); go_simp; (first | done | with_reducible rfl))
            try simp only [Act.put, List.getElem_toArray, List.getElem_cons_zero, List.getElem_cons_succ, List.setIfInBounds_toArray, List.set_cons_zero, List.set_cons_succ]
            refine wpAnyH_take (i := 6) (v := ?va287_6) rfl (by kernel_rfl) (by kernel_rfl) (by kernel_rfl) (fun _ _ _ h => h) (Or.inl ⟨by rfl, fun w hSw => ?ti287_6⟩) (by assumption) ?rest287_6
            case ti287_6 => ((try dsimp only at hSw); go_simp; (first | done | with_reducible rfl))
            try simp only [Act.put, List.getElem_toArray, List.getElem_cons_zero, List.getElem_cons_succ, List.setIfInBounds_toArray, List.set_cons_zero, List.set_cons_succ]
            refine wpAnyH_take (i := 7) (v := ?va290_7) rfl (by kernel_rfl) (by kernel_rfl) (by kernel_rfl) (fun _ _ _ h => h) (Or.inl ⟨by rfl, fun w hSw => ?ti290_7⟩) (by assumption) ?rest290_7
            case ti290_7 => ((try dsimp only at hSw); go_simp; (first | done | with_reducible rfl))
            try simp only [Act.put, List.getElem_toArray, List.getElem_cons_zero, List.getElem_cons_succ, List.setIfInBounds_toArray, List.set_cons_zero, List.set_cons_succ]
            refine wpAnyH_take (i := 8) (v := ?va293_8) rfl (by kernel_rfl) (by kernel_rfl) (by kernel_rfl) (fun _ _ _ h => h) (Or.inl ⟨by rfl, fun w hSw => ?ti293_8⟩) (by assumption) ?rest293_8
            case ti293_8 => ((try dsimp only at hSw); go_simp; (first | done | with_reducible rfl))
            try simp only [Act.put, List.getElem_toArray, List.getElem_cons_zero, List.getElem_cons_succ, List.setIfInBounds_toArray, List.set_cons_zero, List.set_cons_succ]
            refine wpAnyH_take (i := 9) (v := ?va296_9) rfl (by kernel_rfl) (by kernel_rfl) (by kernel_rfl) (fun _ _ _ h => h) (Or.inl ⟨by rfl, fun w hSw => ?ti296_9⟩) (by assumption) ?rest296_9
            case ti296_9 => ((try dsimp only at hSw); go_simp; (first | done | with_reducible rfl))
            try simp only [Act.put, List.getElem_toArray, List.getElem_cons_zero, List.getElem_cons_succ, List.setIfInBounds_toArray, List.set_cons_zero, List.set_cons_succ]
            refine wpAnyH_ready (rs := [10]) (by kernel_rfl) (by simp) ?_
            refine AllReadyH.cons rfl (fun K hK => ?_) AllReadyH.nil
            go_simp
            refine ((HK8.out _ ?_)).mono ?_
            · (refine Ext.trans HY.out.1 ?_; (repeat (first | (with_reducible exact Ext.refl _) | (with_reducible apply Ext.drew) | (with_reducible apply Ext.drewN) | (with_reducible apply Ext.alloc))))
            intro e wa hh
            obtain ⟨rfl, x⟩ := hh
            have Xa : Hid (Ext wr wa) := Lib.hid (Ext.trans (by (repeat (first | (with_reducible exact Ext.refl _) | (with_reducible apply Ext.drew) | (with_reducible apply Ext.drewN) | (with_reducible apply Ext.alloc)))) x)
            have q1_1 := Xa.out.cell q0_1
            have q1_2 := Xa.out.cell q0_2
            have q1_3 := Xa.out.cell q0_3
            have q1_4 := Xa.out.cell q0_4
            go_simp
            refine hK.out _ _ ?_ (fun hHeld => ?_)
            · exact ⟨q1_1, q1_2, q1_3, q1_4⟩
            clear hK K x
            try simp only [Act.put, List.getElem_toArray, List.getElem_cons_zero, List.getElem_cons_succ, List.setIfInBounds_toArray, List.set_cons_zero, List.set_cons_succ]
            refine wpAnyH_take (i := 11) (v := ?va316_11) rfl (by kernel_rfl) (by kernel_rfl) (by kernel_rfl) (fun _ _ _ h => h) (Or.inl ⟨by rfl, fun w hSw => ?ti316_11⟩) (by assumption) ?rest316_11
            case ti316_11 => ((try dsimp only at hSw); go_simp; (first | done | with_reducible rfl))
            try simp only [Act.put, List.getElem_toArray, List.getElem_cons_zero, List.getElem_cons_succ, List.setIfInBounds_toArray, List.set_cons_zero, List.set_cons_succ]
            refine wpAnyH_take (i := 12) (v := ?va319_12) rfl (by kernel_rfl) (by kernel_rfl) (by kernel_rfl) (fun _ _ _ h => h) (Or.inl ⟨by rfl, fun w hSw => ?ti319_12⟩) (by assumption) ?rest319_12
            case ti319_12 => ((try dsimp only at hSw); go_simp; (first | done | with_reducible rfl))
            try simp only [Act.put, List.getElem_toArray, List.getElem_cons_zero, List.getElem_cons_succ, List.setIfInBounds_toArray, List.set_cons_zero, List.set_cons_succ]
            refine wpAnyH_take (i := 13) (v := ?va322_13) rfl (by kernel_rfl) (by kernel_rfl) (by kernel_rfl) (fun _ _ _ h => h) (Or.inl ⟨by rfl, fun w hSw => ?ti322_13⟩) (by assumption) ?rest322_13
            case ti322_13 => ((try dsimp only at hSw); go_simp; (first | done | with_reducible rfl))
            try simp only [Act.put, List.getElem_toArray, List.getElem_cons_zero, List.getElem_cons_succ, List.setIfInBounds_toArray, List.set_cons_zero, List.set_cons_succ]
            refine wpAnyH_take (i := 14) (v := ?va325_14) rfl (by kernel_rfl) (by kernel_rfl) (by kernel_rfl) (fun _ _ _ h => h) (Or.inl ⟨by rfl, fun w hSw => ?ti325_14⟩) (by assumption) ?rest325_14
            case ti325_14 => ((try dsimp only at hSw); go_simp; (first | done | with_reducible rfl))
            try simp only [Act.put, List.getElem_toArray, List.getElem_cons_zero, List.getElem_cons_succ, List.setIfInBounds_toArray, List.set_cons_zero, List.set_cons_succ]
            refine wpAnyH_take (i := 15) (v := ?va328_15) rfl (by kernel_rfl) (by kernel_rfl) (by kernel_rfl) (fun _ _ _ h => h) (Or.inl ⟨by rfl, fun w hSw => ?ti328_15⟩) (by assumption) ?rest328_15
            case ti328_15 => ((try dsimp only at hSw); go_simp; (first | done | with_reducible rfl))
            try simp only [Act.put, List.getElem_toArray, List.getElem_cons_zero, List.getElem_cons_succ, List.setIfInBounds_toArray, List.set_cons_zero, List.set_cons_succ]
            refine wpAnyH_take (i := 16) (v := ?va331_16) rfl (by kernel_rfl) (by kernel_rfl) (by kernel_rfl) (fun _ _ _ h => h) (Or.inl ⟨by rfl, fun w hSw => ?ti331_16⟩) (by assumption) ?rest331_16
            case ti331_16 => ((try dsimp only at hSw); go_simp; (first | done | with_reducible rfl))
            try simp only [Act.put, List.getElem_toArray, List.getElem_cons_zero, List.getElem_cons_succ, List.setIfInBounds_toArray, List.set_cons_zero, List.set_cons_succ]
            refine wpAnyH_take (i := 17) (v := ?va334_17) rfl (by kernel_rfl) (by kernel_rfl) (by kernel_rfl) (fun _ _ _ h => h) (Or.inl ⟨by rfl, fun w hSw => ?ti334_17⟩) (by assumption) ?rest334_17
            case ti334_17 => ((try dsimp only at hSw); go_simp; (first | done | with_reducible rfl))
            try simp only [Act.put, List.getElem_toArray, List.getElem_cons_zero, List.getElem_cons_succ, List.setIfInBounds_toArray, List.set_cons_zero, List.set_cons_succ]
            refine wpAnyH_take (i := 18) (v := ?va337_18) rfl (by kernel_rfl) (by kernel_rfl) (by kernel_rfl) (fun _ _ _ h => h) (Or.inl ⟨by rfl, fun w hSw => ?ti337_18⟩) (by assumption) ?rest337_18
            case ti337_18 => ((try dsimp only at hSw); go_simp; (first | done | with_reducible rfl))
            try simp only [Act.put, List.getElem_toArray, List.getElem_cons_zero, List.getElem_cons_succ, List.setIfInBounds_toArray, List.set_cons_zero, List.set_cons_succ]
            refine wpAnyH_take (i := 19) (v := ?va340_19) rfl (by kernel_rfl) (by kernel_rfl) (by kernel_rfl) (fun _ _ _ h => h) (Or.inl ⟨by rfl, fun w hSw => ?ti340_19⟩) (by assumption) ?rest340_19
            case ti340_19 => ((try dsimp only at hSw); go_simp; (first | done | with_reducible rfl))
            try simp only [Act.put, List.getElem_toArray, List.getElem_cons_zero, List.getElem_cons_succ, List.setIfInBounds_toArray, List.set_cons_zero, List.set_cons_succ]
            refine wpAnyH_take (i := 20) (v := ?va343_20) rfl (by kernel_rfl) (by kernel_rfl) (by kernel_rfl) (fun _ _ _ h => h) (Or.inl ⟨by rfl, fun w hSw => ?ti343_20⟩) (by assumption) ?rest343_20
            case ti343_20 => ((try dsimp only at hSw); go_simp; (first | done | with_reducible rfl))
            try simp only [Act.put, List.getElem_toArray, List.getElem_cons_zero, List.getElem_cons_succ, List.setIfInBounds_toArray, List.set_cons_zero, List.set_cons_succ]
            refine wpAnyH_take (i := 21) (v := ?va346_21) rfl (by kernel_rfl) (by kernel_rfl) (by kernel_rfl) (fun _ _ _ h => h) (Or.inl ⟨by rfl, fun w hSw => ?ti346_21⟩) (by assumption) ?rest346_21
            case ti346_21 => ((try dsimp only at hSw); go_simp; (first | done | with_reducible rfl))
            try simp only [Act.put, List.getElem_toArray, List.getElem_cons_zero, List.getElem_cons_succ, List.setIfInBounds_toArray, List.set_cons_zero, List.set_cons_succ]
            refine wpAnyH_take (i := 22) (v := ?va349_22) rfl (by kernel_rfl) (by kernel_rfl) (by kernel_rfl) (fun _ _ _ h => h) (Or.inl ⟨by rfl, fun w hSw => ?ti349_22⟩) (by assumption) ?rest349_22
            case ti349_22 => ((try dsimp only at hSw); go_simp; (first | done | with_reducible rfl))
            try simp only [Act.put, List.getElem_toArray, List.getElem_cons_zero, List.getElem_cons_succ, List.setIfInBounds_toArray, List.set_cons_zero, List.set_cons_succ]
            refine wpAnyH_ready (rs := [23]) (by kernel_rfl) (by simp) ?_
            refine AllReadyH.cons rfl (fun K hK => ?_) AllReadyH.nil
            go_simp
            refine ((HK7.out _ ?_)).mono ?_
            · (refine Ext.trans (HY.out.1.trans Xa.out) ?_; (repeat (first | (with_reducible exact Ext.refl _) | (with_reducible apply Ext.drew) | (with_reducible apply Ext.drewN) | (with_reducible apply Ext.alloc))))
            intro e wb hh
            obtain ⟨rfl, x⟩ := hh
            have Xb : Hid (Ext wr wb) := Lib.hid (Ext.trans Xa.out (Ext.trans (by (repeat (first | (with_reducible exact Ext.refl _) | (with_reducible apply Ext.drew) | (with_reducible apply Ext.drewN) | (with_reducible apply Ext.alloc)))) x))
            have q2_1 := Xb.out.cell q0_1
            have q2_2 := Xb.out.cell q0_2
            have q2_3 := Xb.out.cell q0_3
            have q2_4 := Xb.out.cell q0_4
            go_simp
            refine hK.out _ _ ?_ (fun hHeld => ?_)
            · exact ⟨q2_1, q2_2, q2_3, q2_4⟩
            clear hK K x
            try simp only [Act.put, List.getElem_toArray, List.getElem_cons_zero, List.getElem_cons_succ, List.setIfInBounds_toArray, List.set_cons_zero, List.set_cons_succ]
            refine wpAnyH_take (i := 24) (v := ?va369_24) rfl (by kernel_rfl) (by kernel_rfl) (by kernel_rfl) (fun _ _ _ h => h) (Or.inl ⟨by rfl, fun w hSw => ?ti369_24⟩) (by assumption) ?rest369_24
            case ti369_24 => ((try dsimp only at hSw); go_simp; (first | done | with_reducible rfl))
            try simp only [Act.put, List.getElem_toArray, List.getElem_cons_zero, List.getElem_cons_succ, List.setIfInBounds_toArray, List.set_cons_zero, List.set_cons_succ]
            refine wpAnyH_take (i := 25) (v := ?va372_25) rfl (by kernel_rfl) (by kernel_rfl) (by kernel_rfl) (fun _ _ _ h => h) (Or.inl ⟨by rfl, fun w hSw => ?ti372_25⟩) (by assumption) ?rest372_25
            case ti372_25 => ((try dsimp only at hSw); go_simp; (first | done | with_reducible rfl))
            try simp only [Act.put, List.getElem_toArray, List.getElem_cons_zero, List.getElem_cons_succ, List.setIfInBounds_toArray, List.set_cons_zero, List.set_cons_succ]
            refine wpAnyH_take (i := 26) (v := ?va375_26) rfl (by kernel_rfl) (by kernel_rfl) (by kernel_rfl) (fun _ _ _ h => h) (Or.inl ⟨by rfl, fun w hSw => ?ti375_26⟩) (by assumption) ?rest375_26
            case ti375_26 => ((try dsimp only at hSw); go_simp; (first | done | with_reducible rfl))
            try simp only [Act.put, List.getElem_toArray, List.getElem_cons_zero, List.getElem_cons_succ, List.setIfInBounds_toArray, List.set_cons_zero, List.set_cons_succ]
            refine wpAnyH_done (by kernel_rfl) ?_ _
            have Xz := Lib.hid Xb.out
            have HYa := Lib.hid (HY.out.later Xz.out)
            have HIk := Lib.hid (fun i (hi : i < m) => HIny.out 0 hlt i (by have := Hm.out; omega))
            obtain ⟨F, hF⟩ : ∃ F, F = yset rows 0 := ⟨_, rfl⟩
            have hsc := yset_succ rows 0
            obtain ⟨L, hL⟩ : ∃ L, L = sw rows 0 := ⟨_, rfl⟩
            rw [← hF, ← hL] at hsc
            rw [← hL] at HCs Hm HIk
            rw [← hF] at HYa ⊢
            have HSc := Lib.hid hsc
            clear hsc hF hL
            go_wp2
            clear q0_1 q0_2 q0_3 q1_1 q1_2 q1_3 t2 t3 t4 t5 hMM
            go_loopw [11, 13, 14] (fun x i _ wr => ∃ j : Nat, j ≤ m ∧ i = .int .i64 j ∧ x = .int .i64 (ycnt (yrow L F j) 256 : Nat) ∧ Hid (YI w6 wr w6.heap.size (yrow L F j))) (fun _ i _ _ => m - (intOf i).toNat)
            case atStart => exact ⟨0, Nat.zero_le _, rfl, rfl, HYa⟩
            case round =>
              obtain ⟨j, hj, rfl, rfl, HY2⟩ := hrel
              have e1 := HD1.out _ (X6.out.trans HY2.out.1)
              have c1 := HC1.out _ HY2.out.1
              try rw [Nat.add_zero] at c1
              by_cases hlt2 : j < m
              · obtain ⟨b', o', hbo, h5⟩ := HCs.out j hlt2
                subst hbo
                obtain ⟨_, u1, _, _, _⟩ := h5.ext (XW.out.trans (X6.out.trans HY2.out.1))
                have hyb := HIk.out j hlt2
                have hst := yrow_succ L F j
                obtain ⟨J, hJ⟩ : ∃ J, J = yrow L F j := ⟨_, rfl⟩
                rw [← hJ] at HY2 hst ⊢
                obtain ⟨sy, hS⟩ : ∃ S, S = (si L j).y := ⟨_, rfl⟩
                rw [← hS] at u1 hst hyb
                have q1 : sy < 256 := by omega
                have q2 := hyb.1
                have q3 : (j : Int) < (m : Int) := by omega
                have y1 := HY2.out.cell (i := sy.toNat) (by omega)
                have y2 := HY2.out.frozen sy.toNat
                have HYp := Lib.hid (HY2.out.put (y := sy.toNat) (by omega))
                have hcl := ycnt_le J 256
                have hca := ycnt_add (f := J) (y := sy.toNat)
                have hold := yadd_old (f := J) (y := sy.toNat)
                have HSt := Lib.hid hst
                clear hS hJ hst h5 hyb
                cases hGy : J sy.toNat
                · rw [hGy] at y1
                  have hc2 := hca hGy 256
                  rw [if_pos (by omega)] at hc2
                  have HC := Lib.hid hc2
                  have hwp : IntKind.i64.wrap ((ycnt J 256 : Nat) + 1 : Int) = (ycnt J 256 : Nat) + 1 := IntWalk.i64_in _ ⟨by omega, by omega⟩
                  clear hca hold hc2 hGy
                  generalize hN2 : ycnt J 256 = N2 at hcl hwp ⊢
                  have HN2 := Lib.hid hN2
                  clear hN2
                  go_wp2
                  go_roundw
                  case rel => exact ⟨j + 1, by omega, by go_num, by rw [HSt.out, HC.out, HN2.out]; congr 1, Lib.hid (by rw [HSt.out]; exact HYp.out)⟩
                  case measure => simp [intOf]; omega
                · rw [hGy] at y1
                  have ho := hold hGy
                  have HO := Lib.hid ho
                  clear hca hold ho hGy
                  go_wp2
                  go_roundw
                  case rel => exact ⟨j + 1, by omega, by go_num, by rw [HSt.out, HO.out], Lib.hid (by rw [HSt.out, HO.out]; exact HY2.out)⟩
                  case measure => simp [intOf]; omega
              · obtain rfl : m = j := by omega
                have HYn := Lib.hid (show YI w6 wr w6.heap.size (yset rows (0 + 1)) by rw [HSc.out, ← Hm.out]; exact HY2.out)
                go_wp2
                go_roundw
                case rel => exact ⟨0 + 1, by omega, by go_num, by rw [HSc.out, ← Hm.out], HYn⟩
                case measure => simp [intOf]; omega
          · have h0' : ((k : Int) == 0) = false := beq_eq_false_iff_ne.2 (by omega)
            go_wp2
            refine wp_region_held_drew (S := fun w' => w'.cell? ⟨w.heap.size, 0, Option.none⟩ = some (.slice (some ⟨b, o, Option.none⟩) n c) ∧ w'.cell? ⟨b, o + k, Option.none⟩ = some (.slice a m d) ∧ w'.cell? ⟨b4, o4 + (k + 1), Option.none⟩ = some (.int .i64 M)) (by kernel_rfl) ?_ (fun hHeld => ?_)
            · exact ⟨q0_1, q0_2, q0_3⟩
            refine wpAnyH_take (i := 0) (v := ?va452_0) rfl (by kernel_rfl) (by kernel_rfl) (by kernel_rfl) (fun _ _ _ h => h) (Or.inl ⟨by rfl, fun w hSw => ?ti452_0⟩) (by assumption) ?rest452_0
            case ti452_0 => ((try dsimp only at hSw); go_simp; (first | done | with_reducible rfl))
            try simp only [Act.put, List.getElem_toArray, List.getElem_cons_zero, List.getElem_cons_succ, List.setIfInBounds_toArray, List.set_cons_zero, List.set_cons_succ]
            refine wpAnyH_take (i := 1) (v := ?va455_1) rfl (by kernel_rfl) (by kernel_rfl) (by kernel_rfl) (fun _ _ _ h => h) (Or.inl ⟨by rfl, fun w hSw => ?ti455_1⟩) (by assumption) ?rest455_1
            case ti455_1 => ((try dsimp only at hSw); go_simp; (first | done | with_reducible rfl))
            try simp only [Act.put, List.getElem_toArray, List.getElem_cons_zero, List.getElem_cons_succ, List.setIfInBounds_toArray, List.set_cons_zero, List.set_cons_succ]
            refine wpAnyH_take (i := 2) (v := ?va458_2) rfl (by kernel_rfl) (by kernel_rfl) (by kernel_rfl) (fun _ _ _ h => h) (Or.inl ⟨by rfl, fun w hSw => ?ti458_2⟩) (by assumption) ?rest458_2
            case ti458_2 => ((try dsimp only at hSw); go_simp; (first | done | with_reducible rfl))
            try simp only [Act.put, List.getElem_toArray, List.getElem_cons_zero, List.getElem_cons_succ, List.setIfInBounds_toArray, List.set_cons_zero, List.set_cons_succ]
            refine wpAnyH_take (i := 3) (v := ?va461_3) rfl (by kernel_rfl) (by kernel_rfl) (by kernel_rfl) (fun _ _ _ h => h) (Or.inl ⟨by rfl, fun w hSw => ?ti461_3⟩) (by assumption) ?rest461_3
            case ti461_3 => ((try dsimp only at hSw); go_simp; (first | done | with_reducible rfl))
            try simp only [Act.put, List.getElem_toArray, List.getElem_cons_zero, List.getElem_cons_succ, List.setIfInBounds_toArray, List.set_cons_zero, List.set_cons_succ]
            refine wpAnyH_take (i := 4) (v := ?va464_4) rfl (by kernel_rfl) (by kernel_rfl) (by kernel_rfl) (fun _ _ _ h => h) (Or.inl ⟨by rfl, fun w hSw => ?ti464_4⟩) (by assumption) ?rest464_4
            case ti464_4 => ((try dsimp only at hSw); go_simp; (first | done | with_reducible rfl))
            try simp only [Act.put, List.getElem_toArray, List.getElem_cons_zero, List.getElem_cons_succ, List.setIfInBounds_toArray, List.set_cons_zero, List.set_cons_succ]
            refine wpAnyH_take (i := 5) (v := ?va467_5) rfl (by kernel_rfl) (by kernel_rfl) (by kernel_rfl) (fun _ _ _ h => h) (Or.inl ⟨by rfl, fun w hSw => ?ti467_5⟩) (by assumption) ?rest467_5
            case ti467_5 => ((try dsimp only at hSw); go_simp; (first | done | with_reducible rfl))
            try simp only [Act.put, List.getElem_toArray, List.getElem_cons_zero, List.getElem_cons_succ, List.setIfInBounds_toArray, List.set_cons_zero, List.set_cons_succ]
            refine wpAnyH_take (i := 6) (v := ?va470_6) rfl (by kernel_rfl) (by kernel_rfl) (by kernel_rfl) (fun _ _ _ h => h) (Or.inl ⟨by rfl, fun w hSw => ?ti470_6⟩) (by assumption) ?rest470_6
            case ti470_6 => ((try dsimp only at hSw); go_simp; (first | done | with_reducible rfl))
            try simp only [Act.put, List.getElem_toArray, List.getElem_cons_zero, List.getElem_cons_succ, List.setIfInBounds_toArray, List.set_cons_zero, List.set_cons_succ]
            refine wpAnyH_take (i := 7) (v := ?va473_7) rfl (by kernel_rfl) (by kernel_rfl) (by kernel_rfl) (fun _ _ _ h => h) (Or.inl ⟨by rfl, fun w hSw => ?ti473_7⟩) (by assumption) ?rest473_7
            case ti473_7 => ((try dsimp only at hSw); go_simp; (first | done | with_reducible rfl))
            try simp only [Act.put, List.getElem_toArray, List.getElem_cons_zero, List.getElem_cons_succ, List.setIfInBounds_toArray, List.set_cons_zero, List.set_cons_succ]
            refine wpAnyH_take (i := 8) (v := ?va476_8) rfl (by kernel_rfl) (by kernel_rfl) (by kernel_rfl) (fun _ _ _ h => h) (Or.inl ⟨by rfl, fun w hSw => ?ti476_8⟩) (by assumption) ?rest476_8
            case ti476_8 => ((try dsimp only at hSw); go_simp; (first | done | with_reducible rfl))
            try simp only [Act.put, List.getElem_toArray, List.getElem_cons_zero, List.getElem_cons_succ, List.setIfInBounds_toArray, List.set_cons_zero, List.set_cons_succ]
            refine wpAnyH_take (i := 9) (v := ?va479_9) rfl (by kernel_rfl) (by kernel_rfl) (by kernel_rfl) (fun _ _ _ h => h) (Or.inl ⟨by rfl, fun w hSw => ?ti479_9⟩) (by assumption) ?rest479_9
            case ti479_9 => ((try dsimp only at hSw); go_simp; (first | done | with_reducible rfl))
            try simp only [Act.put, List.getElem_toArray, List.getElem_cons_zero, List.getElem_cons_succ, List.setIfInBounds_toArray, List.set_cons_zero, List.set_cons_succ]
            refine wpAnyH_ready (rs := [10]) (by kernel_rfl) (by simp) ?_
            refine AllReadyH.cons rfl (fun K hK => ?_) AllReadyH.nil
            go_simp
            refine ((HK8.out _ ?_)).mono ?_
            · (refine Ext.trans HY.out.1 ?_; (repeat (first | (with_reducible exact Ext.refl _) | (with_reducible apply Ext.drew) | (with_reducible apply Ext.drewN) | (with_reducible apply Ext.alloc))))
            intro e wa hh
            obtain ⟨rfl, x⟩ := hh
            have Xa : Hid (Ext wr wa) := Lib.hid (Ext.trans (by (repeat (first | (with_reducible exact Ext.refl _) | (with_reducible apply Ext.drew) | (with_reducible apply Ext.drewN) | (with_reducible apply Ext.alloc)))) x)
            have q1_1 := Xa.out.cell q0_1
            have q1_2 := Xa.out.cell q0_2
            have q1_3 := Xa.out.cell q0_3
            go_simp
            refine hK.out _ _ ?_ (fun hHeld => ?_)
            · exact ⟨q1_1, q1_2, q1_3⟩
            clear hK K x
            try simp only [Act.put, List.getElem_toArray, List.getElem_cons_zero, List.getElem_cons_succ, List.setIfInBounds_toArray, List.set_cons_zero, List.set_cons_succ]
            refine wpAnyH_take (i := 11) (v := ?va498_11) rfl (by kernel_rfl) (by kernel_rfl) (by kernel_rfl) (fun _ _ _ h => h) (Or.inl ⟨by rfl, fun w hSw => ?ti498_11⟩) (by assumption) ?rest498_11
            case ti498_11 => ((try dsimp only at hSw); go_simp; (first | done | with_reducible rfl))
            try simp only [Act.put, List.getElem_toArray, List.getElem_cons_zero, List.getElem_cons_succ, List.setIfInBounds_toArray, List.set_cons_zero, List.set_cons_succ]
            refine wpAnyH_take (i := 12) (v := ?va501_12) rfl (by kernel_rfl) (by kernel_rfl) (by kernel_rfl) (fun _ _ _ h => h) (Or.inl ⟨by rfl, fun w hSw => ?ti501_12⟩) (by assumption) ?rest501_12
            case ti501_12 => ((try dsimp only at hSw); go_simp; (first | done | with_reducible rfl))
            try simp only [Act.put, List.getElem_toArray, List.getElem_cons_zero, List.getElem_cons_succ, List.setIfInBounds_toArray, List.set_cons_zero, List.set_cons_succ]
            refine wpAnyH_take (i := 13) (v := ?va504_13) rfl (by kernel_rfl) (by kernel_rfl) (by kernel_rfl) (fun _ _ _ h => h) (Or.inl ⟨by rfl, fun w hSw => ?ti504_13⟩) (by assumption) ?rest504_13
            case ti504_13 => ((try dsimp only at hSw); go_simp; (first | done | with_reducible rfl))
            try simp only [Act.put, List.getElem_toArray, List.getElem_cons_zero, List.getElem_cons_succ, List.setIfInBounds_toArray, List.set_cons_zero, List.set_cons_succ]
            refine wpAnyH_take (i := 14) (v := ?va507_14) rfl (by kernel_rfl) (by kernel_rfl) (by kernel_rfl) (fun _ _ _ h => h) (Or.inl ⟨by rfl, fun w hSw => ?ti507_14⟩) (by assumption) ?rest507_14
            case ti507_14 => ((try dsimp only at hSw); go_simp; (first | done | with_reducible rfl))
            try simp only [Act.put, List.getElem_toArray, List.getElem_cons_zero, List.getElem_cons_succ, List.setIfInBounds_toArray, List.set_cons_zero, List.set_cons_succ]
            refine wpAnyH_take (i := 15) (v := ?va510_15) rfl (by kernel_rfl) (by kernel_rfl) (by kernel_rfl) (fun _ _ _ h => h) (Or.inl ⟨by rfl, fun w hSw => ?ti510_15⟩) (by assumption) ?rest510_15
            case ti510_15 => ((try dsimp only at hSw); go_simp; (first | done | with_reducible rfl))
            try simp only [Act.put, List.getElem_toArray, List.getElem_cons_zero, List.getElem_cons_succ, List.setIfInBounds_toArray, List.set_cons_zero, List.set_cons_succ]
            refine wpAnyH_take (i := 16) (v := undef) rfl (by kernel_rfl) (by kernel_rfl) (by kernel_rfl) (fun _ _ _ h => h) (Or.inr ⟨by rfl, rfl⟩) (by assumption) ?_
            try simp only [Act.put, List.getElem_toArray, List.getElem_cons_zero, List.getElem_cons_succ, List.setIfInBounds_toArray, List.set_cons_zero, List.set_cons_succ]
            refine wpAnyH_take (i := 17) (v := undef) rfl (by kernel_rfl) (by kernel_rfl) (by kernel_rfl) (fun _ _ _ h => h) (Or.inr ⟨by rfl, rfl⟩) (by assumption) ?_
            try simp only [Act.put, List.getElem_toArray, List.getElem_cons_zero, List.getElem_cons_succ, List.setIfInBounds_toArray, List.set_cons_zero, List.set_cons_succ]
            refine wpAnyH_take (i := 18) (v := undef) rfl (by kernel_rfl) (by kernel_rfl) (by kernel_rfl) (fun _ _ _ h => h) (Or.inr ⟨by rfl, rfl⟩) (by assumption) ?_
            try simp only [Act.put, List.getElem_toArray, List.getElem_cons_zero, List.getElem_cons_succ, List.setIfInBounds_toArray, List.set_cons_zero, List.set_cons_succ]
            refine wpAnyH_take (i := 19) (v := undef) rfl (by kernel_rfl) (by kernel_rfl) (by kernel_rfl) (fun _ _ _ h => h) (Or.inr ⟨by rfl, rfl⟩) (by assumption) ?_
            try simp only [Act.put, List.getElem_toArray, List.getElem_cons_zero, List.getElem_cons_succ, List.setIfInBounds_toArray, List.set_cons_zero, List.set_cons_succ]
            refine wpAnyH_take (i := 20) (v := undef) rfl (by kernel_rfl) (by kernel_rfl) (by kernel_rfl) (fun _ _ _ h => h) (Or.inr ⟨by rfl, rfl⟩) (by assumption) ?_
            try simp only [Act.put, List.getElem_toArray, List.getElem_cons_zero, List.getElem_cons_succ, List.setIfInBounds_toArray, List.set_cons_zero, List.set_cons_succ]
            refine wpAnyH_take (i := 21) (v := undef) rfl (by kernel_rfl) (by kernel_rfl) (by kernel_rfl) (fun _ _ _ h => h) (Or.inr ⟨by rfl, rfl⟩) (by assumption) ?_
            try simp only [Act.put, List.getElem_toArray, List.getElem_cons_zero, List.getElem_cons_succ, List.setIfInBounds_toArray, List.set_cons_zero, List.set_cons_succ]
            refine wpAnyH_take (i := 22) (v := undef) rfl (by kernel_rfl) (by kernel_rfl) (by kernel_rfl) (fun _ _ _ h => h) (Or.inr ⟨by rfl, rfl⟩) (by assumption) ?_
            try simp only [Act.put, List.getElem_toArray, List.getElem_cons_zero, List.getElem_cons_succ, List.setIfInBounds_toArray, List.set_cons_zero, List.set_cons_succ]
            refine wpAnyH_take (i := 23) (v := undef) rfl (by kernel_rfl) (by kernel_rfl) (by kernel_rfl) (fun _ _ _ h => h) (Or.inr ⟨by rfl, rfl⟩) (by assumption) ?_
            try simp only [Act.put, List.getElem_toArray, List.getElem_cons_zero, List.getElem_cons_succ, List.setIfInBounds_toArray, List.set_cons_zero, List.set_cons_succ]
            refine wpAnyH_take (i := 24) (v := undef) rfl (by kernel_rfl) (by kernel_rfl) (by kernel_rfl) (fun _ _ _ h => h) (Or.inr ⟨by rfl, rfl⟩) (by assumption) ?_
            try simp only [Act.put, List.getElem_toArray, List.getElem_cons_zero, List.getElem_cons_succ, List.setIfInBounds_toArray, List.set_cons_zero, List.set_cons_succ]
            refine wpAnyH_take (i := 25) (v := ?va531_25) rfl (by kernel_rfl) (by kernel_rfl) (by kernel_rfl) (fun _ _ _ h => h) (Or.inl ⟨by rfl, fun w hSw => ?ti531_25⟩) (by assumption) ?rest531_25
            case ti531_25 => ((try dsimp only at hSw); go_simp; (first | done | with_reducible rfl))
            try simp only [Act.put, List.getElem_toArray, List.getElem_cons_zero, List.getElem_cons_succ, List.setIfInBounds_toArray, List.set_cons_zero, List.set_cons_succ]
            refine wpAnyH_take (i := 26) (v := ?va534_26) rfl (by kernel_rfl) (by kernel_rfl) (by kernel_rfl) (fun _ _ _ h => h) (Or.inl ⟨by rfl, fun w hSw => ?ti534_26⟩) (by assumption) ?rest534_26
            case ti534_26 => ((try dsimp only at hSw); go_simp; (first | done | with_reducible rfl))
            try simp only [Act.put, List.getElem_toArray, List.getElem_cons_zero, List.getElem_cons_succ, List.setIfInBounds_toArray, List.set_cons_zero, List.set_cons_succ]
            refine wpAnyH_done (by kernel_rfl) ?_ _
            have Xz := Lib.hid Xa.out
            have HYa := Lib.hid (HY.out.later Xz.out)
            have HIk := Lib.hid (fun i (hi : i < m) => HIny.out k hlt i (by have := Hm.out; omega))
            obtain ⟨F, hF⟩ : ∃ F, F = yset rows k := ⟨_, rfl⟩
            have hsc := yset_succ rows k
            obtain ⟨L, hL⟩ : ∃ L, L = sw rows k := ⟨_, rfl⟩
            rw [← hF, ← hL] at hsc
            rw [← hL] at HCs Hm HIk
            rw [← hF] at HYa ⊢
            have HSc := Lib.hid hsc
            clear hsc hF hL
            go_wp2
            clear q0_1 q0_2 q0_3 q1_1 q1_2 q1_3 t2 t3 t4 t5 hMM
            go_loopw [11, 13, 14] (fun x i _ wr => ∃ j : Nat, j ≤ m ∧ i = .int .i64 j ∧ x = .int .i64 (ycnt (yrow L F j) 256 : Nat) ∧ Hid (YI w6 wr w6.heap.size (yrow L F j))) (fun _ i _ _ => m - (intOf i).toNat)
            case atStart => exact ⟨0, Nat.zero_le _, rfl, rfl, HYa⟩
            case round =>
              obtain ⟨j, hj, rfl, rfl, HY2⟩ := hrel
              have e1 := HD1.out _ (X6.out.trans HY2.out.1)
              have c1 := HC1.out _ HY2.out.1
              by_cases hlt2 : j < m
              · obtain ⟨b', o', hbo, h5⟩ := HCs.out j hlt2
                subst hbo
                obtain ⟨_, u1, _, _, _⟩ := h5.ext (XW.out.trans (X6.out.trans HY2.out.1))
                have hyb := HIk.out j hlt2
                have hst := yrow_succ L F j
                obtain ⟨J, hJ⟩ : ∃ J, J = yrow L F j := ⟨_, rfl⟩
                rw [← hJ] at HY2 hst ⊢
                obtain ⟨sy, hS⟩ : ∃ S, S = (si L j).y := ⟨_, rfl⟩
                rw [← hS] at u1 hst hyb
                have q1 : sy < 256 := by omega
                have q2 := hyb.1
                have q3 : (j : Int) < (m : Int) := by omega
                have y1 := HY2.out.cell (i := sy.toNat) (by omega)
                have y2 := HY2.out.frozen sy.toNat
                have HYp := Lib.hid (HY2.out.put (y := sy.toNat) (by omega))
                have hcl := ycnt_le J 256
                have hca := ycnt_add (f := J) (y := sy.toNat)
                have hold := yadd_old (f := J) (y := sy.toNat)
                have HSt := Lib.hid hst
                clear hS hJ hst h5 hyb
                cases hGy : J sy.toNat
                · rw [hGy] at y1
                  have hc2 := hca hGy 256
                  rw [if_pos (by omega)] at hc2
                  have HC := Lib.hid hc2
                  have hwp : IntKind.i64.wrap ((ycnt J 256 : Nat) + 1 : Int) = (ycnt J 256 : Nat) + 1 := IntWalk.i64_in _ ⟨by omega, by omega⟩
                  clear hca hold hc2 hGy
                  generalize hN2 : ycnt J 256 = N2 at hcl hwp ⊢
                  have HN2 := Lib.hid hN2
                  clear hN2
                  go_wp2
                  go_roundw
                  case rel => exact ⟨j + 1, by omega, by go_num, by rw [HSt.out, HC.out, HN2.out]; congr 1, Lib.hid (by rw [HSt.out]; exact HYp.out)⟩
                  case measure => simp [intOf]; omega
                · rw [hGy] at y1
                  have ho := hold hGy
                  have HO := Lib.hid ho
                  clear hca hold ho hGy
                  go_wp2
                  go_roundw
                  case rel => exact ⟨j + 1, by omega, by go_num, by rw [HSt.out, HO.out], Lib.hid (by rw [HSt.out, HO.out]; exact HY2.out)⟩
                  case measure => simp [intOf]; omega
              · obtain rfl : m = j := by omega
                have HYn := Lib.hid (show YI w6 wr w6.heap.size (yset rows (k + 1)) by rw [HSc.out, ← Hm.out]; exact HY2.out)
                go_wp2
                go_roundw
                case rel => exact ⟨k + 1, by omega, by go_num, by rw [HSc.out, ← Hm.out], HYn⟩
                case measure => simp [intOf]; omega
        · obtain rfl : n = k := by omega
          have HYL := Lib.hid (ylst_len (yset rows n) 256)
          have hin2 := ylst_inc (yset rows n) 256
          have hmem := fun i (hi : i < (ylst (yset rows n) 256).length) => ylst_mem (gi_mem (xs := ylst (yset rows n) 256) hi)
          have K9b := K9.out
          rw [← Hn.out] at K9b
          have HK9 := Lib.hid K9b
          obtain ⟨F, hF⟩ : ∃ F, F = yset rows n := ⟨_, rfl⟩
          rw [← hF] at HY HYL hin2 hmem HK9 ⊢
          obtain ⟨P, hP⟩ : ∃ P, P = ycnt F 256 := ⟨_, rfl⟩
          rw [← hP] at HYL HK9 ⊢
          obtain ⟨L, hL⟩ : ∃ L, L = ylst F 256 := ⟨_, rfl⟩
          rw [← hL] at HYL HK9 hin2 hmem
          have HInc := Lib.hid hin2; have HMem := Lib.hid hmem
          have X7 := Lib.hid (X6.out.trans HY.out.1)
          have hPl : P ≤ 256 := by rw [hP]; exact ycnt_le F 256
          clear hF hP hL K9b K9 hin2 hmem hlt hk
          obtain ⟨w7, hw7⟩ : ∃ w7 : World, w7 = wr := ⟨_, rfl⟩
          rw [← hw7] at HY e1 X7 ⊢
          clear hw7
          have y0 := Lib.hid (Ext.refl w7)
          go_wp2_with fail
          refine ((HK9.out _ (XW.out.trans X7.out))).mono ?_
          rintro e w8 ⟨v8, rfl, i8, x, _⟩
          have X8 := Lib.hid (y0.out.trans x)
          clear e1
          obtain ⟨a8, n8, c8, rfl, hn8, hc8, hi8⟩ := i8.out
          have I8 := Lib.hid hi8
          have Hn8 := Lib.hid hn8
          clear i8 hi8 hn8
          clear x
          obtain rfl : c8 = P := hc8
          obtain rfl : n8 = c8 := by rw [Hn8.out, HYL.out]
          go_wp2
          go_loopw [16] (fun i wr => ∃ j : Nat, j ≤ n8 ∧ i = .int .i64 j ∧ Hid (Ext w8 wr)) (fun i _ => n8 - (intOf i).toNat)
          case atStart => exact ⟨0, Nat.zero_le _, rfl, Lib.hid (Ext.refl _)⟩
          case round =>
            obtain ⟨j, hj, rfl, HX⟩ := hrel
            by_cases hlt : j < n8
            · obtain ⟨b8, o8, rfl, y8⟩ := I8.out.at hlt
              have y9 := HX.out.cell (y8 j hlt)
              obtain ⟨v1, v2, v3⟩ := HMem.out j (by rw [← Hn8.out]; exact hlt)
              have z1 := (X8.out.trans HX.out).cell (HY.out.cell (i := (gi L j).toNat) (by omega))
              rw [v3] at z1
              have t1 : (j : Int) < n8 := by omega
              by_cases h0 : j = 0
              · subst h0
                obtain ⟨V, hV⟩ : ∃ V, V = gi L 0 := ⟨_, rfl⟩
                rw [← hV] at y9 v1 v2 z1
                rw [Nat.add_zero] at y9
                have t2 : V < 256 := by omega
                have t3 : (0 : Int) < n8 := by omega
                have t4 : 0 < n8 := hlt
                clear y8 v3 hV v2 hj t1
                rw [show ((0 : Nat) : Int) = 0 from rfl]
                go_wp2
                go_quiet (fail)
                clear y9 z1
                go_wp2
                go_roundw
                case rel => exact ⟨1, by omega, rfl, Lib.hid (by first | exact HX.out | exact (HX.out.drewN _))⟩
                case measure => simp [intOf]; omega
              · have y10 := HX.out.cell (y8 (j - 1) (by omega))
                have hin := HInc.out (j - 1) (by rw [← Hn8.out]; omega)
                rw [show j - 1 + 1 = j by omega] at hin
                obtain ⟨V, hV⟩ : ∃ V, V = gi L j := ⟨_, rfl⟩
                obtain ⟨U, hU⟩ : ∃ U, U = gi L (j - 1) := ⟨_, rfl⟩
                rw [← hV] at y9 v1 v2 z1 hin
                rw [← hU] at y10 hin
                have t2 : V < 256 := by omega
                have t3 : (0 : Int) < j := by omega
                have t3' : 0 < j := by omega
                have t4 : IntKind.i64.wrap ((j : Int) - 1) = (j : Int) - 1 := IntWalk.i64_in _ ⟨by omega, by omega⟩
                have t5 : ((j : Int) - 1).toNat = j - 1 := by omega
                have t6 : (0 : Int) ≤ (j : Int) - 1 := by omega
                have t7 : (j : Int) - 1 < n8 := by omega
                have t8 : 1 ≤ (j : Int) := by omega
                have t9 : ¬ V ≤ U := by omega
                clear y8 v3 hV hU v2 hin
                go_wp2
                go_quiet (fail)
                clear y9 z1 y10 t4 t5 t6 t7 t8 t3
                go_wp2
                go_roundw
                case rel => exact ⟨j + 1, by omega, by go_num, Lib.hid (by first | exact HX.out | exact (HX.out.drewN _))⟩
                case measure => simp [intOf]; omega
            · obtain rfl : n8 = j := by omega
              have HX9 := Lib.hid (XW.out.trans (X7.out.trans (X8.out.trans HX.out)))
              have e1 := HD1.out _ (X7.out.trans (X8.out.trans HX.out))
              have HK6 := Lib.hid (K6.out _ HX9.out)
              have t1 : ((n8 : Int) == (n8 : Int)) = true := by simp
              by_cases h0 : n = 0
              · have h4 : n4 = 0 := by rw [Hn4.out, HWn.out h0]; rfl
                subst h0; subst h4
                clear HK9
                go_wp2_with fail
                refine HK6.out.mono ?_
                rintro e w9 ⟨rfl, x⟩
                have X9 := Lib.hid (HX9.out.trans x)
                clear x
                go_wp2
                go_ret
                exact ⟨rfl, X9.out⟩
              · have h4 : n4 = n + 1 := by rw [Hn4.out, HWl.out (by omega), Hn.out]
                subst h4
                have t2 : (((n + 1 : Nat) : Int) == (n : Int) + 1) = true := by simp
                have t3 : IntKind.i64.wrap ((n : Int) + 1) = (n : Int) + 1 := IntWalk.i64_in _ ⟨by omega, by omega⟩
                clear HK9
                go_wp2_with fail
                refine HK6.out.mono ?_
                rintro e w9 ⟨rfl, x⟩
                have X9 := Lib.hid (HX9.out.trans x)
                clear x
                go_wp2
                go_ret
                exact ⟨rfl, X9.out⟩
end Go.Proofs.YtkolebjpeaigcaaDoor
