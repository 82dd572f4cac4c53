/- The law WordsErrors: its walk, a part. -/
import Derived.Test.YtbappfeojdehgaaLe0
namespace Go.Proofs.Ytbappfeojdehgaa
set_option linter.unusedVariables false
set_option linter.unusedSimpArgs false
open Go Go.RowKit

set_option maxHeartbeats 4000000 in
set_option maxRecDepth 100000 in
theorem Errors_B3 (n t : Int) (v : Value) (c : Nat) (xs : List Int) (w : World) (h : IS .i64 w v c xs) (hl : xs.length ≤ 70) (t0 : 0 ≤ t) (t1 : t ≤ 255)
    (hb : ∀ i, i < xs.length → -9223372036854775808 ≤ gi xs i ∧ gi xs i ≤ 9223372036854775807) (n1 : 1 ≤ n) (n8 : n ≤ 8) (h64 : xs.length ≤ 64) (hgood : ∀ i, i < xs.length → wbad n (gi xs i) = false) :
    Calls Try.prog 7 #[.int .i64 n, v, .int .u8 t] w fun e w' => e = .returned (.bool true) ∧ Ext w w' := by
  have HIS := Lib.hid h
  obtain ⟨T, hT⟩ : ∃ T : Nat, (T : Int) = t % 21 := ⟨(t % 21).toNat, by omega⟩
  have T20 : T ≤ 20 := by omega
  have hT' : t % 21 = T := hT.symm
  have Htt := Lib.hid hT'
  clear hT hT'
  obtain ⟨m, hm⟩ : ∃ m : Nat, (m : Int) = n := ⟨n.toNat, by omega⟩
  have hW : wcheck (m : Int) xs = 0 := by rw [hm]; exact wcheck_ok n1 n8 h64 hgood
  have hZ : ∀ i, i < xs.length → wbad (m : Int) (gi xs i) = false := by rw [hm]; exact hgood
  have m1 : 1 ≤ m := by omega
  have m8 : m ≤ 8 := by omega
  have HW := Lib.hid hW; have HZ := Lib.hid hZ; have Hm := Lib.hid hm
  clear hW hgood hZ hm
  obtain ⟨h1, h2, ao, hv, hao⟩ := h.open
  subst hv
  obtain ⟨N, hN⟩ : ∃ N, N = xs.length := ⟨_, rfl⟩
  rw [← hN] at hao h1 hl hb HIS ⊢
  have h64N : N ≤ 64 := by rw [hN]; exact h64
  have HN := Lib.hid hN
  have Hb := Lib.hid hb
  unfold maxLen at h2
  clear h hN hb
  go_enter Try.func7, Try.ntmps7
  go_wp2
  go_loopw [7, 8] (fun want i wr => ∃ k : Nat, k ≤ N ∧ i = .int .i64 k ∧ w = wr ∧ want = .int .i64 0) (fun _ i _ => N - (intOf i).toNat)
  case atStart => exact ⟨0, Nat.zero_le _, rfl, rfl, rfl⟩
  case round =>
    obtain ⟨k, hk, rfl, rfl, rfl⟩ := hrel
    by_cases hlt : k < N
    · obtain ⟨b, o, rfl, hc⟩ : ∃ b o, ao = some ⟨b, o, none⟩ ∧ ∀ i, i < N → w.cell? ⟨b, o + i, none⟩ = some (.int .i64 (gi xs i)) := by
        rcases hao with ⟨_, h0, _⟩ | h
        · omega
        · exact h
      have hck := hc k hlt
      obtain ⟨g1, g2⟩ := Hb.out k hlt
      clear hc hao
      have hgf := HZ.out k (by rw [← HN.out]; exact hlt)
      rw [Hm.out] at hgf
      have z : ¬ gi xs k = 0 ∧ 1 - n ≤ gi xs k ∧ gi xs k ≤ n - 1 := by unfold wbad at hgf; simp at hgf; omega
      obtain ⟨z1, z2, z3⟩ := z
      have z' : (gi xs k == 0) = false := by simp [z1]
      have y1 : decide (n ≤ gi xs k) = false := by simp; omega
      have y2 : decide (gi xs k ≤ -n) = false := by simp; omega
      clear hgf z1
      go_wp2
      go_roundw
      case rel => exact ⟨k + 1, by omega, by go_num, (by first | rfl | exact trivial), rfl⟩
      case measure => simp [intOf]; omega
    · obtain rfl : k = N := by omega
      have HB1 : Hid (∀ i, i < xs.length → -100 ≤ gi xs i ∧ gi xs i ≤ 100) := Lib.hid fun i hi => by
        have := HZ.out i hi
        unfold wbad at this; simp at this; omega
      have HL : Hid (xs.length ≤ 64) := Lib.hid h64
      have HWn : Hid (wcheck n xs = 0) := by have h := HW.out; rw [Hm.out] at h; exact Lib.hid h
      go_wp2_with fail
      have hcl := Reduce_calls m _ _ _ _ (HIS.out) HW.out HB1.out HL.out
      rw [Hm.out] at hcl
      refine hcl.mono ?_
      rintro e w1 ⟨v1, rfl, h1, x1⟩
      clear hcl
      have X1 : Hid (Ext w w1) := Lib.hid (x1)
      have H1 := Lib.hid h1
      clear h1
      clear x1
      go_wp2_with fail
      have hcl := Inverse_calls m _ _ _ _ (HIS.out.ext X1.out) HW.out HB1.out HL.out
      rw [Hm.out] at hcl
      refine hcl.mono ?_
      rintro e w2 ⟨v2, rfl, h2, x2⟩
      clear hcl
      have X2 : Hid (Ext w w2) := Lib.hid (X1.out.trans x2)
      have H2 := Lib.hid h2
      clear h2
      clear x2
      go_wp2_with fail
      have hcl := Permutation_calls m _ _ _ _ (HIS.out.ext X2.out) HW.out
      rw [Hm.out] at hcl
      refine hcl.mono ?_
      rintro e w3 ⟨v3, rfl, h3, x3⟩
      clear hcl
      have X3 : Hid (Ext w w3) := Lib.hid (X2.out.trans x3)
      have H3 := Lib.hid h3
      clear h3
      clear x3
      go_wp2_with fail
      have hcl := Sum_calls m _ _ _ _ (HIS.out.ext X3.out) HW.out
      rw [Hm.out] at hcl
      refine hcl.mono ?_
      rintro e w4 ⟨rfl, x4⟩
      clear hcl
      have X4 : Hid (Ext w w4) := Lib.hid (X3.out.trans x4)
      have XP4 : Hid (Ext w3 w4) := Lib.hid (x4)
      clear x4
      go_wp2_with fail
      have hcl := Links_calls m _ _ _ _ (HIS.out.ext X4.out) HW.out
      rw [Hm.out] at hcl
      refine hcl.mono ?_
      rintro e w5 ⟨v5, rfl, h5, x5⟩
      clear hcl
      have X5 : Hid (Ext w w5) := Lib.hid (X4.out.trans x5)
      have H5 := Lib.hid h5
      clear h5
      have XP5 : Hid (Ext w3 w5) := Lib.hid (XP4.out.trans x5)
      clear x5
      go_wp2_with fail
      have hcl := Mirror_calls m _ _ _ _ (HIS.out.ext X5.out) HW.out HB1.out HL.out
      rw [Hm.out] at hcl
      refine hcl.mono ?_
      rintro e w6 ⟨v6, rfl, h6, x6⟩
      clear hcl
      have X6 : Hid (Ext w w6) := Lib.hid (X5.out.trans x6)
      have H6 := Lib.hid h6
      clear h6
      have XP6 : Hid (Ext w3 w6) := Lib.hid (XP5.out.trans x6)
      clear x6
      go_wp2_with fail
      have hcl := Flip_calls m _ _ _ _ (HIS.out.ext X6.out) HW.out (by omega) HB1.out HL.out
      rw [Hm.out] at hcl
      refine hcl.mono ?_
      rintro e w7 ⟨v7, rfl, h7, x7⟩
      clear hcl
      have X7 : Hid (Ext w w7) := Lib.hid (X6.out.trans x7)
      have H7 := Lib.hid h7
      clear h7
      have XP7 : Hid (Ext w3 w7) := Lib.hid (XP6.out.trans x7)
      clear x7
      go_wp2_with fail
      have hcl := Check_calls n _ _ _ _ (HIS.out.ext X7.out)
      rw [HWn.out] at hcl
      refine hcl.mono ?_
      rintro e w8 ⟨rfl, rfl⟩
      clear hcl
      go_wp2_with fail
      have hpk := pok_permOf (n := m) (xs := xs) HZ.out (by omega) (by omega)
      have hpc : pcheck (permOf m xs) = 0 := pcheck_ok (by rw [hpk.2]; omega) (by rw [hpk.2]; omega) hpk.1
      have hpb : ∀ i, i < (permOf m xs).length → 0 ≤ gi (permOf m xs) i ∧ gi (permOf m xs) i ≤ 255 := fun i hi => by
        have := hpk.1.1 _ (gi_mem hi)
        rw [hpk.2] at this; omega
      have HPC := Lib.hid hpc; have HPB := Lib.hid hpb
      clear hpk hpc hpb
      have hq := Lib.hid (H3.out.ext XP7.out)
      obtain ⟨_, _, a3, rfl, _⟩ := H3.out.open
      go_wp2_with fail
      have hcl := Pcheck_calls _ _ _ _ hq.out HPB.out
      rw [HPC.out] at hcl
      refine hcl.mono ?_
      rintro e w9 ⟨rfl, x9⟩
      have XL := Lib.hid (X7.out.trans x9)
      clear hcl x9
      go_wp2
      go_loopw [23, 24] (fun vv i wr => ∃ k : Nat, k ≤ T ∧ i = .int .i64 k ∧ Hid (Ext w wr ∧ wr.ownsRow w.heap.size 3 1 vv (2 * k) ((pows k).map (Value.int .i64)))) (fun _ i _ => T - (intOf i).toNat)
      case atStart => exact ⟨0, Nat.zero_le _, rfl, Lib.hid ⟨XL.out, by simpa [pows] using World.ownsRow_nil _ _ _ _⟩⟩
      case round =>
        obtain ⟨k, hk, rfl, H⟩ := hrel
        have htt := Htt.out
        by_cases hlt : k < T
        · go_wp2_with (at_builtin; refine app_own eiInt rfl _ _ rfl w.heap.size _ (2 * k) _ rfl (World.ownsRow.alloc H.out.2 _) _ 2 [.int .i64 1, .int .i64 (-2)] rfl (VS.lit rfl rfl rfl (by decide)) (by intro u hu; simp at hu; rcases hu with rfl | rfl <;> rfl) ?c1 ?c2 ?c3 ?_)
          case c1 => simp; omega
          case c2 => simp; omega
          case c3 => have := H.out.1.size; simp; omega
          intro v1 w1 hown hb1
          have H1 : Hid (Ext w w1 ∧ w1.ownsRow w.heap.size 3 1 v1 (2 * (k + 1)) ((pows (k + 1)).map (Value.int .i64))) := Lib.hid ⟨Below.trans (H.out.1.alloc _) hb1, by
            rw [pows, List.map_append]; simpa [Nat.mul_add] using hown⟩
          clear hown hb1
          go_wp2
          go_roundw
          case rel => exact ⟨k + 1, by omega, by go_num, H1⟩
          case measure => simp [intOf]; omega
        · obtain rfl : k = T := by omega
          have hl2 := pows_len k
          obtain ⟨c9, h9⟩ := IS.of_own (k := .i64) (xs := pows k) (by rw [← hl2] at H; exact H.out.2)
          have H9 := Lib.hid h9
          have XA := Lib.hid H.out.1
          clear h9 hl2 H
          by_cases hk12 : k ≤ 12
          · have hact := fun w v c h => Act_calls 3 v c (pows k) w h (pows_check (by omega)) (pows_fits hk12)
            have Hact := Lib.hid hact
            have hrows := pows_rows hk12
            have hRl : (actRows 3 (pows k)).length = 3 := actRows_len _ _
            obtain ⟨R, hR⟩ : ∃ R, R = actRows 3 (pows k) := ⟨_, rfl⟩
            rw [← hR] at hrows hRl
            have Hrows := Lib.hid hrows; have HRl := Lib.hid hRl; have HR := Lib.hid hR
            clear hact hrows hRl hR
            go_wp2_with fail
            refine (Hact.out _ _ _ H9.out).mono ?_
            rintro e wb ⟨v9, rfl, ⟨vs, h4⟩, x4⟩
            rw [← HR.out] at h4
            have hs := h4.1
            obtain ⟨ao9, hv9, _, _, _, hcells⟩ := hs
            have hl3 : ((List.range R.length).map vs).length = 3 := by simp [HRl.out]
            rw [hl3] at hv9
            have hnn := h4.1.nn (by rw [hl3]; omega)
            obtain ⟨b9, o9, n9, c9', hnn⟩ := hnn
            rw [hv9] at hnn
            simp only [Value.slice.injEq] at hnn
            obtain ⟨rfl, rfl, rfl⟩ := hnn
            have hcel : ∀ i, i < 3 → wb.cell? ⟨b9, o9 + i, none⟩ = some (vs i) := fun i hi => (hcells _ rfl).2 i _ (by simp [HRl.out, hi])
            have H4 := Lib.hid h4; have Hcel := Lib.hid hcel
            have XB := Lib.hid (XA.out.trans x4)
            subst hv9
            clear h4 hcells hl3 hcel x4
            go_wp2
            go_loopw [27, 28] (fun tot i wr => ∃ (k : Nat) (s : Int), k ≤ 3 ∧ i = .int .i64 k ∧ wb = wr ∧ tot = .int .i64 s ∧ (k : Int) ≤ s ∧ s ≤ 262144 * k) (fun _ i _ => 3 - (intOf i).toNat)
            case atStart => exact ⟨0, 0, Nat.zero_le _, rfl, rfl, rfl, by omega, by omega⟩
            case round =>
              obtain ⟨j, s, hj, rfl, rfl, rfl, hs1, hs2⟩ := hrel
              by_cases hlt3 : j < 3
              · obtain ⟨ak, lk, ck, hvk, hlk, _, _⟩ := (H4.out.2 j (by rw [HRl.out]; exact hlt3)).out
                have hcj := Hcel.out j hlt3
                rw [hvk] at hcj
                obtain ⟨r1, r2⟩ := Hrows.out j hlt3
                rw [← hlk] at r1 r2
                have HLK := Lib.hid hlk
                clear hvk hlk
                go_wp2
                go_roundw
                case rel => exact ⟨j + 1, s + lk, by omega, by go_num, (by first | rfl | exact trivial), rfl, by omega, by omega⟩
                case measure => simp [intOf]; omega
              · obtain rfl : j = 3 := by omega
                have htt := Htt.out
                go_wp2_with fail
                refine (lives_calls _).mono ?_
                rintro e wc ⟨rfl, xc⟩
                go_wp2
                go_ret
                exact ⟨rfl, XB.out.trans xc⟩
          · have hov := pows_over (t := k) (by omega)
            have hact := fun w v c h => Act_over 3 v c (pows k) w h (pows_check (by omega)) 25 (by rw [pows_len]; omega) hov.1 hov.2
            have Hact := Lib.hid hact
            clear hov hact
            go_wp2_with fail
            refine (Hact.out _ _ _ H9.out).mono ?_
            rintro e wb ⟨rfl, xb⟩
            have XB := Lib.hid (XA.out.trans xb)
            clear xb
            have htt := Htt.out
            go_wp2_with fail
            refine (lives_calls _).mono ?_
            rintro e wc ⟨rfl, xc⟩
            go_wp2
            go_ret
            exact ⟨rfl, XB.out.trans xc⟩


end Go.Proofs.Ytbappfeojdehgaa
