/- Texts of this claim in one file: libraries and walks. -/
import Derived.Deep.QuietTactic
import Derived.Deep.CutRange
import Derived.BigQuiet
import Derived.Test.YtlmkcojimhbmiaaL12
/- ganseyref15.Stack. -/
namespace Go.Proofs.Ytlmkcojimhbmiaa
set_option linter.unusedVariables false
set_option linter.unusedSimpArgs false
set_option maxRecDepth 8000
open Go Go.RowKit

set_option maxHeartbeats 8000000 in
theorem RStack_calls (u0 u1 u2 : Value) (c0 c1 c2 : Nat) (L T R : List (List St)) (n up : Int) (w : World) (h0 : RR w u0 c0 L) (h1 : RR w u1 c1 T) (h2 : RR w u2 c2 R) (hn : n ≤ 100) (hu : up ≤ 100)
    (hs : ∀ C ∈ [L, T, R], ∀ r ∈ C, ∀ s ∈ r, 0 ≤ s.k ∧ 0 ≤ s.y) :
    Calls Try.prog 16 #[.agg #[u0, u1, u2], .int .i64 n, .int .i64 up] w (RetCF w (stkR L T R n up) (stkE L T R n up)) := by
  have k0 := fun w' (x : Ext w w') => RMCheck_calls _ _ _ _ _ _ L T R w' (h0.ext x) (h1.ext x) (h2.ext x) (fun k hk i hi j hj => hs _ (bw_mem hk) _ (sw_mem hi) _ (si_mem hj))
  have hin := fun N U => stk_in (hs L (by simp)) (hs T (by simp)) (hs R (by simp)) N U
  obtain ⟨a0, n0, rfl, hn0, hc0, hm0, hat0⟩ := h0.open
  obtain ⟨a1, n1, rfl, hn1, hc1, hm1, hat1⟩ := h1.open
  obtain ⟨a2, n2, rfl, hn2, hc2, hm2, hat2⟩ := h2.open
  unfold maxLen at hm0 hm1 hm2
  obtain ⟨M, hMM⟩ : ∃ M, M = mchk L T R := ⟨_, rfl⟩
  have hz := @mchk_zero L T R
  have hE : stkE L T R n up = if M ≠ 0 then M else if n < 1 ∨ up < 1 then 1 else if lrg (stkRows L T R n.toNat up.toNat) = 1 then 3 else (cloads (stkRows L T R n.toNat up.toNat)).1 := by unfold stkE; rw [hMM]
  rw [← hMM] at k0 hz
  obtain ⟨W, hW⟩ : ∃ W, W = w.alloc (.cells #[.slice a0 n0 c0, .slice a1 n1 c1, .slice a2 n2 c2] 26) := ⟨_, rfl⟩
  have xW : Ext w W := by rw [hW]; exact (Ext.refl w).alloc _
  have hWs : W.heap.size = w.heap.size + 1 := by rw [hW]; simp
  have hbx : W.heap[w.heap.size]? = some (Obj.cells #[.slice a0 n0 c0, .slice a1 n1 c1, .slice a2 n2 c2] 26 (0, 0)) := by rw [hW]; exact blk_at rfl
  have b0 : W.cell? ⟨w.heap.size, 0, none⟩ = some (.slice a0 n0 c0) := by simp [World.cell?, hbx]
  have b1 : W.cell? ⟨w.heap.size, 1, none⟩ = some (.slice a1 n1 c1) := by simp [World.cell?, hbx]
  have b2 : W.cell? ⟨w.heap.size, 2, none⟩ = some (.slice a2 n2 c2) := by simp [World.cell?, hbx]
  have HB0 := Lib.hid (fun w' (x : Ext W w') => x.cell b0); have HB1 := Lib.hid (fun w' (x : Ext W w') => x.cell b1); have HB2 := Lib.hid (fun w' (x : Ext W w') => x.cell b2)
  obtain ⟨W2, hW2⟩ : ∃ W2, W2 = W.alloc (.cells #[.slice none 0 0] 24) := ⟨_, rfl⟩
  have x2 : Ext W W2 := by rw [hW2]; exact (Ext.refl W).alloc _
  have hres : W2.heap[w.heap.size + 1]? = some (Obj.cells #[.slice none 0 0] 24 (0, 0)) := by rw [hW2]; exact blk_at hWs.symm
  have HRes := Lib.hid (fun w' (x : Ext W2 w') => x.block hres)
  have hbad : ∀ w' e, Ext w w' → stkE L T R n up = e → e ≠ 0 → RetCF w (stkR L T R n up) (stkE L T R n up) (.returned (.tuple #[.agg #[.slice none 0 0], .int .i64 e])) (w'.setCell ⟨w.heap.size + 1, 0, none⟩ (.slice none 0 0)) := fun w' e x he h0 => by
    rw [stkR_bad (by omega), he]
    exact ⟨_, 0, rfl, RR.nil _, x.setCell (Nat.le_succ _) _⟩
  have K0 := Lib.hid k0; have HZ := Lib.hid hz; have HE := Lib.hid hE; have HBad := Lib.hid hbad; have HIn := Lib.hid hin; have XW := Lib.hid xW; have X2 := Lib.hid x2; have HW := Lib.hid hW; have HW2 := Lib.hid hW2; have HWs := Lib.hid hWs
  have HA0 := Lib.hid hat0; have HA1 := Lib.hid hat1; have HA2 := Lib.hid hat2; have Hn0 := Lib.hid hn0; have Hn1 := Lib.hid hn1; have Hn2 := Lib.hid hn2
  rw [hW] at b0 b1 b2
  clear h0 h1 h2 hn0 hn1 hn2 k0 hin hz hE hbad xW x2 hW hW2 hWs hbx hres hat0 hat1 hat2 hs hMM hm0 hm1 hm2 hc0 hc1 hc2
  go_enter Try.func16, Try.ntmps16
  go_wp2_with fail
  rw [← HW.out, ← HW2.out]
  refine (K0.out W2 (XW.out.trans X2.out)).mono ?_
  rintro e w3 ⟨rfl, x3⟩
  have X3 := Lib.hid (XW.out.trans (X2.out.trans x3)); have X23 := Lib.hid x3
  have hR := HRes.out w3 x3
  have r1 : w3.cell? ⟨w.heap.size + 1, 0, none⟩ = some (.slice none 0 0) := by simp [World.cell?, hR]
  have r2 : w3.frozen? ⟨w.heap.size + 1, 0, none⟩ = false := by simp [World.frozen?, hR]
  have r3 : (w3.setCell ⟨w.heap.size + 1, 0, none⟩ (.slice none 0 0)).cell? ⟨w.heap.size + 1, 0, none⟩ = some (.slice none 0 0) := by simp [World.cell?, blk_one hR _]
  have R3 := Lib.hid r3
  clear hR r3 x3 b0 b1 b2 K0 HW HW2
  by_cases hM : M = 0
  rotate_left
  · have t1 : (M != 0) = true := by rw [bne, beq_eq_false_iff_ne.2 hM]; rfl
    have HF := Lib.hid (HBad.out w3 M X3.out (by rw [HE.out, if_pos hM]) hM)
    clear hM
    go_wp2
    have r3 := R3.out
    exact bodyPost_ret (v := .tuple #[.agg #[.slice none 0 0], .int .i64 M]) (by simp [results, Try.results16, go_sem, r3]) rfl HF.out
  subst hM
  have HE2 := Lib.hid (show stkE L T R n up = if n < 1 ∨ up < 1 then 1 else if lrg (stkRows L T R n.toNat up.toNat) = 1 then 3 else (cloads (stkRows L T R n.toNat up.toNat)).1 by rw [HE.out, if_neg (by decide)])
  clear HE
  by_cases hn1 : n < 1
  · have HF := Lib.hid (HBad.out w3 1 X3.out (by rw [HE2.out, if_pos (.inl hn1)]) (by decide))
    go_wp2
    have r3 := R3.out
    exact bodyPost_ret (v := .tuple #[.agg #[.slice none 0 0], .int .i64 1]) (by simp [results, Try.results16, go_sem, r3]) rfl HF.out
  by_cases hu1 : up < 1
  · have HF := Lib.hid (HBad.out w3 1 X3.out (by rw [HE2.out, if_pos (.inr hu1)]) (by decide))
    go_wp2
    have r3 := R3.out
    exact bodyPost_ret (v := .tuple #[.agg #[.slice none 0 0], .int .i64 1]) (by simp [results, Try.results16, go_sem, r3]) rfl HF.out
  have HE3 := Lib.hid (show stkE L T R n up = if lrg (stkRows L T R n.toNat up.toNat) = 1 then 3 else (cloads (stkRows L T R n.toNat up.toNat)).1 by rw [HE2.out, if_neg (by omega)])
  obtain ⟨N, hN⟩ : ∃ N : Nat, n = N := ⟨n.toNat, by omega⟩
  obtain ⟨U, hU⟩ : ∃ U : Nat, up = U := ⟨up.toNat, by omega⟩
  have e1 : n.toNat = N := by omega
  have e2 : up.toNat = U := by omega
  rw [e1, e2] at HE3
  have HBd := Lib.hid HBad.out
  have hRN : stkE L T R n up = 0 → stkR L T R n up = stkRows L T R N U := fun h => by unfold stkR; rw [if_pos h, e1, e2]
  have HRN := Lib.hid hRN
  clear HE2 HBad hRN e1 e2
  obtain ⟨SE, hSE⟩ : ∃ SE, SE = stkE L T R n up := ⟨_, rfl⟩
  obtain ⟨SR, hSR⟩ : ∃ SR, SR = stkR L T R n up := ⟨_, rfl⟩
  rw [← hSE] at HE3 HBd HRN ⊢
  rw [← hSR] at HBd HRN ⊢
  have HSq := Lib.hid (And.intro hSE hSR)
  clear hSE hSR
  subst hN hU
  have hN100 : N ≤ 100 := by omega
  have hU100 : U ≤ 100 := by omega
  have hN1 : ¬ (N : Int) < 1 := hn1
  have hU1 : ¬ (U : Int) < 1 := hu1
  have HZ2 := Lib.hid (HZ.out rfl)
  have hn31 : n1 ≤ 31 := by rw [Hn1.out]; exact (big_bd HZ2.out.1.2.1).1
  have HCO0 := Lib.hid (show CO w3 (w3.alloc (.cells #[.slice none 0 0] 24)) (.slice none 0 0) (preS L T R N 0 0) by simpa [preS] using CO.nil ((Ext.refl w3).alloc _))
  have HO0 := Lib.hid (show (w3.alloc (.cells #[.slice none 0 0] 24)).heap[w3.heap.size]? = some (Obj.cells #[.slice none 0 0] 24 (0, 0)) from blk_at rfl)
  clear hn hu hn1 hu1 HZ r1 r2
  go_wp2
  go_loopw [10, 11, 12, 13] (fun i _ _ _ wr => ∃ (k : Nat) (vr : Value), k ≤ U ∧ i = .int .i64 k ∧ Hid (CO w3 wr vr (preS L T R N k 0)) ∧ Hid (wr.heap[w3.heap.size]? = some (Obj.cells #[vr] 24 (0, 0)))) (fun i _ _ _ _ => U - (intOf i).toNat)
  case atStart => exact ⟨0, _, Nat.zero_le _, rfl, HCO0, HO0⟩
  case round =>
    obtain ⟨k, vr, hk, rfl, HC, HO⟩ := hrel
    by_cases hlt : k < U
    · have t1 : (k : Int) < U := by omega
      go_wp2
      go_loopw [11, 12, 13] (fun i _ _ wr => ∃ (j : Nat) (vr : Value), j ≤ n1 ∧ i = .int .i64 j ∧ Hid (CO w3 wr vr (preS L T R N k j)) ∧ Hid (wr.heap[w3.heap.size]? = some (Obj.cells #[vr] 24 (0, 0)))) (fun i _ _ _ => n1 - (intOf i).toNat)
      case atStart => exact ⟨0, vr, Nat.zero_le _, rfl, HC, HO⟩
      case round =>
        obtain ⟨j, vr, hj, rfl, HC, HO⟩ := hrel
        obtain ⟨va, vn, vc, hvf, hvn⟩ := HC.out.form
        subst hvf
        have b1 := HB1.out _ (X2.out.trans (X23.out.trans HC.out.1))
        by_cases hlt2 : j < n1
        · have t2 : (j : Int) < n1 := by omega
          obtain ⟨wk, hwk⟩ : ∃ wk : World, wk = wr := ⟨_, rfl⟩
          rw [← hwk] at HC HO b1 ⊢
          have b0 := HB0.out _ (X2.out.trans (X23.out.trans HC.out.1))
          clear hwk hvn wr
          go_upto_if 46 with fail
          clear b0 b1
          go_cut [12] from 42 to 54 (fun s wx => Hid (wx.ownsRow wk.heap.size 67 5 s (rowS L T j 0).length (cells (rowS L T j 0)) ∧ Ext wk wx))
          case first =>
            by_cases hL : n0 = 0
            · have t3 : ¬ (0 : Int) < n0 := by omega
              have HS0 := Lib.hid (show wk.ownsRow wk.heap.size 67 5 (.slice none 0 0) (rowS L T j 0).length (cells (rowS L T j 0)) ∧ Ext wk wk from ⟨by
                rw [rowS_z0 (by rw [← Hn0.out]; exact hL)]
                simpa [cells] using World.ownsRow_nil wk wk.heap.size 67 5, Ext.refl _⟩)
              clear hL
              go_wp2_with fail
              go_meet
              case rel => exact HS0
            · have t3 : (0 : Int) < n0 := by omega
              have hj0 : j < n0 := by
                have := HZ2.out.2.1
                rw [← Hn0.out, ← Hn1.out] at this
                omega
              have t4 : (j : Int) < n0 := by omega
              have xx := X2.out.trans (X23.out.trans HC.out.1)
              have b0 := HB0.out _ xx
              obtain ⟨b, o, aa, m, d, rfl, z1, z2⟩ := HA0.out j hj0
              have xw := XW.out.trans xx
              replace z1 := xw.cell z1
              have HRS := Lib.hid (z2.ext xw)
              have hz0 : rowS L T j 0 = sw L j := rowS_z1 (by rw [← Hn0.out]; exact hL)
              have hl16 : (sw L j).length ≤ 16 := sw_bd HZ2.out.1.1 j
              have HZ0 := Lib.hid hz0
              have HS0 := Lib.hid (World.ownsRow_nil wk wk.heap.size 67 5)
              clear hL z2 xw xx hz0
              go_wp2_with (at_builtin; refine app_rs rfl _ _ rfl wk.heap.size _ 0 [] rfl HS0.out _ _ (sw L j) rfl HRS.out ?d1 ?d2 ?_)
              case d1 => omega
              case d2 => exact Nat.le_refl _
              intro v' w' hown hgr
              have HS1 := Lib.hid (show w'.ownsRow wk.heap.size 67 5 v' (rowS L T j 0).length (cells (rowS L T j 0)) ∧ Ext wk w' from ⟨by
                rw [HZ0.out]
                simpa using hown, ext_grown2 (Ext.refl _) HS0.out hgr⟩)
              clear hown hgr b0 z1
              go_wp2_with fail
              go_meet
              case rel => exact HS1
          case rest =>
            have H := hcut
            clear hcut
            go_wp2
            go_loopw [12, 13] (fun s i wr => ∃ q : Nat, q ≤ N ∧ i = .int .i64 q ∧ Hid (wr.ownsRow wk.heap.size 67 5 s (rowS L T j q).length (cells (rowS L T j q)) ∧ Ext wk wr)) (fun _ i _ => N - (intOf i).toNat)
            case atStart => exact ⟨0, Nat.zero_le _, rfl, H⟩
            case round =>
              obtain ⟨q, hq, rfl, H⟩ := hrel
              have xx := X2.out.trans (X23.out.trans (HC.out.1.trans H.out.2))
              by_cases hlt3 : q < N
              · have t3 : (q : Int) < N := by omega
                have b1 := HB1.out _ xx
                obtain ⟨b, o, aa, m, d, rfl, z1, z2⟩ := HA1.out j hlt2
                have xw := XW.out.trans xx
                replace z1 := xw.cell z1
                have HRS := Lib.hid (z2.ext xw)
                have HBd1 := Lib.hid (show (rowS L T j q).length + (sw T j).length ≤ 1000000 by
                  have := rowS_len HZ2.out.1.1 HZ2.out.1.2.1 j q
                  have := sw_bd HZ2.out.1.2.1 j
                  omega)
                clear z2 xw xx
                go_wp2_with (at_builtin; refine app_rs rfl _ _ rfl wk.heap.size _ (rowS L T j q).length _ rfl H.out.1 _ _ (sw T j) rfl HRS.out HBd1.out H.out.2.size ?_)
                intro v' w' hown hgr
                have HS1 := Lib.hid (show w'.ownsRow wk.heap.size 67 5 v' (rowS L T j (q + 1)).length (cells (rowS L T j (q + 1))) ∧ Ext wk w' from ⟨by
                  rw [rowS_succ, List.length_append, cells_app]
                  exact hown, ext_grown2 H.out.2 H.out.1 hgr⟩)
                clear hown hgr b1 z1
                go_wp2
                go_roundw
                case rel => exact ⟨q + 1, by omega, by go_num, HS1⟩
                case measure => simp [intOf]; omega
              · obtain rfl : N = q := by omega
                have t3 : ¬ (N : Int) < N := by omega
                have b2 := HB2.out _ xx
                have HXX := Lib.hid xx
                clear xx hlt3 hq
                go_upto_if 72 with fail
                go_cut [12] from 55 to 80 (fun s wx => Hid (wx.ownsRow wk.heap.size 67 5 s (stkRow L T R N j).length (cells (stkRow L T R N j)) ∧ Ext wk wx))
                case first =>
                  by_cases hR0 : n2 = 0
                  · have t4 : ¬ (0 : Int) < n2 := by omega
                    have HS1 := H
                    rw [show rowS L T j N = stkRow L T R N j from (rowS_all0 (by rw [← Hn2.out]; exact hR0)).symm] at HS1
                    clear hR0 b2
                    go_wp2_with fail
                    go_meet
                    case rel => exact HS1
                  · have t4 : (0 : Int) < n2 := by omega
                    have hj0 : j < n2 := by
                      have := HZ2.out.2.2
                      rw [← Hn2.out, ← Hn1.out] at this
                      omega
                    have t5 : (j : Int) < n2 := by omega
                    obtain ⟨b, o, aa, m, d, rfl, z1, z2⟩ := HA2.out j hj0
                    have xw := XW.out.trans HXX.out
                    replace z1 := xw.cell z1
                    have HRS := Lib.hid (z2.ext xw)
                    have HZ0 := Lib.hid (rowS_all1 (L := L) (T := T) (R := R) (n := N) (i := j) (by rw [← Hn2.out]; exact hR0))
                    have HBd1 := Lib.hid (show (rowS L T j N).length + (sw R j).length ≤ 1000000 by
                      have := rowS_len HZ2.out.1.1 HZ2.out.1.2.1 j N
                      have := sw_bd HZ2.out.1.2.2 j
                      omega)
                    clear hR0 z2 xw
                    go_wp2_with (at_builtin; refine app_rs rfl _ _ rfl wk.heap.size _ (rowS L T j N).length _ rfl H.out.1 _ _ (sw R j) rfl HRS.out HBd1.out H.out.2.size ?_)
                    intro v' w' hown hgr
                    have HS1 := Lib.hid (show w'.ownsRow wk.heap.size 67 5 v' (stkRow L T R N j).length (cells (stkRow L T R N j)) ∧ Ext wk w' from ⟨by
                      rw [HZ0.out, List.length_append, cells_app]
                      exact hown, ext_grown2 H.out.2 H.out.1 hgr⟩)
                    clear hown hgr b2 z1
                    go_wp2_with fail
                    go_meet
                    case rel => exact HS1
                case rest =>
                  have H2 := hcut
                  clear hcut H b2 HXX
                  have hrv := (RV.of_own H2.out.1).1
                  obtain ⟨ra, rn, rc, hrf, hrn⟩ := hrv.form
                  subst hrf
                  obtain ⟨w5, hw5⟩ : ∃ w5 : World, w5 = wc := ⟨_, rfl⟩
                  rw [← hw5] at H2 hrv ⊢
                  have HRV := Lib.hid hrv
                  have HC5 := Lib.hid (HC.out.later H2.out.2)
                  have hA5 := H2.out.2.block HO.out
                  have HA5 := Lib.hid hA5
                  have a1 : w5.cell? ⟨w3.heap.size, 0, none⟩ = some (.slice va vn vc) := by simp [World.cell?, hA5]
                  have hlen : (preS L T R N k j).length ≤ 100000 := by
                    rw [preS_len]
                    have h1 := (big_bd HZ2.out.1.2.1).1
                    have h2 : k * T.length ≤ 100 * 31 := Nat.mul_le_mul (by omega) h1
                    have := Hn1.out
                    omega
                  have hsz := HC.out.1.size
                  clear hw5 hrv hrn hA5
                  go_wp2_with (at_builtin; go_loud (refine app_row rfl _ _ rfl w3 _ (preS L T R N k j) rfl HC5.out _ _ HRV.out w5.heap.size rfl rfl hlen ?_))
                  intro v6 w6 hco6 hkeep
                  have hA6 := hkeep _ _ _ _ _ HA5.out (by decide)
                  obtain ⟨a6, n6, c6, rfl, hn6⟩ := hco6.form
                  have b1 : w6.cell? ⟨w3.heap.size, 0, none⟩ = some (.slice va vn vc) := by simp [World.cell?, hA6]
                  have b2 : w6.frozen? ⟨w3.heap.size, 0, none⟩ = false := by simp [World.frozen?, hA6]
                  have HN1 := Lib.hid (show CO w3 (w6.setCell ⟨w3.heap.size, 0, none⟩ (.slice a6 n6 c6)) (.slice a6 n6 c6) (preS L T R N k (j + 1)) by
                    rw [preS_row]; exact hco6.setOther (a := ⟨w3.heap.size, 0, none⟩) hA6 (by decide) (by decide) (Nat.le_refl _))
                  have HN2 := Lib.hid (blk_one hA6 (.slice a6 n6 c6))
                  clear hco6 hkeep hA6 hn6 a1 hlen
                  go_wp2
                  go_roundw
                  case rel => exact ⟨j + 1, _, by omega, by go_num, HN1, HN2⟩
                  case measure => simp [intOf]; omega
        · obtain rfl : n1 = j := by omega
          have t2 : ¬ (n1 : Int) < n1 := by omega
          have HC8 := Lib.hid (show CO w3 wr (.slice va vn vc) (preS L T R N (k + 1) 0) by rw [preS_next, ← Hn1.out]; exact HC.out)
          go_wp2
          go_roundw
          case rel => exact ⟨k + 1, _, by omega, by go_num, HC8, HO⟩
          case measure => simp [intOf]; omega
    · obtain rfl : U = k := by omega
      have t1 : ¬ (U : Int) < U := by omega
      obtain ⟨va, vn, vc, hvf, hvn⟩ := HC.out.form
      subst hvf
      have a1 : wr.cell? ⟨w3.heap.size, 0, none⟩ = some (.slice va vn vc) := by simp [World.cell?, HO.out]
      obtain ⟨rows, hrows⟩ : ∃ rows, rows = stkRows L T R N U := ⟨_, rfl⟩
      have hpre : preS L T R N U 0 = rows := by rw [hrows, preS_all]
      have hin := HIn.out N U
      rw [← hrows] at HE3 HRN hin
      obtain ⟨cc, hrr⟩ := HC.out.rr
      rw [hpre] at hrr
      have hlg := fun w' (x : Ext wr w') => Large_calls _ cc rows w' (hrr.ext x)
      have hld := fun w' (x : Ext wr w') => RCLoads_calls _ cc rows w' (hrr.ext x) (fun k hk i hi => hin _ (sw_mem hk) _ (si_mem hi))
      obtain ⟨LG, hLG⟩ : ∃ LG, LG = lrg rows := ⟨_, rfl⟩
      have hlgv : LG = 0 ∨ LG = 1 := by rw [hLG]; unfold lrg; split <;> simp
      obtain ⟨LE, hLE⟩ : ∃ LE, LE = (cloads rows).1 := ⟨_, rfl⟩
      rw [← hLG] at hlg HE3
      rw [← hLE] at hld HE3
      have HLg := Lib.hid hlg; have HLd := Lib.hid hld
      have XC := Lib.hid HC.out.1
      obtain ⟨w4, hw4⟩ : ∃ w4 : World, w4 = wr := ⟨_, rfl⟩
      rw [← hw4] at HLg HLd HO XC a1 ⊢
      have HCC := Lib.hid (show CO w3 w4 (.slice va vn vc) rows by rw [hw4, ← hpre]; exact HC.out)
      clear hlg hld hrr hrows hLG hLE hvn hw4 HC hpre hin
      go_wp2_with fail
      refine (HLg.out w4 (Ext.refl _)).mono ?_
      rintro e w5 ⟨rfl, x5⟩
      have hR5 := HRes.out w5 (X23.out.trans (XC.out.trans x5))
      have hO5 := x5.block HO.out
      have b1 : w5.cell? ⟨w.heap.size + 1, 0, none⟩ = some (.slice none 0 0) := by simp [World.cell?, hR5]
      have b2 : w5.frozen? ⟨w.heap.size + 1, 0, none⟩ = false := by simp [World.frozen?, hR5]
      have b3 : w5.cell? ⟨w3.heap.size, 0, none⟩ = some (.slice va vn vc) := by simp [World.cell?, hO5]
      have X5 := Lib.hid x5
      clear a1 x5
      rcases hlgv with rfl | rfl
      rotate_left
      · have HF := Lib.hid (HBd.out w5 3 (X3.out.trans (XC.out.trans X5.out)) (by rw [HE3.out, if_pos rfl]) (by decide))
        have R5 := Lib.hid (show (w5.setCell ⟨w.heap.size + 1, 0, none⟩ (.slice none 0 0)).cell? ⟨w.heap.size + 1, 0, none⟩ = some (.slice none 0 0) by simp [World.cell?, blk_one hR5 _])
        clear hR5 hO5
        go_wp2
        have r3 := R5.out
        exact bodyPost_ret (v := .tuple #[.agg #[.slice none 0 0], .int .i64 3]) (by simp [results, Try.results16, go_sem, r3]) rfl (by rw [← HSq.out.1, ← HSq.out.2]; exact HF.out)
      have HE4 := Lib.hid (show SE = LE by rw [HE3.out, if_neg (by decide)])
      clear hR5 hO5 b1 b2 HE3
      go_wp2_with fail
      refine (HLd.out w5 X5.out).mono ?_
      intro e w6 hh
      obtain ⟨lv, lc, rfl, liv, x6⟩ := hh
      have X6 := Lib.hid (X5.out.trans x6)
      have hR6 := HRes.out w6 (X23.out.trans (XC.out.trans X6.out))
      have hO6 := X6.out.block HO.out
      have b1 : w6.cell? ⟨w.heap.size + 1, 0, none⟩ = some (.slice none 0 0) := by simp [World.cell?, hR6]
      have b2 : w6.frozen? ⟨w.heap.size + 1, 0, none⟩ = false := by simp [World.frozen?, hR6]
      have b3 : w6.cell? ⟨w3.heap.size, 0, none⟩ = some (.slice va vn vc) := by simp [World.cell?, hO6]
      clear x6 liv HLg HLd
      by_cases hle : LE = 0
      · subst hle
        have HF := Lib.hid (show RetCF w SR SE (.returned (.tuple #[.agg #[.slice va vn vc], .int .i64 0])) (w6.setCell ⟨w.heap.size + 1, 0, none⟩ (.slice va vn vc)) by
          rw [HRN.out HE4.out, HE4.out]
          have hcc := ((HCC.out.later X6.out).base X3.out).setOther (a := ⟨w.heap.size + 1, 0, none⟩) (u' := .slice va vn vc) hR6 (by decide) (by decide) (Nat.le_succ _)
          obtain ⟨c5, hrr⟩ := hcc.rr
          exact ⟨_, c5, rfl, hrr, hcc.1⟩)
        have R5 := Lib.hid (show (w6.setCell ⟨w.heap.size + 1, 0, none⟩ (.slice va vn vc)).cell? ⟨w.heap.size + 1, 0, none⟩ = some (.slice va vn vc) by simp [World.cell?, blk_one hR6 _])
        clear hR6 hO6
        go_wp2
        have r3 := R5.out
        exact bodyPost_ret (v := .tuple #[.agg #[.slice va vn vc], .int .i64 0]) (by simp [results, Try.results16, go_sem, r3]) rfl (by rw [← HSq.out.1, ← HSq.out.2]; exact HF.out)
      · have t6 : (LE != 0) = true := by rw [bne, beq_eq_false_iff_ne.2 hle]; rfl
        have HF := Lib.hid (HBd.out w6 LE (X3.out.trans (XC.out.trans X6.out)) HE4.out hle)
        have R5 := Lib.hid (show (w6.setCell ⟨w.heap.size + 1, 0, none⟩ (.slice none 0 0)).cell? ⟨w.heap.size + 1, 0, none⟩ = some (.slice none 0 0) by simp [World.cell?, blk_one hR6 _])
        clear hR6 hO6 hle
        go_wp2
        have r3 := R5.out
        exact bodyPost_ret (v := .tuple #[.agg #[.slice none 0 0], .int .i64 LE]) (by simp [results, Try.results16, go_sem, r3]) rfl (by rw [← HSq.out.1, ← HSq.out.2]; exact HF.out)
end Go.Proofs.Ytlmkcojimhbmiaa
