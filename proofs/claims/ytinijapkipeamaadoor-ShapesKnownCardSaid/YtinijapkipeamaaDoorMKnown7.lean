/- Texts of this claim in one file: libraries and walks. -/
import Derived.Test.YtinijapkipeamaaDoorMKnown2
import Derived.Test.YtinijapkipeamaaDoorMKnown3
import Derived.Test.YtinijapkipeamaaDoorMKnown5
import Derived.Test.YtinijapkipeamaaDoorMKnown6
/- What the joins of rows of stitches import. -/
namespace Go.Proofs.YtinijapkipeamaaDoor
set_option linter.unusedVariables false
set_option linter.unusedSimpArgs false
open Go Go.RowKit
theorem joined_ready : True := trivial
end Go.Proofs.YtinijapkipeamaaDoor
/- shapes.joined of rows of stitches: the walk. -/
namespace Go.Proofs.YtinijapkipeamaaDoor
set_option linter.unusedVariables false
set_option linter.unusedSimpArgs false
set_option maxRecDepth 8000
open Go Go.RowKit

def fl (rows : List (List St)) (k : Nat) : List St := (rows.take k).flatten
theorem fl_succ {rows : List (List St)} {k : Nat} (h : k < rows.length) : fl rows (k + 1) = fl rows k ++ sw rows k := by unfold fl; rw [take_succ_sw h]; simp
theorem fl_all {rows : List (List St)} : fl rows rows.length = rows.flatten := by unfold fl; rw [List.take_length]
theorem fl_bd {rows : List (List St)} (h : ∀ i, i < rows.length → (sw rows i).length ≤ 1000) : ∀ k, k ≤ rows.length → (fl rows k).length ≤ 1000 * k
  | 0, _ => by simp [fl]
  | k + 1, hk => by
    rw [fl_succ (by omega), List.length_append]
    have := h k (by omega)
    have := fl_bd h k (by omega)
    omega
theorem fl_le {rows : List (List St)} {k : Nat} : (fl rows k).length ≤ rows.flatten.length := by
  unfold fl
  rw [← List.take_append_drop k rows, List.flatten_append, List.length_append]
  simp
set_option maxHeartbeats 2000000 in
theorem joined_calls (rows : List (List St)) (w : World) (b n : Nat) (gs cs : Nat → Nat) (hn : n = rows.length) (h0 : 0 < rows.flatten.length) (h100 : n ≤ 100)
    (hr : ∀ i, i < n → w.cell? ⟨b, i, none⟩ = some (.slice (some ⟨gs i, 0, none⟩) (sw rows i).length (cs i)) ∧ RO w (gs i) (cs i) (sw rows i) ∧ (sw rows i).length ≤ 1000) :
    Calls Tryd.prog 63 #[.slice (some ⟨b, 0, none⟩) n n] w (RetRO w rows.flatten) := by
  have hfs := fun k (hk : k < n) => fl_succ (rows := rows) (k := k) (by omega)
  have hfb := fun k (hk : k ≤ n) => fl_bd (rows := rows) (fun i hi => (hr i (by omega)).2.2) k (by omega)
  have hfa : fl rows n = rows.flatten := by rw [hn, fl_all]
  have HR := Lib.hid hr; have HS := Lib.hid hfs; have HB := Lib.hid hfb; have HA := Lib.hid hfa; have H0 := Lib.hid h0
  clear hr hfs hfb hfa hn h0
  go_enter Tryd.func63, Tryd.ntmps63
  go_wp2
  go_loopw [3, 5, 11] (fun s _ i wr => ∃ k m : Nat, k ≤ n ∧ i = .int .i64 k ∧ s = .int .i64 m ∧ Hid (m = (fl rows k).length) ∧ Hid (Ext w wr)) (fun _ _ i _ => n - (intOf i).toNat)
  case atStart => exact ⟨0, 0, Nat.zero_le _, rfl, rfl, Lib.hid (by simp [fl]), Lib.hid (Ext.refl w)⟩
  case round =>
    obtain ⟨k, m, hk, rfl, rfl, HM, HX⟩ := hrel
    by_cases hlt : k < n
    · obtain ⟨hc, _, hb⟩ := HR.out k hlt
      replace hc := HX.out.cell hc
      have hm := HB.out k hk
      rw [← HM.out] at hm
      have hnx := HS.out k hlt
      obtain ⟨q, hq⟩ : ∃ q, q = (sw rows k).length := ⟨_, rfl⟩
      rw [← hq] at hc hb
      have HN := Lib.hid (show m + q = (fl rows (k + 1)).length by rw [hnx, List.length_append, ← HM.out, ← hq])
      clear hnx hq HM
      go_wp2
      go_roundw
      case rel => exact ⟨k + 1, m + q, by omega, by go_num, by go_num, HN, HX⟩
      case measure => simp [intOf]; omega
    · obtain rfl : n = k := by omega
      have hm := HB.out n hk
      rw [← HM.out] at hm
      obtain ⟨wo, rfl⟩ : ∃ wo : World, wo = wr := ⟨_, rfl⟩
      obtain ⟨i, hi, hzz⟩ := Option.map_eq_some_iff.1 (show (Tryd.prog.info? 52).map (fun i => (i.zero, i.size, i.bytes)) = some (some (.agg z5), 5, 32) by kernel_rfl)
      simp only [Prod.mk.injEq] at hzz
      obtain ⟨hz, hsz, hby⟩ := hzz
      obtain ⟨w0, hmk, hown, hgrow⟩ := run_make_own (P := Tryd.prog) wo wo.heap.size 48 52 i (.agg z5) 5 Tryd.underlying48 hi hz hsz .i64 .i64 m (by rw [hby]; omega) (by unfold maxLen; omega) (Nat.le_refl _)
      have HO := Lib.hid (And.intro hown (And.intro (HX.out.trans (grown_ext hgrow)) (grown_ext hgrow).size))
      have HXr := HX.out.size
      clear hlt hk hi hz hsz hby hown hgrow
      go_wp2
      clear hmk
      go_loopw [6, 8, 24] (fun v _ i wr => ∃ k : Nat, k ≤ n ∧ i = .int .i64 k ∧ Hid (wr.ownsRow wo.heap.size 52 5 v (fl rows k).length (cells (fl rows k)) ∧ Ext w wr ∧ wo.heap.size ≤ wr.heap.size)) (fun _ _ i _ => n - (intOf i).toNat)
      case atStart => exact ⟨0, Nat.zero_le _, rfl, Lib.hid ⟨by simpa [fl, cells] using HO.out.1, HO.out.2.1, HO.out.2.2⟩⟩
      case round =>
        obtain ⟨k, hk, rfl, H⟩ := hrel
        by_cases hlt : k < n
        · obtain ⟨hc, hro, hb⟩ := HR.out k hlt
          replace hc := H.out.2.1.cell hc
          replace hro := hro.ext H.out.2.1
          have hm := HB.out k hk
          have hnx := HS.out k hlt
          have HN := Lib.hid hnx; have HRo := Lib.hid hro
          have hln : (fl rows (k + 1)).length = (fl rows k).length + (sw rows k).length := by rw [hnx, List.length_append]
          have HLn := Lib.hid hln
          clear hnx hro hln
          go_wp2_with (at_builtin; refine app_st rfl _ _ rfl wo.heap.size _ (fl rows k).length _ rfl H.out.1 (gs k) (cs k) _ (sw rows k) rfl rfl HRo.out ?d1 ?d2 ?_)
          case d1 => omega
          case d2 => exact H.out.2.2
          intro v' w' hown hbel
          have HO2 := Lib.hid (And.intro hown (And.intro (Below.trans H.out.2.1 (Below.mono hbel HXr)) (Nat.le_trans H.out.2.2 hbel.size)))
          clear hown hbel hc hm hb
          go_wp2
          go_roundw
          case rel => exact ⟨k + 1, by omega, by go_num, Lib.hid ⟨by rw [HLn.out, HN.out, cells_app]; exact HO2.out.1, HO2.out.2.1, HO2.out.2.2⟩⟩
          case measure => simp [intOf]; omega
        · obtain rfl : n = k := by omega
          obtain ⟨g, c, hv, hl, hB, hro⟩ := RO.of_own H.out.1 (by rw [HA.out]; exact H0.out)
          clear hlt hk
          go_wp2
          go_ret
          exact ⟨g, c, _, rfl, by rw [HA.out], Nat.le_trans HXr hB, by rw [← HA.out]; exact hro, H.out.2.1⟩
end Go.Proofs.YtinijapkipeamaaDoor
/- shapes.plain, wider, narrower. -/
namespace Go.Proofs.YtinijapkipeamaaDoor
set_option linter.unusedVariables false
set_option linter.unusedSimpArgs false
set_option maxRecDepth 8000
open Go Go.RowKit

def cnt (b : Bool) : Nat := if b then 1 else 0
theorem cnt_le (b : Bool) : cnt b ≤ 1 := by cases b <;> simp [cnt]
theorem count_calls2 (b : Bool) (w : World) : Calls Tryd.prog 64 #[.bool b] w fun e w' => e = .returned (.int .i64 ((cnt b : Nat) : Int)) ∧ w = w' := by
  refine (count_calls b w).mono ?_
  rintro e w' ⟨rfl, rfl⟩
  cases b <;> exact ⟨rfl, rfl⟩
theorem plain_calls (n : Nat) (l r : Bool) (w : World) (hn : n ≤ 1000) : Calls Tryd.prog 46 #[.int .i64 n, .bool l, .bool r] w (RetRO w (List.replicate n (kst 1))) := by
  have HK := Lib.hid (kinds_calls 1 n w hn)
  go_enter Tryd.func46, Tryd.ntmps46
  go_wp2_with fail
  refine HK.out.mono ?_
  rintro e w1 ⟨g, c, m, rfl, hm, hg, hro, hx⟩
  have H := Lib.hid (And.intro hm (And.intro hg (And.intro hro hx)))
  clear hm hg hro hx HK
  go_wp2
  go_ret
  exact ⟨g, c, m, rfl, H.out.1, H.out.2.1, H.out.2.2.1, H.out.2.2.2⟩

/-- The rows of a wider row. -/
def widR (n : Nat) (l r : Bool) : List (List St) := [List.replicate 1 (kst 1), List.replicate (cnt l) (kst 3), List.replicate (n - 2) (kst 1), List.replicate (cnt r) (kst 3), List.replicate 1 (kst 1)]
set_option maxHeartbeats 2000000 in
theorem wider_calls (n : Nat) (l r : Bool) (w : World) (hn : 2 ≤ n ∧ n ≤ 100) : Calls Tryd.prog 47 #[.int .i64 n, .bool l, .bool r] w (RetRO w (widR n l r).flatten) := by
  have hl := cnt_le l
  have hr := cnt_le r
  have K1 := Lib.hid (fun w => kinds_calls 1 1 w (by omega))
  have K2 := Lib.hid (fun w => kinds_calls 3 (cnt l) w (by omega))
  have K3 := Lib.hid (fun w => kinds_calls 1 (n - 2) w (by omega))
  have K4 := Lib.hid (fun w => kinds_calls 3 (cnt r) w (by omega))
  have C1 := Lib.hid (fun w => count_calls2 l w)
  have C2 := Lib.hid (fun w => count_calls2 r w)
  have t1 : IntKind.i64.wrap ((n : Int) - 2) = ((n - 2 : Nat) : Int) := by rw [show (n : Int) - 2 = ((n - 2 : Nat) : Int) by omega]; exact IntWalk.i64_in _ ⟨by omega, by omega⟩
  obtain ⟨N, hN⟩ : ∃ N, N = n - 2 := ⟨_, rfl⟩
  obtain ⟨L, hL⟩ : ∃ L, L = cnt l := ⟨_, rfl⟩
  obtain ⟨R, hR⟩ : ∃ R, R = cnt r := ⟨_, rfl⟩
  rw [← hN] at t1 K3
  rw [← hL] at hl K2 C1
  rw [← hR] at hr K4 C2
  have HN := Lib.hid hN; have HL := Lib.hid hL; have HR := Lib.hid hR
  have hN2 : N ≤ 98 := by omega
  clear hN hL hR
  go_enter Tryd.func47, Tryd.ntmps47
  go_wp2_with fail
  refine (K1.out _).mono ?_
  rintro e w1 ⟨g1, c1, m1, rfl, hm1, hg1, hro1, hx1⟩
  have H1 := Lib.hid (And.intro hm1 (And.intro hg1 hro1)); have X1 := Lib.hid hx1
  clear hm1 hg1 hro1 hx1
  go_wp2_with fail
  refine (C1.out _).mono ?_
  rintro e w1' ⟨rfl, hw⟩
  obtain rfl := hw
  go_wp2_with fail
  refine (K2.out _).mono ?_
  rintro e w2 ⟨g2, c2, m2, rfl, hm2, hg2, hro2, hx2⟩
  have H2 := Lib.hid (And.intro hm2 (And.intro hg2 hro2)); have X2 := Lib.hid hx2
  clear hm2 hg2 hro2 hx2
  go_wp2_with fail
  refine (K3.out _).mono ?_
  rintro e w3 ⟨g3, c3, m3, rfl, hm3, hg3, hro3, hx3⟩
  have H3 := Lib.hid (And.intro hm3 (And.intro hg3 hro3)); have X3 := Lib.hid hx3
  clear hm3 hg3 hro3 hx3
  go_wp2_with fail
  refine (C2.out _).mono ?_
  rintro e w3' ⟨rfl, hw⟩
  obtain rfl := hw
  go_wp2_with fail
  refine (K4.out _).mono ?_
  rintro e w4 ⟨g4, c4, m4, rfl, hm4, hg4, hro4, hx4⟩
  have H4 := Lib.hid (And.intro hm4 (And.intro hg4 hro4)); have X4 := Lib.hid hx4
  clear hm4 hg4 hro4 hx4
  go_wp2_with fail
  refine (K1.out _).mono ?_
  rintro e w5 ⟨g5, c5, m5, rfl, hm5, hg5, hro5, hx5⟩
  have H5 := Lib.hid (And.intro hm5 (And.intro hg5 hro5)); have X5 := Lib.hid hx5
  clear hm5 hg5 hro5 hx5
  obtain ⟨W, hW⟩ : ∃ W : World, W = w5.alloc (.cells #[.slice (some ⟨g1, 0, none⟩) m1 c1, .slice (some ⟨g2, 0, none⟩) m2 c2, .slice (some ⟨g3, 0, none⟩) m3 c3, .slice (some ⟨g4, 0, none⟩) m4 c4, .slice (some ⟨g5, 0, none⟩) m5 c5] 48) := ⟨_, rfl⟩
  have hX : Ext w5 W := by rw [hW]; exact (Ext.refl w5).alloc _
  have hXX := X1.out.trans (X2.out.trans (X3.out.trans (X4.out.trans X5.out)))
  have hJ : Calls Tryd.prog 63 #[.slice (some ⟨w5.heap.size, 0, none⟩) 5 5] W (RetRO W (widR n l r).flatten) := by
    have e1 := H1.out.1; have e2 := H2.out.1; have e3 := H3.out.1; have e4 := H4.out.1; have e5 := H5.out.1
    simp only [List.length_replicate] at e1 e2 e3 e4 e5
    have hc : ∀ i v, (#[.slice (some ⟨g1, 0, none⟩) m1 c1, .slice (some ⟨g2, 0, none⟩) m2 c2, .slice (some ⟨g3, 0, none⟩) m3 c3, .slice (some ⟨g4, 0, none⟩) m4 c4, .slice (some ⟨g5, 0, none⟩) m5 c5] : Array Value)[i]? = some v → W.cell? ⟨w5.heap.size, i, none⟩ = some v := fun i v h => by
      rw [hW]; simp only [World.cell?, blk_at rfl]; simpa using h
    refine joined_calls (widR n l r) W w5.heap.size 5 (fun i => [g1, g2, g3, g4, g5].getD i 0) (fun i => [c1, c2, c3, c4, c5].getD i 0) rfl (by simp [widR]) (by decide) (fun i hi => ?_)
    match i, hi with
    | 0, _ => exact ⟨hc 0 _ (by rw [e1]; rfl), (H1.out.2.2.ext (X2.out.trans (X3.out.trans (X4.out.trans X5.out)))).ext hX, by simp [widR, sw]⟩
    | 1, _ => exact ⟨hc 1 _ (by rw [e2, HL.out]; simp [widR, sw]), by have := (H2.out.2.2.ext (X3.out.trans (X4.out.trans X5.out))).ext hX; rw [HL.out] at this; exact this, by have := cnt_le l; simp [widR, sw]; omega⟩
    | 2, _ => exact ⟨hc 2 _ (by rw [e3, HN.out]; simp [widR, sw]), by have := (H3.out.2.2.ext (X4.out.trans X5.out)).ext hX; rw [HN.out] at this; exact this, by simp [widR, sw]; omega⟩
    | 3, _ => exact ⟨hc 3 _ (by rw [e4, HR.out]; simp [widR, sw]), by have := (H4.out.2.2.ext X5.out).ext hX; rw [HR.out] at this; exact this, by have := cnt_le r; simp [widR, sw]; omega⟩
    | 4, _ => exact ⟨hc 4 _ (by rw [e5]; rfl), H5.out.2.2.ext hX, by simp [widR, sw]⟩
  rw [hW] at hJ
  have HJ := Lib.hid hJ
  have HXX := Lib.hid (hXX.trans (by rw [hW] at hX; exact hX))
  clear hJ hX hXX hW H1 H2 H3 H4 H5 X1 X2 X3 X4 X5 HN HL HR
  go_wp2_with fail
  refine HJ.out.mono ?_
  rintro e w6 ⟨g, c, m, rfl, hm, hg, hro, hx⟩
  have H := Lib.hid (And.intro hm (And.intro (Nat.le_trans HXX.out.size hg) (And.intro hro (HXX.out.trans hx))))
  clear hm hg hro hx HJ
  go_wp2
  go_ret
  exact ⟨g, c, m, rfl, H.out.1, H.out.2.1, H.out.2.2.1, H.out.2.2.2⟩
end Go.Proofs.YtinijapkipeamaaDoor
/- shapes.narrower. -/
namespace Go.Proofs.YtinijapkipeamaaDoor
set_option linter.unusedVariables false
set_option linter.unusedSimpArgs false
set_option maxRecDepth 8000
open Go Go.RowKit

/-- The rows of a narrower row. -/
def narR (n : Nat) (l r : Bool) : List (List St) := [List.replicate (cnt l) (kst 4), List.replicate (n - 2 * cnt l - 2 * cnt r) (kst 1), List.replicate (cnt r) (kst 4)]
set_option maxHeartbeats 2000000 in
theorem narrower_calls (n : Nat) (l r : Bool) (w : World) (hn : 2 * cnt l + 2 * cnt r ≤ n ∧ 1 ≤ n ∧ n ≤ 100) : Calls Tryd.prog 48 #[.int .i64 n, .bool l, .bool r] w (RetRO w (narR n l r).flatten) := by
  have hpos : 0 < (narR n l r).flatten.length := by simp [narR]; omega
  have hl := cnt_le l
  have hr := cnt_le r
  have K1 := Lib.hid (fun w => kinds_calls 4 (cnt l) w (by omega))
  have K2 := Lib.hid (fun w => kinds_calls 1 (n - 2 * cnt l - 2 * cnt r) w (by omega))
  have K3 := Lib.hid (fun w => kinds_calls 4 (cnt r) w (by omega))
  have C1 := Lib.hid (fun w => count_calls2 l w)
  have C2 := Lib.hid (fun w => count_calls2 r w)
  obtain ⟨N, hN⟩ : ∃ N, N = n - 2 * cnt l - 2 * cnt r := ⟨_, rfl⟩
  obtain ⟨L, hL⟩ : ∃ L, L = cnt l := ⟨_, rfl⟩
  obtain ⟨R, hR⟩ : ∃ R, R = cnt r := ⟨_, rfl⟩
  have t0 : IntKind.i64.wrap (2 * (L : Int)) = 2 * (L : Int) := IntWalk.i64_in _ ⟨by omega, by omega⟩
  have t1 : IntKind.i64.wrap ((n : Int) - 2 * (L : Int)) = (n : Int) - 2 * (L : Int) := IntWalk.i64_in _ ⟨by omega, by omega⟩
  have t2 : IntKind.i64.wrap (2 * (R : Int)) = 2 * (R : Int) := IntWalk.i64_in _ ⟨by omega, by omega⟩
  have t3 : IntKind.i64.wrap ((n : Int) - 2 * (L : Int) - 2 * (R : Int)) = (N : Int) := by rw [show (n : Int) - 2 * (L : Int) - 2 * (R : Int) = (N : Int) by omega]; exact IntWalk.i64_in _ ⟨by omega, by omega⟩
  rw [← hN] at K2
  rw [← hL] at hl K1 C1
  rw [← hR] at hr K3 C2
  have HN := Lib.hid hN; have HL := Lib.hid hL; have HR := Lib.hid hR; have HP := Lib.hid hpos
  have hN2 : N ≤ 100 := by omega
  have hn1 := hn.1
  have hn3 := hn.2.2
  rw [← hL, ← hR] at hn1
  clear hN hL hR hpos hn
  go_enter Tryd.func48, Tryd.ntmps48
  go_wp2_with fail
  refine (C1.out _).mono ?_
  rintro e w1' ⟨rfl, hw⟩
  obtain rfl := hw
  go_wp2_with fail
  refine (K1.out _).mono ?_
  rintro e w1 ⟨g1, c1, m1, rfl, hm1, hg1, hro1, hx1⟩
  have H1 := Lib.hid (And.intro hm1 (And.intro hg1 hro1)); have X1 := Lib.hid hx1
  clear hm1 hg1 hro1 hx1
  go_wp2_with fail
  refine (C1.out _).mono ?_
  rintro e w1' ⟨rfl, hw⟩
  obtain rfl := hw
  go_wp2_with fail
  refine (C2.out _).mono ?_
  rintro e w1' ⟨rfl, hw⟩
  obtain rfl := hw
  go_wp2_with fail
  refine (K2.out _).mono ?_
  rintro e w2 ⟨g2, c2, m2, rfl, hm2, hg2, hro2, hx2⟩
  have H2 := Lib.hid (And.intro hm2 (And.intro hg2 hro2)); have X2 := Lib.hid hx2
  clear hm2 hg2 hro2 hx2
  go_wp2_with fail
  refine (C2.out _).mono ?_
  rintro e w3' ⟨rfl, hw⟩
  obtain rfl := hw
  go_wp2_with fail
  refine (K3.out _).mono ?_
  rintro e w3 ⟨g3, c3, m3, rfl, hm3, hg3, hro3, hx3⟩
  have H3 := Lib.hid (And.intro hm3 (And.intro hg3 hro3)); have X3 := Lib.hid hx3
  clear hm3 hg3 hro3 hx3
  obtain ⟨W, hW⟩ : ∃ W : World, W = w3.alloc (.cells #[.slice (some ⟨g1, 0, none⟩) m1 c1, .slice (some ⟨g2, 0, none⟩) m2 c2, .slice (some ⟨g3, 0, none⟩) m3 c3] 48) := ⟨_, rfl⟩
  have hX : Ext w3 W := by rw [hW]; exact (Ext.refl w3).alloc _
  have hXX := X1.out.trans (X2.out.trans X3.out)
  have hJ : Calls Tryd.prog 63 #[.slice (some ⟨w3.heap.size, 0, none⟩) 3 3] W (RetRO W (narR n l r).flatten) := by
    have e1 := H1.out.1; have e2 := H2.out.1; have e3 := H3.out.1
    simp only [List.length_replicate] at e1 e2 e3
    have hc : ∀ i v, (#[.slice (some ⟨g1, 0, none⟩) m1 c1, .slice (some ⟨g2, 0, none⟩) m2 c2, .slice (some ⟨g3, 0, none⟩) m3 c3] : Array Value)[i]? = some v → W.cell? ⟨w3.heap.size, i, none⟩ = some v := fun i v h => by
      rw [hW]; simp only [World.cell?, blk_at rfl]; simpa using h
    refine joined_calls (narR n l r) W w3.heap.size 3 (fun i => [g1, g2, g3].getD i 0) (fun i => [c1, c2, c3].getD i 0) rfl HP.out (by decide) (fun i hi => ?_)
    match i, hi with
    | 0, _ => exact ⟨hc 0 _ (by rw [e1, HL.out]; simp [narR, sw]), by have := (H1.out.2.2.ext (X2.out.trans X3.out)).ext hX; rw [HL.out] at this; exact this, by have := cnt_le l; simp [narR, sw]; omega⟩
    | 1, _ => exact ⟨hc 1 _ (by rw [e2, HN.out]; simp [narR, sw]), by have := (H2.out.2.2.ext X3.out).ext hX; rw [HN.out] at this; exact this, by simp [narR, sw]; omega⟩
    | 2, _ => exact ⟨hc 2 _ (by rw [e3, HR.out]; simp [narR, sw]), by have := H3.out.2.2.ext hX; rw [HR.out] at this; exact this, by have := cnt_le r; simp [narR, sw]; omega⟩
  rw [hW] at hJ
  have HJ := Lib.hid hJ
  have HXX := Lib.hid (hXX.trans (by rw [hW] at hX; exact hX))
  clear hJ hX hXX hW H1 H2 H3 X1 X2 X3 HN HL HR HP
  go_wp2_with fail
  refine HJ.out.mono ?_
  rintro e w6 ⟨g, c, m, rfl, hm, hg, hro, hx⟩
  have H := Lib.hid (And.intro hm (And.intro (Nat.le_trans HXX.out.size hg) (And.intro hro (HXX.out.trans hx))))
  clear hm hg hro hx HJ
  go_wp2
  go_ret
  exact ⟨g, c, m, rfl, H.out.1, H.out.2.1, H.out.2.2.1, H.out.2.2.2⟩
end Go.Proofs.YtinijapkipeamaaDoor
/- Charts of outlines in plain Lean: what their rows need and make; the reference's rows. -/
namespace Go.Proofs.YtinijapkipeamaaDoor
set_option linter.unusedVariables false
set_option linter.unusedSimpArgs false
set_option maxRecDepth 8000
open Go Go.RowKit

theorem rneed_app (a b : List St) : rneed (a ++ b) = rneed a + rneed b := by
  induction a with
  | nil => simp [rneed]
  | cons s a ih => rw [List.cons_append, rneed_cons, rneed_cons, ih]; omega
theorem rmake_app (a b : List St) : rmake (a ++ b) = rmake a + rmake b := by
  induction a with
  | nil => simp [rmake]
  | cons s a ih => rw [List.cons_append, rmake_cons, rmake_cons, ih]; omega
theorem rneed_rep (n : Nat) (s : St) : rneed (List.replicate n s) = n * s.need := by
  induction n with
  | zero => simp [rneed]
  | succ n ih => rw [List.replicate_succ, rneed_cons, ih, Int.natCast_succ, Int.add_mul]; omega
theorem rmake_rep (n : Nat) (s : St) : rmake (List.replicate n s) = n * s.make := by
  induction n with
  | zero => simp [rmake]
  | succ n ih => rw [List.replicate_succ, rmake_cons, ih, Int.natCast_succ, Int.add_mul]; omega

def sty (y : Int) (s : St) : St := { s with y := y }
/-- A stitch of a kind and a yarn. -/
def ksty (k y : Int) : St := ⟨k, y, 0, 0, false⟩
theorem sty_kst (k y : Int) : sty y (kst k) = ksty k y := rfl
/-- The row of a step of an outline; the yarn is not told. -/
def shR (n i : Nat) (m : Int) : List St := if m = 2 ∨ m = 1 then (widR n (endL i m) (endR i m)).flatten else if m = -2 ∨ m = -1 then (narR n (endL i m) (endR i m)).flatten else List.replicate n (kst 1)
/-- The same row with its yarn. -/
def shY (n i : Nat) (m y : Int) : List St := (shR n i m).map (sty y)
/-- The chart of an outline. -/
def chartOf (l : List Int) (y : Int) : List (List St) := (List.range (l.length - 1)).map fun i => shY (gi l i).toNat i (gi l (i + 1) - gi l i) y
theorem chartOf_len (l : List Int) (y : Int) : (chartOf l y).length = l.length - 1 := by simp [chartOf]
theorem chartOf_sw {l : List Int} {y : Int} {i : Nat} (h : i + 1 < l.length) : sw (chartOf l y) i = shY (gi l i).toNat i (gi l (i + 1) - gi l i) y := by
  rw [sw_of_lt (by rw [chartOf_len]; omega)]; simp [chartOf]
/-- A kind of the rows of outlines. -/
def kok (s : St) : Prop := s.k = 1 ∨ s.k = 3 ∨ s.k = 4
theorem ksty_need {y : Int} (h : 1 ≤ y ∧ y ≤ 6) : (ksty 1 y).need = 1 ∧ (ksty 3 y).need = 0 ∧ (ksty 4 y).need = 2 ∧ (ksty 1 y).make = 1 ∧ (ksty 3 y).make = 1 ∧ (ksty 4 y).make = 1 ∧ (ksty 1 y).chk = 0 ∧ (ksty 3 y).chk = 0 ∧ (ksty 4 y).chk = 0 := by
  have c : ∀ k, 1 ≤ k → k < 8 → (ksty k y).chk = 0 := fun k h1 h2 => by
    unfold St.chk ksty; simp only []; rw [if_neg (by omega), if_pos (by omega), if_neg (by simp)]
  have c1 := c 1 (by omega) (by omega); have c3 := c 3 (by omega) (by omega); have c4 := c 4 (by omega) (by omega)
  refine ⟨?_, ?_, ?_, ?_, ?_, ?_, c1, c3, c4⟩ <;> simp [St.need, St.make, c1, c3, c4] <;> simp [ksty]
/-- The parts of a step's row. -/
theorem shY_wid {n i : Nat} {m : Int} (y : Int) (h : m = 2 ∨ m = 1) : shY n i m y = [ksty 1 y] ++ List.replicate (cnt (endL i m)) (ksty 3 y) ++ List.replicate (n - 2) (ksty 1 y) ++ List.replicate (cnt (endR i m)) (ksty 3 y) ++ [ksty 1 y] := by
  unfold shY shR; rw [if_pos h]; simp [widR, sty_kst]
theorem shY_nar {n i : Nat} {m : Int} (y : Int) (h : m = -2 ∨ m = -1) : shY n i m y = List.replicate (cnt (endL i m)) (ksty 4 y) ++ List.replicate (n - 2 * cnt (endL i m) - 2 * cnt (endR i m)) (ksty 1 y) ++ List.replicate (cnt (endR i m)) (ksty 4 y) := by
  unfold shY shR; rw [if_neg (by omega), if_pos h]; simp [narR, sty_kst]
theorem shY_plain {n i : Nat} {m : Int} (y : Int) (h : m = 0) : shY n i m y = List.replicate n (ksty 1 y) := by
  unfold shY shR; rw [if_neg (by omega), if_neg (by omega)]; simp [sty_kst]
theorem end_sum {i : Nat} {m : Int} (h : -2 ≤ m ∧ m ≤ 2) : ((cnt (endL i m) + cnt (endR i m) : Nat) : Int) = if 0 ≤ m then m else -m := by
  unfold endL endR
  rcases (show m = 2 ∨ m = -2 ∨ m = 1 ∨ m = -1 ∨ m = 0 by omega) with rfl | rfl | rfl | rfl | rfl <;> simp [cnt] <;> cases odd i <;> simp
theorem shY_facts {n i : Nat} {m y : Int} (hy : 1 ≤ y ∧ y ≤ 6) (hm : -2 ≤ m ∧ m ≤ 2) (hn : 2 ≤ (n : Int) ∧ 2 ≤ (n : Int) + m) :
    ((shY n i m y).length : Int) = n + m ∧ rneed (shY n i m y) = n ∧ rmake (shY n i m y) = n + m ∧ (∀ s ∈ shY n i m y, s.chk = 0 ∧ kok s ∧ s.y = y) := by
  obtain ⟨n1, n3, n4, m1, m3, m4, c1, c3, c4⟩ := ksty_need hy
  have hs := end_sum (i := i) hm
  have k1 : (ksty 1 y).chk = 0 ∧ kok (ksty 1 y) ∧ (ksty 1 y).y = y := ⟨c1, .inl rfl, rfl⟩
  have k3 : (ksty 3 y).chk = 0 ∧ kok (ksty 3 y) ∧ (ksty 3 y).y = y := ⟨c3, .inr (.inl rfl), rfl⟩
  have k4 : (ksty 4 y).chk = 0 ∧ kok (ksty 4 y) ∧ (ksty 4 y).y = y := ⟨c4, .inr (.inr rfl), rfl⟩
  rcases (show (m = 2 ∨ m = 1) ∨ (m = -2 ∨ m = -1) ∨ m = 0 by omega) with h | h | h
  · rw [shY_wid y h]
    rw [if_pos (by omega)] at hs
    refine ⟨?_, ?_, ?_, ?_⟩
    · simp only [List.length_append, List.length_replicate, List.length_cons, List.length_nil]; omega
    · simp only [rneed_app, rneed_rep, n1, n3, show [ksty 1 y] = List.replicate 1 (ksty 1 y) from rfl]; omega
    · simp only [rmake_app, rmake_rep, m1, m3, show [ksty 1 y] = List.replicate 1 (ksty 1 y) from rfl]; omega
    · intro s hs
      simp only [List.mem_append, List.mem_cons, List.mem_replicate, List.not_mem_nil, or_false] at hs
      rcases hs with (((rfl | ⟨_, rfl⟩) | ⟨_, rfl⟩) | ⟨_, rfl⟩) | rfl <;> assumption
  · rw [shY_nar y h]
    rw [if_neg (by omega)] at hs
    refine ⟨?_, ?_, ?_, ?_⟩
    · simp only [List.length_append, List.length_replicate]; omega
    · simp only [rneed_app, rneed_rep, n1, n4]; omega
    · simp only [rmake_app, rmake_rep, m1, m4]; omega
    · intro s hs
      simp only [List.mem_append, List.mem_replicate] at hs
      rcases hs with (⟨_, rfl⟩ | ⟨_, rfl⟩) | ⟨_, rfl⟩ <;> assumption
  · rw [shY_plain y h]
    subst h
    refine ⟨by simp, by rw [rneed_rep, n1]; omega, by rw [rmake_rep, m1]; omega, ?_⟩
    intro s hs
    simp only [List.mem_replicate] at hs
    rw [hs.2]; exact k1

/-! ### Loops: each slot has one -/
theorem ld_ones : ∀ (r : List St) (acc : List Int) (x : Nat), (∀ s ∈ r, s.chk = 0 ∧ kok s) → (x : Int) = rneed r → ldRow r (List.replicate x 1) acc = (0, acc ++ List.replicate (rmake r).toNat 1)
  | [], acc, x, _, hx => by simp [ldRow, rmake]
  | s :: r, acc, x, h, hx => by
    obtain ⟨hc, hk⟩ := h s (by simp)
    have hb := St.need_bd s
    have hr := rneed_bd r
    rw [rneed_cons] at hx
    have ht : (List.replicate x (1 : Int)).take s.need.toNat = List.replicate s.need.toNat 1 := by rw [List.take_replicate, Nat.min_eq_left (by omega)]
    have hd : (List.replicate x (1 : Int)).drop s.need.toNat = List.replicate (x - s.need.toNat) 1 := by rw [List.drop_replicate]
    have hg : ∀ i, i < (List.replicate s.need.toNat (1 : Int)).length → gi (List.replicate s.need.toNat 1) i = 1 := fun i hi => by
      rw [gi_of_lt hi]; simp
    have he : s.lerr (List.replicate s.need.toNat 1) = 0 := by
      rw [lerr_in hc (by simp; omega) (fun i hi => by rw [hg i hi]; omega)]
      have h2 : ∀ i, gi (List.replicate s.need.toNat (1 : Int)) i ≤ 1 := fun i => by
        by_cases hi : i < (List.replicate s.need.toNat (1 : Int)).length
        · rw [hg i hi]; omega
        · rw [gi_end (by omega)]; omega
      have a := h2 0; have b := h2 1
      unfold kok at hk
      repeat' split <;> omega
    have hm : s.lmade (List.replicate s.need.toNat 1) = List.replicate s.make.toNat 1 := by
      unfold St.lmade; unfold kok at hk; rw [if_neg (by omega), if_neg (by omega), if_neg (by omega)]
    rw [ldRow, ht, if_neg (by omega), hd, hm, ld_ones r _ _ (fun s hs => h s (by simp [hs])) (by omega), rmake_cons]
    have hmb := St.make_bd s
    have hmr := rmake_bd r
    rw [show (s.make + rmake r).toNat = s.make.toNat + (rmake r).toNat by omega, List.append_assoc, List.replicate_append_replicate]
theorem lds_ones : ∀ (rs : List (List St)) (acc : List (List Int)) (x : Nat), (∀ r ∈ rs, ∀ s ∈ r, s.chk = 0 ∧ kok s) → (0 < rs.length → (x : Int) = rneed (sw rs 0)) → (∀ k, k + 1 < rs.length → rneed (sw rs (k + 1)) = rmake (sw rs k)) →
    (ldRows rs (List.replicate x 1) acc).1 = 0
  | [], _, _, _, _, _ => rfl
  | r :: rs, acc, x, h, hx, hf => by
    have h1 := ld_ones r [] x (h r (by simp)) (hx (by simp))
    rw [ldRows, h1, if_neg (by simp)]
    rw [List.nil_append]
    have hmb := rmake_bd r
    refine lds_ones rs _ _ (fun r hr => h r (by simp [hr])) (fun h0 => ?_) (fun k hk => ?_)
    · have := hf 0 (by simpa using h0)
      have e : sw (r :: rs) (0 + 1) = sw rs 0 := by unfold sw; simp [List.getD]
      have e0 : sw (r :: rs) 0 = r := rfl
      rw [e, e0] at this
      omega
    · have := hf (k + 1) (by simpa using hk)
      have e : ∀ j, sw (r :: rs) (j + 1) = sw rs j := fun j => by unfold sw; simp [List.getD]
      rwa [e, e] at this
theorem rchk_ok {l : List St} (h0 : 0 < l.length) (h1 : l.length ≤ 16) (h2 : ∀ s ∈ l, s.chk = 0) (h3 : 1 ≤ rneed l ∧ rneed l ≤ 16) (h4 : 1 ≤ rmake l ∧ rmake l ≤ 16) : rchk l = 0 := by
  unfold rchk
  rw [if_neg (by omega), if_neg (by omega), if_neg, if_neg (by omega)]
  rw [List.any_eq_true]
  rintro ⟨s, hs, hb⟩
  have := h2 s hs
  simp at hb; omega
theorem cerr_ok2 {rows : List (List St)} (h1 : rows.length ≤ 31) (h2 : rows.length % 2 = 1) (h3 : ∀ i, i < rows.length → rchk (sw rows i) = 0) (h4 : ∀ k, k + 1 < rows.length → rneed (sw rows (k + 1)) = rmake (sw rows k)) : cerr rows = 0 := by
  unfold cerr
  rw [if_neg (by omega), if_neg (by omega), ferr_ok rows h3, if_neg (by omega), if_pos]
  unfold fitB
  rw [List.all_eq_true]
  intro i hi
  rw [List.mem_range] at hi
  simp [h4 i (by omega)]

/-- What the chart of a valid outline is. -/
theorem chartOf_facts {l : List Int} {y : Int} (hl : oerr l = 0) (hy : 1 ≤ y ∧ y ≤ 6) : (∀ i, i + 1 < l.length → ((sw (chartOf l y) i).length : Int) = gi l (i + 1) ∧ rneed (sw (chartOf l y) i) = gi l i ∧ rmake (sw (chartOf l y) i) = gi l (i + 1) ∧ (∀ s ∈ sw (chartOf l y) i, s.chk = 0 ∧ kok s ∧ s.y = y)) := by
  obtain ⟨h1, h2, h3, h4, h5⟩ := oerr_zero hl
  intro i hi
  have a := h4 i (by omega); have b := h4 (i + 1) hi; have c := h5 i hi
  rw [chartOf_sw hi]
  obtain ⟨p, q, r, s⟩ := shY_facts (n := (gi l i).toNat) (i := i) (m := gi l (i + 1) - gi l i) hy c (by omega)
  exact ⟨by omega, by omega, by omega, s⟩
theorem chartOf_loads {l : List Int} {y : Int} (hl : oerr l = 0) (hy : 1 ≤ y ∧ y ≤ 6) : (cloads (chartOf l y)).1 = 0 := by
  have hf := chartOf_facts hl hy
  obtain ⟨h1, h2, h3, h4, h5⟩ := oerr_zero hl
  have hlen := chartOf_len l y
  have hfit : ∀ k, k + 1 < (chartOf l y).length → rneed (sw (chartOf l y) (k + 1)) = rmake (sw (chartOf l y) k) := fun k hk => by
    rw [(hf (k + 1) (by omega)).2.1, (hf k (by omega)).2.2.1]
  have hce : cerr (chartOf l y) = 0 := by
    refine cerr_ok2 (by omega) (by omega) (fun i hi => ?_) hfit
    obtain ⟨p, q, r, s⟩ := hf i (by omega)
    have a := h4 i (by omega); have b := h4 (i + 1) (by omega)
    exact rchk_ok (by omega) (by omega) (fun x hx => (s x hx).1) (by omega) (by omega)
  unfold cloads
  rw [if_neg (by omega)]
  unfold first
  refine lds_ones _ _ _ (fun r hr s hs => ?_) (fun h0 => ?_) hfit
  · obtain ⟨i, hi, rfl⟩ := List.mem_iff_getElem.1 hr
    rw [← sw_of_lt hi] at hs
    have := (hf i (by omega)).2.2.2 s hs
    exact ⟨this.1, this.2.1⟩
  · have := rneed_bd (sw (chartOf l y) 0)
    omega

/-! ### The reference's rows -/
def refL (i : Nat) (d : Int) : Int := if d = 2 ∨ d = -2 then d / 2 else if d = 1 ∨ d = -1 then (if odd i then d else 0) else 0
def refR (i : Nat) (d : Int) : Int := if d = 2 ∨ d = -2 then d / 2 else if d = 1 ∨ d = -1 then (if odd i then 0 else d) else 0
def refP (n a b : Int) : Int := n - (if a = -1 then 2 else 0) - (if a = 1 then 1 else 0) - (if b = -1 then 2 else 0) - (if b = 1 then 1 else 0)
def refRow (n i : Nat) (d y : Int) : List St :=
  (if refL i d = -1 then [ksty 4 y] else if refL i d = 1 then [ksty 1 y, ksty 3 y] else []) ++ List.replicate (refP n (refL i d) (refR i d)).toNat (ksty 1 y) ++ (if refR i d = 1 then [ksty 3 y, ksty 1 y] else if refR i d = -1 then [ksty 4 y] else [])
theorem rep_cons {α : Type} (n : Nat) (x : α) : List.replicate n x ++ [x] = x :: List.replicate n x := by
  rw [← List.replicate_succ', List.replicate_succ]
theorem refRow_eq {n i : Nat} {m y : Int} (hm : -2 ≤ m ∧ m ≤ 2) (hn : 2 ≤ (n : Int) ∧ 2 ≤ (n : Int) + m) : refRow n i m y = shY n i m y := by
  obtain ⟨p, rfl⟩ : ∃ p, n = p + 2 := ⟨n - 2, by omega⟩
  rcases (show m = 2 ∨ m = 1 ∨ m = -2 ∨ m = -1 ∨ m = 0 by omega) with rfl | rfl | rfl | rfl | rfl
  · rw [shY_wid y (by omega)]
    have e : refP ((p + 2 : Nat) : Int) 1 1 = p := by unfold refP; simp; omega
    simp only [refRow, refL, refR, endL, endR, cnt]
    simp only [show (2 : Int) / 2 = 1 from rfl, true_or, if_true]
    rw [e]
    simp
  · rw [shY_wid y (by omega)]
    have e1 : (refP ((p + 2 : Nat) : Int) 1 0).toNat = p + 1 := by unfold refP; simp; omega
    have e2 : (refP ((p + 2 : Nat) : Int) 0 1).toNat = p + 1 := by unfold refP; simp; omega
    have e3 : List.replicate (p + 1) (ksty 1 y) = ksty 1 y :: List.replicate p (ksty 1 y) := rfl
    cases ho : odd i
    · have a1 : refL i 1 = 0 := by simp [refL, ho]
      have a2 : refR i 1 = 1 := by simp [refR, ho]
      have a3 : endL i 1 = false := by simp [endL, ho]
      have a4 : endR i 1 = true := by simp [endR, ho]
      unfold refRow; rw [a1, a2, a3, a4, e2, e3]; simp [cnt]
    · have a1 : refL i 1 = 1 := by simp [refL, ho]
      have a2 : refR i 1 = 0 := by simp [refR, ho]
      have a3 : endL i 1 = true := by simp [endL, ho]
      have a4 : endR i 1 = false := by simp [endR, ho]
      unfold refRow; rw [a1, a2, a3, a4, e1, e3]; simp [cnt, rep_cons]
  · rw [shY_nar y (by omega)]
    have e : (refP ((p + 2 : Nat) : Int) (-1) (-1)).toNat = p - 2 := by unfold refP; simp; omega
    have a1 : refL i (-2) = -1 := rfl
    have a2 : refR i (-2) = -1 := rfl
    have a3 : endL i (-2) = true := rfl
    have a4 : endR i (-2) = true := rfl
    unfold refRow; rw [a1, a2, a3, a4, e]; simp [cnt]
  · rw [shY_nar y (by omega)]
    have e1 : (refP ((p + 2 : Nat) : Int) (-1) 0).toNat = p := by unfold refP; simp; try omega
    have e2 : (refP ((p + 2 : Nat) : Int) 0 (-1)).toNat = p := by unfold refP; simp; try omega
    cases ho : odd i
    · have a1 : refL i (-1) = 0 := by simp [refL, ho]
      have a2 : refR i (-1) = -1 := by simp [refR, ho]
      have a3 : endL i (-1) = false := by simp [endL, ho]
      have a4 : endR i (-1) = true := by simp [endR, ho]
      unfold refRow; rw [a1, a2, a3, a4, e2]; simp [cnt]
    · have a1 : refL i (-1) = -1 := by simp [refL, ho]
      have a2 : refR i (-1) = 0 := by simp [refR, ho]
      have a3 : endL i (-1) = true := by simp [endL, ho]
      have a4 : endR i (-1) = false := by simp [endR, ho]
      unfold refRow; rw [a1, a2, a3, a4, e1]; simp [cnt]
  · rw [shY_plain y rfl]
    have e1 : (refP ((p + 2 : Nat) : Int) 0 0).toNat = p + 2 := by unfold refP; simp; try omega
    have a1 : refL i 0 = 0 := rfl
    have a2 : refR i 0 = 0 := rfl
    unfold refRow; rw [a1, a2, e1]; simp
end Go.Proofs.YtinijapkipeamaaDoor
/- The outlines of plain data: O.Of. -/
namespace Go.Proofs.YtinijapkipeamaaDoor
set_option linter.unusedVariables false
set_option linter.unusedSimpArgs false
set_option maxRecDepth 8000
open Go Go.RowKit

/-- A width with a step added, as far as that is possible. -/
def stp (x s : Int) : Int := if 2 ≤ x + (s % 5 - 2) ∧ x + (s % 5 - 2) ≤ 16 then x + (s % 5 - 2) else x
/-- The width behind k steps. -/
def oat (f : Int) (st : List Int) : Nat → Int
  | 0 => 2 + f % 15
  | k + 1 => stp (oat f st k) (gi st k)
def olist (f : Int) (st : List Int) (k : Nat) : List Int := (List.range (k + 1)).map (oat f st)
/-- The outline. -/
def oof (f : Int) (st : List Int) : List Int := olist f st (min st.length 15) ++ (if min st.length 15 % 2 = 0 then [oat f st (min st.length 15)] else [])
theorem olist_len (f : Int) (st : List Int) (k : Nat) : (olist f st k).length = k + 1 := by simp [olist]
theorem olist_succ (f : Int) (st : List Int) (k : Nat) : olist f st (k + 1) = olist f st k ++ [oat f st (k + 1)] := by unfold olist; rw [List.range_succ (n := k + 1)]; simp
theorem stp_bd {x s : Int} (h : 2 ≤ x ∧ x ≤ 16) : 2 ≤ stp x s ∧ stp x s ≤ 16 ∧ -2 ≤ stp x s - x ∧ stp x s - x ≤ 2 := by
  unfold stp; split <;> omega
theorem oat_bd (f : Int) (st : List Int) : ∀ k, 2 ≤ oat f st k ∧ oat f st k ≤ 16
  | 0 => by unfold oat; omega
  | k + 1 => by have := stp_bd (s := gi st k) (oat_bd f st k); rw [oat]; omega
theorem olist_gi {f : Int} {st : List Int} {k i : Nat} (h : i ≤ k) : gi (olist f st k) i = oat f st i := gi_range_map _ (by omega)
/-- It is valid. -/
theorem oof_ok (f : Int) (st : List Int) : oerr (oof f st) = 0 := by
  have hm : min st.length 15 ≤ 15 := Nat.min_le_right _ _
  unfold oof
  generalize min st.length 15 = m at hm
  have hlen : (olist f st m ++ (if m % 2 = 0 then [oat f st m] else [])).length = m + 1 + (if m % 2 = 0 then 1 else 0) := by
    rw [List.length_append, olist_len]; split <;> simp
  have hgi : ∀ i, i < m + 1 + (if m % 2 = 0 then 1 else 0) → gi (olist f st m ++ (if m % 2 = 0 then [oat f st m] else [])) i = oat f st (if i ≤ m then i else m) := fun i hi => by
    by_cases h : i ≤ m
    · rw [gi_append_left (by rw [olist_len]; omega), olist_gi h, if_pos h]
    · rw [gi_append_right (by rw [olist_len]; omega), olist_len, if_neg h]
      have : i = m + 1 := by split at hi <;> omega
      subst this
      have h2 : m % 2 = 0 := by
        by_cases h2 : m % 2 = 0
        · exact h2
        · rw [if_neg h2] at hi; omega
      rw [if_pos h2]; simp [gi]
  have hpar : (m + 1 + (if m % 2 = 0 then 1 else 0)) % 2 = 0 := by split <;> omega
  rw [oerr_in (by rw [hlen]; split <;> omega) (by rw [hlen]; split at hpar <;> split <;> omega) (fun i hi => by
    rw [hlen] at hi; rw [hgi i hi]; exact oat_bd _ _ _)]
  refine jmp_ok fun i hi => ?_
  rw [hlen] at hi
  rw [hgi i (by omega), hgi (i + 1) hi]
  by_cases h : i + 1 ≤ m
  · rw [if_pos (by omega), if_pos h]
    have := stp_bd (s := gi st i) (oat_bd f st i)
    have e : oat f st (i + 1) = stp (oat f st i) (gi st i) := rfl
    rw [e]; unfold far; simp; omega
  · rw [if_neg h]
    have : (if i ≤ m then i else m) = m := by split <;> omega
    rw [this]; unfold far; simp
end Go.Proofs.YtinijapkipeamaaDoor
