/- Texts of this claim in one file: libraries and walks. -/
import Derived.Test.YthllbcjglcplhaaDoorL8
import Derived.Test.YthllbcjglcplhaaDoorL13
import Derived.Test.YthllbcjglcplhaaDoorL19
/- LacesChart. -/
namespace Go.Proofs.YthllbcjglcplhaaDoor
set_option linter.unusedVariables false
set_option linter.unusedSimpArgs false
set_option maxRecDepth 8000
open Go Go.RowKit

/-- A lace's chart gives the lace back. -/
theorem of_lch {W : Nat} {y : Int} {rows : List (List Ho)} (h : lchk W rows = 0) (hy : 1 ≤ y ∧ y ≤ 6) {w0 : World} {e : Ending} {w' : World} (hr : RetOf w0 (lch W y rows) e w') :
    ∃ v c, e = .returned (.tuple #[.agg #[.int .i64 (W : Int), v], .int .u8 y, .int .i64 0]) ∧ HR w' v c rows ∧ Ext w0 w' := by
  have hI : IsL (lch W y rows) W y rows := ⟨h, rfl⟩
  have h0 := lch_ok hy h
  obtain ⟨x, ⟨h1, _⟩ | ⟨_, h2, _⟩ | ⟨_, W', y', hs, v, c, h3, h4, h5, h6, h7⟩⟩ := hr
  · exact absurd h0 h1
  · exact absurd ⟨W, y, rows, hI, hy⟩ h2
  · have e1 := hI.need hy
    have e2 := h3.need h4
    obtain rfl : W = W' := by omega
    have e3 := isL_y hI
    obtain rfl : y = y' := by rw [e3, h5]
    obtain ⟨a, b⟩ := h3.rd
    obtain rfl : rows = hs := hI.uniq (W' := 0) (y' := 0) (by omega) (fun i hi => (b i hi).1)
    exact ⟨v, c, h6, h7, x⟩
/-- A row of signs as a string. -/
theorem sgn_byt {W : Nat} {r : List Ho} : Byt (sgn W r) := fun x hx => by
  rcases sg_sgn_mem x hx with e | e | e <;> omega
theorem sg_str {W : Nat} {y : Int} {r : List Ho} (h : rowE W r 0 = true) (s : ByteArray) (hs : s = bstr (sgn W r)) : s.size = W ∧ ∀ k (hk : k < s.size), (((s[k]'hk).toNat : Int) = 46 ∧ si (lrow W y r) k = ⟨1, y, 0, 0, false⟩) ∨ (((s[k]'hk).toNat : Int) = 79 ∧ si (lrow W y r) k = ⟨3, y, 0, 0, false⟩) ∨ (((s[k]'hk).toNat : Int) = 47 ∧ si (lrow W y r) k = ⟨4, y, 0, 0, false⟩) := by
  have hb : bts s = sgn W r := by rw [hs]; exact bts_bstr sgn_byt
  have hl : s.size = W := by rw [← bts_len, hb, sgn_len]
  refine ⟨hl, fun k hk => ?_⟩
  have h1 := bts_at hk
  rw [hb] at h1
  have hm := sg_sgn_mem (W := W) (r := r) (gi (sgn W r) k) (by rw [gi_of_lt (by rw [sgn_len]; omega)]; exact List.getElem_mem _)
  have h2 : si (lrow W y r) k = sgSt y (gi (sgn W r) k) := by
    rw [lrow_si h (by omega), sgn_at h (by omega)]
  rw [← h1, h2]
  rcases hm with e | e | e
  · exact .inl ⟨e, by rw [e]; rfl⟩
  · exact .inr (.inl ⟨e, by rw [e]; rfl⟩)
  · exact .inr (.inr ⟨e, by rw [e]; rfl⟩)
/-- The pairs of a row of a lace's chart. -/
theorem pr_lrow {W : Nat} {y : Int} {r : List Ho} (h : rowE W r 0 = true) {w0 : World} {e : Ending} {w' : World} (hr : RetPr w0 (lrow W y r) e w') :
    ∃ g, e = .returned (.tuple #[.slice (some ⟨g, 0, Option.none⟩) r.length r.length, .int .i64 0]) ∧ Ext w0 w' ∧ ∀ i, i < r.length → w'.cell? ⟨g, i * 2, Option.none⟩ = some (.int .i64 (oi r i).p) ∧ w'.cell? ⟨g, i * 2 + 1, Option.none⟩ = some (.int .i64 (oi r i).two) := by
  obtain ⟨h1, h2⟩ := ixs_lrow (W := W) (y := y) h
  obtain ⟨x, ⟨h3, v, h4, g, h5, h6⟩ | ⟨h3, _⟩⟩ := hr
  · rw [h1, List.length_map] at h5 h6
    rw [h2] at h6
    refine ⟨g, by rw [h4, h5], x, fun i hi => ?_⟩
    have := h6 i hi
    simp only at this
    rw [gi_of_lt (by simpa using hi), gi_of_lt (by simpa using hi), List.getElem_map, List.getElem_map, ← oi_of_lt hi] at this
    exact this
  · unfold prE at h3
    rw [h1, h2, List.length_map, List.length_map, if_pos rfl] at h3
    cases h3
theorem keeps_lrow {W : Nat} {y : Int} {r : List Ho} (hy : 1 ≤ y ∧ y ≤ 6) (h : rowE W r 0 = true) : decide (rmake (lrow W y r) = rneed (lrow W y r)) = true := by
  refine decide_eq_true ?_
  rw [lrow_need hy h, lc_make (lrow_lc hy), lrow_len]
set_option maxHeartbeats 16000000 in
theorem LacesChart_walk (wd yn : Int) (v : Value) (c : Nat) (chs : List (List Int)) (w : World) (h : ISS .u8 w v c chs) (hw : 0 ≤ wd ∧ wd ≤ 255) (hb : ∀ k, k < chs.length → ∀ i, i < (ri chs k).length → 0 ≤ gi (ri chs k) i ∧ gi (ri chs k) i ≤ 255) (hyn : 0 ≤ yn ∧ yn ≤ 255) (hy : Sy w) :
    Calls Tryd.prog 6 #[.agg #[.int .u8 wd, v], .int .u8 yn] w (RetT w) := by
  have hof := fun w' (x : Ext w w') => AOf_calls wd v c chs w' (h.ext x) hw hb
  have hlv := fun w' (x : Ext w w') => lives20_calls w' (hy.ext x)
  obtain ⟨vs, caps, hV⟩ := h
  obtain ⟨ao, n0, rfl, hn, hc, hcm, hat⟩ := hV.outs2
  obtain ⟨B, hB⟩ : ∃ B, B = w.alloc (.cells #[.int .u8 wd, .slice ao n0 c] 56) := ⟨_, rfl⟩
  have xB : Ext w B := by rw [hB]; exact (Ext.refl w).alloc _
  have hB1 := B2.new w (.int .u8 wd) (.slice ao n0 c) 56
  rw [← hB] at hB1
  have e0 := hB1.c0; have e1 := hB1.c1
  obtain ⟨Y, hY⟩ : ∃ Y, Y = 1 + yn % 6 := ⟨_, rfl⟩
  have HYb := Lib.hid (show 1 ≤ Y ∧ Y ≤ 6 by omega)
  have wy1 : IntKind.u8.wrap (yn % 6) = yn % 6 := IntWalk.u8_in _ ⟨by omega, by omega⟩
  have wy2 : IntKind.u8.wrap (1 + yn % 6) = Y := by rw [← hY]; exact IntWalk.u8_in _ ⟨by omega, by omega⟩
  have HOf := Lib.hid (hof B xB); have HLv := Lib.hid hlv; have XB := Lib.hid xB; have HB := Lib.hid hB
  rw [hB] at e0 e1
  clear hV hn hc hcm hat hB xB hB1 hof hlv hw hb hy hY
  go_enter Tryd.func6, Tryd.ntmps6
  go_wp2_with fail
  rw [← HB.out]
  refine HOf.out.mono ?_
  rintro e w1 ⟨V, v1, c1, rows, rfl, hr, hk, hr9, x1⟩
  obtain ⟨⟨hV2, hV16⟩, hrl, hbl, hbp⟩ := lace_bd hk
  obtain ⟨a1, N, rfl, hN, o1, o2, o3⟩ := hr.open
  obtain ⟨W1, hW1⟩ : ∃ W1, W1 = w1.alloc (.cells #[.int .i64 (V : Int), .slice a1 N c1] 24) := ⟨_, rfl⟩
  have xW1 : Ext w1 W1 := by rw [hW1]; exact (Ext.refl w1).alloc _
  have hb3 : B2 W1 w1.heap.size (.int .i64 (V : Int)) (.slice a1 N c1) 24 := by rw [hW1]; exact B2.new _ _ _ _
  have HW1 := Lib.hid hW1; have HB3 := Lib.hid hb3; have X1 := Lib.hid (XB.out.trans (x1.trans xW1))
  have HR1 := Lib.hid (fun w' (x : Ext W1 w') => hr.ext (xW1.trans x)); have Hk := Lib.hid hk; have HN := Lib.hid hN
  have HA := Lib.hid (fun i (hi : i < N) => o3 i hi); have XW1 := Lib.hid xW1
  have f0 := hb3.c0; have f1 := hb3.c1
  obtain ⟨p1, p2⟩ := lcE_ok hk (y := Y) HYb.out
  have hct := LChart_calls V Y _ _ rows W1 (hr.ext xW1) (by have := HYb.out; omega)
  rw [p1, p2] at hct
  have HCt := Lib.hid hct
  have hN9 : N ≤ 9 := by omega
  have Hro := Lib.hid (fun i (hi : i < N) => show rowE V (ow rows i) 0 = true ∧ (ow rows i).length ≤ 8 from by
    have h5 := (lchk_zero hk).2.2.2.2 i (by omega)
    exact ⟨h5, by have := rowE_len h5 (by omega); omega⟩)
  rw [hW1] at f0 f1
  clear hr hk x1 xW1 hb3 hW1 hbl hbp hr9 hrl e0 e1 HOf o1 o2 o3 hN p1 p2 hct
  go_wp2_with fail
  rw [← HW1.out]
  refine HCt.out.mono ?_
  rintro e w2 ⟨v2, rfl, hr2, x2⟩
  obtain ⟨c5, hc5⟩ : ∃ c5, c5 = (lch V Y rows).length := ⟨_, rfl⟩
  have hcN : c5 = N := by rw [hc5, lch_len, HN.out]
  rw [← hc5, hcN] at hr2
  obtain ⟨a5, n5, rfl, hn5, o2, o3, o4⟩ := hr2.open
  obtain rfl : N = n5 := by rw [hn5, ← hc5, hcN]
  obtain ⟨W2, hW2⟩ : ∃ W2, W2 = w2.alloc (.cells #[.slice a5 N N] 28) := ⟨_, rfl⟩
  have xW2 : Ext w2 W2 := by rw [hW2]; exact (Ext.refl w2).alloc _
  have hb8 : W2.cell? ⟨w2.heap.size, 0, none⟩ = some (.slice a5 N N) := by rw [hW2, World.cell?_alloc_at (hn := rfl)]; rfl
  have HW2 := Lib.hid hW2; have Y2 := Lib.hid (x2.trans xW2); have X2 := Lib.hid (X1.out.trans (x2.trans xW2))
  have XW2 := Lib.hid xW2; have HA5 := Lib.hid o4
  have hck := CCheck_calls _ _ (lch V Y rows) W2 (hr2.ext xW2)
  rw [lch_ok HYb.out Hk.out] at hck
  have HCk := Lib.hid hck
  have HOf2 := Lib.hid (fun w' (x : Ext W2 w') => LOf_calls _ _ (lch V Y rows) w' (hr2.ext (xW2.trans x)) (fun i hi j hj => by
    rw [lch_len] at hi
    have hI : IsL (lch V Y rows) V Y rows := ⟨Hk.out, rfl⟩
    have h3 := ((hI.rd.2 i (by rw [lch_len]; exact hi)).2.2.2 _ (si_mem hj)).1
    have := HYb.out; rw [h3]; omega))
  have f0 := (HB3.out.ext Y2.out).c0; have f1 := (HB3.out.ext Y2.out).c1
  have f2 := hb8
  have HF := Lib.hid (fun w' (x : Ext W2 w') => HB3.out.ext (Y2.out.trans x)); have HG := Lib.hid (fun w' (x : Ext W2 w') => x.cell hb8)
  have XA1 := Lib.hid (fun w' (x : Ext W2 w') => XW1.out.trans (Y2.out.trans x)); have XA5 := Lib.hid (fun w' (x : Ext W2 w') => XW2.out.trans x)
  rw [hW2] at f0 f1 f2
  clear hr2 hc5 hcN x2 xW2 hb8 hW2 HCt o2 o3 o4 hn5 hck
  go_wp2_with fail
  rw [← HW2.out]
  refine HCk.out.mono ?_
  rintro e w3 ⟨rfl, x3⟩
  have X3 := Lib.hid (X2.out.trans x3); have Y3 := Lib.hid x3
  clear x3 f0 f1 f2 HCk
  go_wp2
  go_loopw [9, 10, 11, 12, 13, 14, 15, 16, 17, 18] (fun i _ _ _ _ _ _ _ _ _ wr => ∃ k : Nat, k ≤ N ∧ i = .int .i64 k ∧ Hid (Ext W2 wr)) (fun i _ _ _ _ _ _ _ _ _ _ => N - (intOf i).toNat)
  case atStart => exact ⟨0, Nat.zero_le _, rfl, Y3⟩
  case round =>
    obtain ⟨k, hk, rfl, HX⟩ := hrel
    have q0_3 := HG.out _ HX.out
    by_cases hlt : k < N
    · have t1 : (k : Int) < N := by omega
      have t1' : (0 : Int) ≤ k := by omega
      obtain ⟨b, o, a, m, d, rfl, g1, g2⟩ := HA.out k hlt
      obtain ⟨b', o', a', m', d', rfl, g1', g2'⟩ := HA5.out k hlt
      obtain ⟨_, _, e1, e2, e3, e4, e5⟩ := g2.open
      simp only [Value.slice.injEq] at e1; obtain ⟨rfl, rfl, _⟩ := e1
      obtain ⟨_, _, e1, e2', e3', e4', e5'⟩ := g2'.open
      simp only [Value.slice.injEq] at e1; obtain ⟨rfl, rfl, _⟩ := e1
      have hrr : k < rows.length := by rw [← HN.out]; exact hlt
      obtain ⟨hre, hr8⟩ := Hro.out k hlt
      rw [lch_sw hrr] at g2' e2' e5'
      obtain rfl : V = m' := by rw [e2', lrow_len]
      obtain ⟨R, hR⟩ : ∃ R, R = ow rows k := ⟨_, rfl⟩
      rw [← hR] at g2 g2' e2 e5 e5' hre hr8
      obtain ⟨S, hS⟩ : ∃ S, S = bstr (sgn V R) := ⟨_, rfl⟩
      obtain ⟨hsz, hsat⟩ := sg_str (y := Y) hre S hS
      have hrow := fun w' (x : Ext W2 w') => RRow20_calls _ _ V R w' (g2.ext (XA1.out _ x)) (by omega)
      rw [show rowT1 V R = sgn V R by unfold rowT1; rw [if_pos hre], show rowN V R = 1 by unfold rowN; rw [if_pos hre], ← hS] at hrow
      have hkp := fun w' (x : Ext W2 w') => Keeps_calls _ _ (lrow V Y R) w' (g2'.ext (XA5.out _ x)) (by rw [lrow_len]; omega)
      rw [keeps_lrow HYb.out hre] at hkp
      have hpr := fun w' (x : Ext W2 w') => Pairs_calls _ _ (lrow V Y R) w' (g2'.ext (XA5.out _ x)) (by rw [lrow_len]; omega)
      have HG1 := Lib.hid g1; have HG2 := Lib.hid g1'; have HE5 := Lib.hid e5; have HE6 := Lib.hid e5'; have Hre := Lib.hid hre; have Hm := Lib.hid e2; have Hsat := Lib.hid hsat
      have HRow := Lib.hid hrow; have HKp := Lib.hid hkp; have HPr := Lib.hid hpr; have Hsz := Lib.hid hsz
      have hm8 : m ≤ 8 := by rw [e2]; exact hr8
      have q0_1 := (HF.out _ HX.out).c0; have q0_2 := (HF.out _ HX.out).c1
      have q0_4 := (XA1.out _ HX.out).cell g1
      have q0_5 := (XA5.out _ HX.out).cell g1'
      clear g1 g1' g2 g2' e2 e2' e3 e3' e4 e4' e5 e5' hrr hR hS hre hr8 hrow hkp hpr hsat hsz
      go_wp2
      go_region_held3 (fun w' => w'.cell? ⟨w1.heap.size, 0, Option.none⟩ = some (.int .i64 (V : Int)) ∧ w'.cell? ⟨w1.heap.size, 1, Option.none⟩ = some (.slice (some ⟨b, o, Option.none⟩) N c1) ∧ w'.cell? ⟨w2.heap.size, 0, Option.none⟩ = some (.slice (some ⟨b', o', Option.none⟩) N N) ∧ w'.cell? ⟨b, o + k, Option.none⟩ = some (.slice a m d) ∧ w'.cell? ⟨b', o' + k, Option.none⟩ = some (.slice a' V d')) (first | (with_reducible exact ⟨q0_1, q0_2, q0_3, q0_4, q0_5⟩) | (with_reducible exact ⟨q1_1, q1_2, q1_3, q1_4, q1_5⟩) | go_keep) (first
        | (go_at_call 24; (refine (HRow.out _ (HX.out.trans ?_)).mono ?_); (focus (repeat (first | (with_reducible exact Ext.refl _) | (with_reducible apply Ext.drew) | (with_reducible apply Ext.drewN) | (with_reducible apply Ext.alloc)))); intro e wa hh; obtain ⟨rfl, x⟩ := hh; have Xa : Hid (Ext wr wa) := Lib.hid (Ext.trans (by ((repeat (first | (with_reducible exact Ext.refl _) | (with_reducible apply Ext.drew) | (with_reducible apply Ext.drewN) | (with_reducible apply Ext.alloc))); done)) x); have q1_1 := Xa.out.cell q0_1; have q1_2 := Xa.out.cell q0_2; have q1_3 := Xa.out.cell q0_3; have q1_4 := Xa.out.cell q0_4; have q1_5 := Xa.out.cell q0_5; clear x))
      have XA := Lib.hid (HX.out.trans Xa.out)
      clear q0_1 q0_2 q0_3 q0_4 q0_5 q1_1 q1_2 q1_3 q1_4 q1_5
      have q0_1 := (HF.out _ XA.out).c0
      have q0_2 := HG.out _ XA.out
      have q0_3 := (XA5.out _ XA.out).cell HG2.out
      have tVV : ((V : Int) != (V : Int)) = false := by simp
      go_wp2
      go_region_held3 (fun w' => w'.cell? ⟨w1.heap.size, 0, Option.none⟩ = some (.int .i64 (V : Int)) ∧ w'.cell? ⟨w2.heap.size, 0, Option.none⟩ = some (.slice (some ⟨b', o', Option.none⟩) N N) ∧ w'.cell? ⟨b', o' + k, Option.none⟩ = some (.slice a' V d')) (first | (with_reducible exact ⟨q0_1, q0_2, q0_3⟩) | (with_reducible exact ⟨q1_1, q1_2, q1_3⟩) | go_keep) (first
        | (go_at_call 25; (refine (HKp.out _ (XA.out.trans ?_)).mono ?_); (focus (repeat (first | (with_reducible exact Ext.refl _) | (with_reducible apply Ext.drew) | (with_reducible apply Ext.drewN) | (with_reducible apply Ext.alloc)))); intro e wb hh; obtain ⟨rfl, x⟩ := hh; have Xb : Hid (Ext wa wb) := Lib.hid (Ext.trans (by ((repeat (first | (with_reducible exact Ext.refl _) | (with_reducible apply Ext.drew) | (with_reducible apply Ext.drewN) | (with_reducible apply Ext.alloc))); done)) x); have q1_1 := Xb.out.cell q0_1; have q1_2 := Xb.out.cell q0_2; have q1_3 := Xb.out.cell q0_3; clear x))
      have XC := Lib.hid (XA.out.trans Xb.out)
      clear q0_1 q0_2 q0_3 q1_1 q1_2 q1_3 tVV
      go_wp2
      have t0V : (0 : Int) ≤ V := by omega
      go_loopw [12, 13] (fun i _ wq => ∃ j : Nat, j ≤ V ∧ i = .int .i64 j ∧ Hid (Ext W2 wq)) (fun i _ _ => V - (intOf i).toNat)
      case atStart => exact ⟨0, Nat.zero_le _, rfl, XC⟩
      case round =>
        obtain ⟨j, hj, rfl, HJ⟩ := hrel
        have f0 := (HF.out _ HJ.out).c0
        by_cases hjV : j < V
        · have t5 : (j : Int) < V := by omega
          have t5' : (0 : Int) ≤ j := by omega
          have hjs : j < S.size := by rw [Hsz.out]; exact hjV
          have t6 : (j : Int) < (S.size : Int) := by omega
          obtain ⟨b7, o7, rfl, e8⟩ := HE6.out j hjV
          have h3 := Hsat.out j hjs
          obtain ⟨ch, hch⟩ : ∃ ch : Int, ((S[j]'hjs).toNat : Int) = ch := ⟨_, rfl⟩
          rw [hch] at h3
          have HHc := Lib.hid hch
          rcases h3 with ⟨rfl, hs⟩ | ⟨rfl, hs⟩ | ⟨rfl, hs⟩
          · have hBn := B5.new wr ⟨1, Y, 0, 0, false⟩ 49
            have z0 := hBn.at.1; have zf := hBn.fr 0
            have hq := fun w => run_st_neq ⟨1, Y, 0, 0, false⟩ ⟨1, Y, 0, 0, false⟩ w
            rw [show St.eqb (⟨1, Y, 0, 0, false⟩ : St) ⟨1, Y, 0, 0, false⟩ = true from decide_eq_true rfl] at hq
            dsimp only at hq z0
            obtain ⟨wz, hwz⟩ : ∃ wz, wz = (wr.alloc (.cells #[.int .u8 1, .int .u8 Y, .int .i64 0, .int .i64 0, .bool false] 49)) := ⟨_, rfl⟩
            have hb5 : B5 wz wr.heap.size ⟨1, Y, 0, 0, false⟩ 49 := by rw [hwz]; exact hBn
            have xz : Ext wr wz := by rw [hwz]; exact ((Ext.refl wr).alloc _)
            have HWz := Lib.hid hwz; have HB5 := Lib.hid hb5; have XZ := Lib.hid (HJ.out.trans xz)
            rw [hs] at e8
            have HE8 := Lib.hid e8
            clear hBn hs e8 hwz hb5 xz
            go_wp2
            rw [← HWz.out]
            obtain ⟨s0, s1, s2, s3, s4⟩ := HB5.out.at
            obtain ⟨u0, u1, u2, u3, u4⟩ := HE8.out.ext (XA5.out _ XZ.out)
            have q1 := HG.out _ XZ.out; have q2 := (XA5.out _ XZ.out).cell HG2.out
            dsimp only at s0 s1 s2 s3 s4 u0 u1 u2 u3 u4
            clear f0 z0 zf hch
            go_quiet (fail)
            clear s0 s1 s2 s3 s4 u0 u1 u2 u3 u4 q1 q2 hq
            go_wp2
            go_roundw
            case rel => exact ⟨j + 1, by omega, by go_num, by first | exact XZ | exact Lib.hid (XZ.out.drewN _)⟩
            case measure => simp [intOf]; omega
          · have hBn := B5.new wr ⟨1, Y, 0, 0, false⟩ 49
            have z0 := hBn.at.1; have zf := hBn.fr 0
            have hq := fun w => run_st_neq ⟨3, Y, 0, 0, false⟩ ⟨3, Y, 0, 0, false⟩ w
            rw [show St.eqb (⟨3, Y, 0, 0, false⟩ : St) ⟨3, Y, 0, 0, false⟩ = true from decide_eq_true rfl] at hq
            dsimp only at hq z0
            obtain ⟨wz, hwz⟩ : ∃ wz, wz = wr.alloc (.cells #[.int .u8 3, .int .u8 Y, .int .i64 0, .int .i64 0, .bool false] 49) := ⟨_, rfl⟩
            have hb5 : B5 wz wr.heap.size ⟨3, Y, 0, 0, false⟩ 49 := by rw [hwz]; exact B5.new wr ⟨3, Y, 0, 0, false⟩ _
            have xz : Ext wr wz := by rw [hwz]; exact ((Ext.refl wr).alloc _)
            have HWz := Lib.hid hwz; have HB5 := Lib.hid hb5; have XZ := Lib.hid (HJ.out.trans xz)
            rw [hs] at e8
            have HE8 := Lib.hid e8
            clear hBn hs e8 hwz hb5 xz
            go_wp2
            rw [← HWz.out]
            obtain ⟨s0, s1, s2, s3, s4⟩ := HB5.out.at
            obtain ⟨u0, u1, u2, u3, u4⟩ := HE8.out.ext (XA5.out _ XZ.out)
            have q1 := HG.out _ XZ.out; have q2 := (XA5.out _ XZ.out).cell HG2.out
            dsimp only at s0 s1 s2 s3 s4 u0 u1 u2 u3 u4
            clear f0 z0 zf hch
            go_quiet (fail)
            clear s0 s1 s2 s3 s4 u0 u1 u2 u3 u4 q1 q2 hq
            go_wp2
            go_roundw
            case rel => exact ⟨j + 1, by omega, by go_num, by first | exact XZ | exact Lib.hid (XZ.out.drewN _)⟩
            case measure => simp [intOf]; omega
          · have hBn := B5.new wr ⟨1, Y, 0, 0, false⟩ 49
            have z0 := hBn.at.1; have zf := hBn.fr 0
            have hq := fun w => run_st_neq ⟨4, Y, 0, 0, false⟩ ⟨4, Y, 0, 0, false⟩ w
            rw [show St.eqb (⟨4, Y, 0, 0, false⟩ : St) ⟨4, Y, 0, 0, false⟩ = true from decide_eq_true rfl] at hq
            dsimp only at hq z0
            obtain ⟨wz, hwz⟩ : ∃ wz, wz = wr.alloc (.cells #[.int .u8 4, .int .u8 Y, .int .i64 0, .int .i64 0, .bool false] 49) := ⟨_, rfl⟩
            have hb5 : B5 wz wr.heap.size ⟨4, Y, 0, 0, false⟩ 49 := by rw [hwz]; exact B5.new wr ⟨4, Y, 0, 0, false⟩ _
            have xz : Ext wr wz := by rw [hwz]; exact ((Ext.refl wr).alloc _)
            have HWz := Lib.hid hwz; have HB5 := Lib.hid hb5; have XZ := Lib.hid (HJ.out.trans xz)
            rw [hs] at e8
            have HE8 := Lib.hid e8
            clear hBn hs e8 hwz hb5 xz
            go_wp2
            rw [← HWz.out]
            obtain ⟨s0, s1, s2, s3, s4⟩ := HB5.out.at
            obtain ⟨u0, u1, u2, u3, u4⟩ := HE8.out.ext (XA5.out _ XZ.out)
            have q1 := HG.out _ XZ.out; have q2 := (XA5.out _ XZ.out).cell HG2.out
            dsimp only at s0 s1 s2 s3 s4 u0 u1 u2 u3 u4
            clear f0 z0 zf hch
            go_quiet (fail)
            clear s0 s1 s2 s3 s4 u0 u1 u2 u3 u4 q1 q2 hq
            go_wp2
            go_roundw
            case rel => exact ⟨j + 1, by omega, by go_num, by first | exact XZ | exact Lib.hid (XZ.out.drewN _)⟩
            case measure => simp [intOf]; omega
        · obtain rfl : j = V := by omega
          have t5 : ¬ (j : Int) < j := by omega
          have q1 := HG.out _ HJ.out; have q2 := (XA5.out _ HJ.out).cell HG2.out
          have hpr := HPr.out _ HJ.out
          go_wp2_with fail
          refine hpr.mono ?_
          intro e wp hret
          obtain ⟨g, rfl, xp, hpc⟩ := pr_lrow Hre.out hret
          rw [← Hm.out] at hpc ⊢
          have HPc := Lib.hid hpc; have XP := Lib.hid (HJ.out.trans xp); have YP := Lib.hid xp
          have f1 := (HF.out _ XP.out).c1; have g4 := (XA1.out _ XP.out).cell HG1.out
          have tmm : ((m : Int) != (m : Int)) = false := by simp
          clear hret xp hpc hpr q1 q2 f0 t5
          go_wp2
          clear f1 g4 tmm
          go_loopw [16, 17, 18] (fun i _ _ wq => ∃ u : Nat, u ≤ m ∧ i = .int .i64 u ∧ Hid (Ext wp wq)) (fun i _ _ _ => m - (intOf i).toNat)
          case atStart => exact ⟨0, Nat.zero_le _, rfl, Lib.hid (Ext.refl _)⟩
          case round =>
            obtain ⟨u, hu, rfl, HU⟩ := hrel
            by_cases hum : u < m
            · have t7 : (u : Int) < m := by omega
              have t7' : (0 : Int) ≤ u := by omega
              have XU := Lib.hid (XP.out.trans HU.out)
              have f1 := (HF.out _ XU.out).c1; have g4 := (XA1.out _ XU.out).cell HG1.out
              obtain ⟨b9, o9, rfl, z⟩ := HE5.out u hum
              obtain ⟨z1, z2⟩ := z.ext (XA1.out _ XU.out)
              obtain ⟨pc0, pc1⟩ := HPc.out u hum
              have htl := (oi R u).two_lst
              have hbz := rowE_all Hre.out _ (oi_mem (l := R) (i := u) (by rw [← Hm.out]; exact hum))
              obtain ⟨hb1, hb2, hb3, hb4⟩ := hbz
              have hlst : (oi R u).lst = (oi R u).fst + 1 := rfl
              obtain ⟨P, hP⟩ : ∃ P, P = (oi R u).p := ⟨_, rfl⟩
              obtain ⟨D, hD⟩ : ∃ D, D = (oi R u).two := ⟨_, rfl⟩
              rw [← hP] at z1 pc0 htl hb1 hb2
              rw [← hD] at pc1 htl
              have hneq := run_pr_neq P D
              have wp1 : IntKind.i64.wrap (P + 1) = P + 1 := IntWalk.i64_in _ ⟨by omega, by omega⟩
              have wp2 : IntKind.i64.wrap (P - 1) = P - 1 := IntWalk.i64_in _ ⟨by omega, by omega⟩
              have HPd := Lib.hid (show ((oi R u).l = true → P - 1 = D) ∧ ((oi R u).l = false → P + 1 = D) from ⟨fun h => by have := htl.1 h; omega, fun h => by have := htl.2 h; omega⟩)
              obtain ⟨F, hF⟩ : ∃ F, F = (oi R u).l := ⟨_, rfl⟩
              rw [← hF] at z2 HPd
              obtain ⟨wz, hwz⟩ : ∃ wz, wz = wr.alloc (.cells #[.int .i64 P, .bool F] 39) := ⟨_, rfl⟩
              have xz : Ext wr wz := by rw [hwz]; exact (Ext.refl _).alloc _
              have hbz : B2 wz wr.heap.size (.int .i64 P) (.bool F) 39 := by rw [hwz]; exact B2.new _ _ _ _
              have HWz := Lib.hid hwz; have HBz := Lib.hid hbz; have XZ := Lib.hid (HU.out.trans xz)
              have PC0 := Lib.hid pc0; have PC1 := Lib.hid pc1
              clear z htl hb1 hb2 hb3 hb4 hlst hP hD hF hwz hbz xz pc0 pc1
              cases F
              · have hd := HPd.out.2 rfl
                replace wp1 := wp1.trans hd
                clear HPd wp2 hd
                go_wp2
                rw [← HWz.out]
                have s0 := HBz.out.c0; have s1 := HBz.out.c1
                have pc0 := XZ.out.cell PC0.out; have pc1 := XZ.out.cell PC1.out
                clear f1 g4 z1 z2
                go_quiet (fail)
                clear s0 s1 pc0 pc1 hneq wp1
                go_wp2
                go_roundw
                case rel => exact ⟨u + 1, by omega, by go_num, by first | exact XZ | exact Lib.hid (XZ.out.drewN _)⟩
                case measure => simp [intOf]; omega
              · have hd := HPd.out.1 rfl
                replace wp2 := wp2.trans hd
                clear HPd hd
                go_wp2
                rw [← HWz.out]
                have s0 := HBz.out.c0; have s1 := HBz.out.c1
                have pc0 := XZ.out.cell PC0.out; have pc1 := XZ.out.cell PC1.out
                clear f1 g4 z1 z2
                go_quiet (fail)
                clear s0 s1 pc0 pc1 hneq wp1 wp2
                go_wp2
                go_roundw
                case rel => exact ⟨u + 1, by omega, by go_num, by first | exact XZ | exact Lib.hid (XZ.out.drewN _)⟩
                case measure => simp [intOf]; omega
            · obtain rfl : u = m := by omega
              have t7 : ¬ (u : Int) < u := by omega
              have XU := Lib.hid (XP.out.trans HU.out)
              go_wp2
              go_roundw
              case rel => exact ⟨k + 1, by omega, by go_num, XU⟩
              case measure => simp [intOf]; omega
    · obtain rfl : k = N := by omega
      have t1 : ¬ (k : Int) < k := by omega
      have hof := HOf2.out _ HX.out
      have f0 := (HF.out _ HX.out).c0; have f1 := (HF.out _ HX.out).c1
      clear hlt
      go_wp2_with fail
      refine hof.mono ?_
      intro e wo hret
      obtain ⟨v4, c4, rfl, hr4, xo⟩ := of_lch Hk.out HYb.out hret
      obtain ⟨a4, n4, rfl, o1, o2, o3, o4⟩ := hr4.open
      clear o1 o2 o3 o4 hret hof f0 f1
      obtain ⟨W4, hW4⟩ : ∃ W4, W4 = wo.alloc (.cells #[.int .i64 (V : Int), .slice a4 n4 c4] 24) := ⟨_, rfl⟩
      have xW4 : Ext wo W4 := by rw [hW4]; exact (Ext.refl wo).alloc _
      have hb6 : B2 W4 wo.heap.size (.int .i64 (V : Int)) (.slice a4 n4 c4) 24 := by rw [hW4]; exact B2.new _ _ _ _
      have Y4 := Lib.hid (HX.out.trans (xo.trans xW4)); have HW4 := Lib.hid hW4
      have f0 := (HF.out _ Y4.out).c0; have f1 := (HF.out _ Y4.out).c1
      have f2 := hb6.c0; have f3 := hb6.c1
      have hdf := HDiffer_calls V V _ _ _ _ rows rows W4 (hr4.ext xW4) (HR1.out W4 (Y2.out.trans Y4.out))
      rw [hdif_same] at hdf
      have HDf := Lib.hid hdf
      have X4 := Lib.hid (X2.out.trans Y4.out)
      have tYY : (Y == Y) = true := by simp
      rw [hW4] at f0 f1 f2 f3
      clear hr4 hb6 hdf xo xW4 hW4
      go_wp2_with fail
      rw [← HW4.out]
      refine HDf.out.mono ?_
      rintro e w5 ⟨rfl, x5⟩
      have X5 := Lib.hid (X4.out.trans x5)
      clear x5 f0 f1 f2 f3
      go_wp2_with fail
      refine (HLv.out _ X5.out).mono ?_
      rintro e w6 ⟨rfl, x6⟩
      have X6 := Lib.hid (X5.out.trans x6)
      clear x6
      go_wp2
      go_ret
      exact ⟨rfl, X6.out⟩
end Go.Proofs.YthllbcjglcplhaaDoor
