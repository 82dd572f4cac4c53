/- Texts of this claim in one file: libraries and walks. -/
import Derived.Deep.RegionHeld3
import Derived.Test.YthllbcjglcplhaaDoorL8
import Derived.Test.YthllbcjglcplhaaDoorL11
import Derived.Test.YthllbcjglcplhaaDoorL16
import Derived.Test.YthllbcjglcplhaaDoorL18
/- LacesMirror. -/
namespace Go.Proofs.YthllbcjglcplhaaDoor
set_option linter.unusedVariables false
set_option linter.unusedSimpArgs false
set_option maxRecDepth 8000
open Go Go.RowKit

theorem rowE_len {W : Int} : ∀ {r : List Ho} {f : Int}, rowE W r f = true → f ≤ W → 2 * (r.length : Int) ≤ W - f
  | [], f, _, hf => by simp; omega
  | a :: t, f, e, hf => by
    obtain ⟨⟨b1, b2, b3, b4⟩, h2⟩ := rowE_cons.1 e
    have := rowE_len h2 (by omega)
    unfold Ho.lst at *
    simp only [List.length_cons]
    omega
/-- What is known of a valid lace. -/
theorem lace_bd {W : Nat} {rows : List (List Ho)} (h : lchk W rows = 0) : (2 ≤ W ∧ W ≤ 16) ∧ rows.length ≤ 31 ∧ (∀ i, i < rows.length → (ow rows i).length ≤ 1000) ∧ ∀ i, i < rows.length → ∀ h ∈ ow rows i, 0 ≤ h.p ∧ h.p ≤ 1000 := by
  obtain ⟨h1, h2, h3, h4, h5⟩ := lchk_zero h
  refine ⟨by omega, h1, fun i hi => ?_, fun i hi x hx => ?_⟩
  · have := rowE_len (h5 i hi) (by omega); omega
  · obtain ⟨a, b, _, _⟩ := rowE_all (h5 i hi) x hx
    exact ⟨a, by omega⟩
theorem lcE_ok {W : Nat} {y : Int} {rows : List (List Ho)} (h : lchk W rows = 0) (hy : 1 ≤ y ∧ y ≤ 6) : lcE W y rows = 0 ∧ lcR W y rows = lch W y rows := by
  have h1 : lcE W y rows = 0 := by unfold lcE; rw [if_neg (by omega), if_neg (by omega)]
  exact ⟨h1, by unfold lcR; rw [if_pos h1, Int.toNat_natCast]⟩
set_option maxHeartbeats 8000000 in
theorem LacesMirror_walk (wd : Int) (v : Value) (c : Nat) (chs : List (List Int)) (w : World) (h : ISS .u8 w v c chs) (hw : 0 ≤ wd ∧ wd ≤ 255) (hb : ∀ k, k < chs.length → ∀ i, i < (ri chs k).length → 0 ≤ gi (ri chs k) i ∧ gi (ri chs k) i ≤ 255) (hy : Sy w) :
    Calls Tryd.prog 8 #[.agg #[.int .u8 wd, v]] w (RetT w) := by
  have hof := fun w' (x : Ext w w') => AOf_calls wd v c chs w' (h.ext x) hw hb
  have hlv := fun w' (x : Ext w w') => lives20_calls w' (hy.ext x)
  obtain ⟨vs, caps, hV⟩ := h
  obtain ⟨ao, n, rfl, hn, hc, hcm, hat⟩ := hV.outs2
  obtain ⟨B, hB⟩ : ∃ B, B = w.alloc (.cells #[.int .u8 wd, .slice ao n c] 56) := ⟨_, rfl⟩
  have xB : Ext w B := by rw [hB]; exact (Ext.refl w).alloc _
  have hB1 := B2.new w (.int .u8 wd) (.slice ao n c) 56
  rw [← hB] at hB1
  have e0 := hB1.c0; have e1 := hB1.c1
  have HOf := Lib.hid (hof B xB); have HLv := Lib.hid hlv; have XB := Lib.hid xB; have HB := Lib.hid hB
  rw [hB] at e0 e1
  clear hV hn hc hcm hat hB xB hB1 hof hlv hw hb hy
  go_enter Tryd.func8, Tryd.ntmps8
  go_wp2_with fail
  rw [← HB.out]
  refine HOf.out.mono ?_
  rintro e w1 ⟨V, v1, c1, rows, rfl, hr, hk, hr9, x1⟩
  obtain ⟨⟨hV2, hV16⟩, hrl, hbl, hbp⟩ := lace_bd hk
  obtain ⟨hcE, hcR⟩ := lcE_ok hk (y := 1) (by omega)
  have hkm := lchk_mir hk
  obtain ⟨hmE, hmR⟩ := lcE_ok hkm (y := 1) (by omega)
  obtain ⟨⟨_, _⟩, hrlm, hblm, hbpm⟩ := lace_bd hkm
  have hlm := lch_mir (y := 1) (by omega) (lchk_zero hk).2.2.2.2
  obtain ⟨a1, n1, rfl, o1, o2, o3, o4⟩ := hr.open; clear o1 o2 o3 o4
  obtain ⟨W1, hW1⟩ : ∃ W1, W1 = w1.alloc (.cells #[.int .i64 (V : Int), .slice a1 n1 c1] 24) := ⟨_, rfl⟩
  have xW1 : Ext w1 W1 := by rw [hW1]; exact (Ext.refl w1).alloc _
  have hb3 : B2 W1 w1.heap.size (.int .i64 (V : Int)) (.slice a1 n1 c1) 24 := by rw [hW1]; exact B2.new _ _ _ _
  have HR1 := Lib.hid (hr.ext xW1); have HW1 := Lib.hid hW1; have HB3 := Lib.hid hb3; have X1 := Lib.hid (XB.out.trans (x1.trans xW1))
  have f0 := hb3.c0; have f1 := hb3.c1
  have hmr := LMirror_calls V _ _ rows W1 (hr.ext xW1) (by omega) hbl (by omega) hbp
  have HMr := Lib.hid hmr; have HcE := Lib.hid hcE; have HcR := Lib.hid hcR; have HmE := Lib.hid hmE; have HmR := Lib.hid hmR; have HLm := Lib.hid hlm; have Hkm := Lib.hid hkm; have HBlm := Lib.hid hblm; have HBpm := Lib.hid hbpm; have HRlm := Lib.hid hrlm
  rw [hW1] at f0 f1
  clear hr hk x1 xW1 hb3 hW1 hmr hcE hcR hmE hmR hlm hkm hbl hbp hblm hbpm hrlm hr9 hrl e0 e1 HOf
  go_wp2_with fail
  rw [← HW1.out]
  refine HMr.out.mono ?_
  rintro e w2 ⟨v2, rfl, hr2, x2⟩
  obtain ⟨a2, n2, rfl, o1, o2, o3, o4⟩ := hr2.open; clear o1 o2 o3 o4
  obtain ⟨c2, hc2⟩ : ∃ c2, c2 = (lmir V rows).length := ⟨_, rfl⟩
  rw [← hc2] at hr2 ⊢
  obtain ⟨W2, hW2⟩ : ∃ W2, W2 = w2.alloc (.cells #[.int .i64 (V : Int), .slice a2 n2 c2] 24) := ⟨_, rfl⟩
  have xW2 : Ext w2 W2 := by rw [hW2]; exact (Ext.refl w2).alloc _
  have hb4 : B2 W2 w2.heap.size (.int .i64 (V : Int)) (.slice a2 n2 c2) 24 := by rw [hW2]; exact B2.new _ _ _ _
  have HR2 := Lib.hid (hr2.ext xW2); have HW2 := Lib.hid hW2; have HB4 := Lib.hid hb4; have Y2 := Lib.hid (x2.trans xW2); have X2 := Lib.hid (X1.out.trans (x2.trans xW2))
  have f0 := (HB3.out.ext Y2.out).c0; have f1 := (HB3.out.ext Y2.out).c1
  have hct := LChart_calls V 1 _ _ rows W2 (HR1.out.ext Y2.out) (by omega)
  rw [HcE.out, HcR.out] at hct
  have HCt := Lib.hid hct
  rw [hW2] at f0 f1
  clear hr2 hc2 x2 xW2 hb4 hW2 hct HMr
  go_wp2_with fail
  rw [← HW2.out]
  refine HCt.out.mono ?_
  rintro e w3 ⟨v3, rfl, hr3, x3⟩
  obtain ⟨a3, n3, rfl, o1, o2, o3, o4⟩ := hr3.open; clear o1 o2 o3 o4
  obtain ⟨c3, hc3⟩ : ∃ c3, c3 = (lch V 1 rows).length := ⟨_, rfl⟩
  rw [← hc3] at hr3 ⊢
  obtain ⟨W3, hW3⟩ : ∃ W3, W3 = w3.alloc (.cells #[.slice a3 n3 c3] 28) := ⟨_, rfl⟩
  have xW3 : Ext w3 W3 := by rw [hW3]; exact (Ext.refl w3).alloc _
  have hb5 : W3.cell? ⟨w3.heap.size, 0, none⟩ = some (.slice a3 n3 c3) := by rw [hW3, World.cell?_alloc_at (hn := rfl)]; rfl
  have HR3 := Lib.hid (hr3.ext xW3); have HW3 := Lib.hid hW3; have HB5 := Lib.hid hb5; have Y3 := Lib.hid (x3.trans xW3); have Z3 := Lib.hid (Y2.out.trans (x3.trans xW3)); have X3 := Lib.hid (X2.out.trans (x3.trans xW3))
  have g0 := (HB4.out.ext Y3.out).c0; have g1 := (HB4.out.ext Y3.out).c1
  have hcm := LChart_calls V 1 _ _ (lmir V rows) W3 (HR2.out.ext Y3.out) (by omega)
  rw [HmE.out, HmR.out] at hcm
  have HCm := Lib.hid hcm
  rw [hW3] at g0 g1
  clear hr3 hc3 x3 xW3 hb5 hW3 hcm HCt f0 f1
  go_wp2_with fail
  rw [← HW3.out]
  refine HCm.out.mono ?_
  rintro e w4 ⟨v4, rfl, hr4, x4⟩
  obtain ⟨a4, n4, rfl, o1, o2, o3, o4⟩ := hr4.open; clear o1 o2 o3 o4
  obtain ⟨c4, hc4⟩ : ∃ c4, c4 = (lch V 1 (lmir V rows)).length := ⟨_, rfl⟩
  rw [← hc4] at hr4 ⊢
  obtain ⟨W4, hW4⟩ : ∃ W4, W4 = w4.alloc (.cells #[.slice a4 n4 c4] 28) := ⟨_, rfl⟩
  have xW4 : Ext w4 W4 := by rw [hW4]; exact (Ext.refl w4).alloc _
  have q0_4 : W4.cell? ⟨w4.heap.size, 0, none⟩ = some (.slice a4 n4 c4) := by rw [hW4, World.cell?_alloc_at (hn := rfl)]; rfl
  have Y4 := Lib.hid (x4.trans xW4); have Z4 := Lib.hid (Z3.out.trans (x4.trans xW4)); have X4 := Lib.hid (X3.out.trans (x4.trans xW4)); have U4 := Lib.hid (Y3.out.trans (x4.trans xW4))
  have HR4 := Lib.hid (hr4.ext xW4); have HW4 := Lib.hid hW4
  have q0_1 := (HB4.out.ext U4.out).c0; have q0_2 := (HB4.out.ext U4.out).c1
  have q0_3 := Y4.out.cell HB5.out
  have q0_5 := (HB3.out.ext Z4.out).c0; have q0_6 := (HB3.out.ext Z4.out).c1
  -- contracts
  have hk5 := fun w' (x : Ext W4 w') => RCheck20_calls V _ _ (lmir V rows) w' (HR2.out.ext (U4.out.trans x))
  rw [Hkm.out] at hk5
  have hcm5 := fun w' (x : Ext W4 w') => CMirror_calls _ _ (lch V 1 rows) w' (HR3.out.ext (Y4.out.trans x)) (by rw [lch_len]; have := HRlm.out; rw [lmir_len] at this; omega) (fun i hi => by rw [lch_len] at hi; rw [lch_sw hi, lrow_len]; omega)
  rw [← HLm.out] at hcm5
  have hdf5 := fun w' (x : Ext W4 w') u d (hu : RR w' u d (lch V 1 (lmir V rows))) => Differ_calls u _ d _ (lch V 1 (lmir V rows)) (lch V 1 (lmir V rows)) w' hu (HR4.out.ext x)
  have hlm5 := fun w' (x : Ext W4 w') => LMirror_calls V _ _ (lmir V rows) w' (HR2.out.ext (U4.out.trans x)) (by have := HRlm.out; omega) HBlm.out (by omega) HBpm.out
  rw [lmir_lmir] at hlm5
  have hhd5 := fun w' (x : Ext W4 w') u d (hu : HR w' u d rows) => hdf_c V u _ d _ rows w' hu (HR1.out.ext (Z4.out.trans x))
  simp only [dif_same] at hdf5
  have HK5 := Lib.hid hk5; have HCM5 := Lib.hid hcm5; have HDF5 := Lib.hid hdf5; have HLM5 := Lib.hid hlm5; have HHD5 := Lib.hid hhd5
  have HLv5 := Lib.hid (fun w' (x : Ext W4 w') => HLv.out w' (X4.out.trans x))
  rw [hW4] at q0_1 q0_2 q0_3 q0_4 q0_5 q0_6
  clear hr4 hc4 x4 xW4 hW4 hk5 hcm5 hdf5 hlm5 hhd5 HCm g0 g1 HLv
  go_wp2
  rw [← HW4.out]
  rw [← HW4.out] at q0_1 q0_2 q0_3 q0_4 q0_5 q0_6
  go_region_held3 (fun w' => w'.cell? ⟨w2.heap.size, 0, Option.none⟩ = some (.int .i64 (V : Int)) ∧ w'.cell? ⟨w2.heap.size, 1, Option.none⟩ = some (.slice a2 n2 c2) ∧ w'.cell? ⟨w3.heap.size, 0, Option.none⟩ = some (.slice a3 n3 c3) ∧ w'.cell? ⟨w4.heap.size, 0, Option.none⟩ = some (.slice a4 n4 c4) ∧ w'.cell? ⟨w1.heap.size, 0, Option.none⟩ = some (.int .i64 (V : Int)) ∧ w'.cell? ⟨w1.heap.size, 1, Option.none⟩ = some (.slice a1 n1 c1)) (first | (with_reducible exact ⟨q0_1, q0_2, q0_3, q0_4, q0_5, q0_6⟩) | (with_reducible exact ⟨q1_1, q1_2, q1_3, q1_4, q1_5, q1_6⟩) | (with_reducible exact ⟨q2_1, q2_2, q2_3, q2_4, q2_5, q2_6⟩) | (with_reducible exact ⟨q3_1, q3_2, q3_3, q3_4, q3_5, q3_6⟩) | (with_reducible exact ⟨q4_1, q4_2, q4_3, q4_4, q4_5, q4_6⟩) | (with_reducible exact ⟨q5_1, q5_2, q5_3, q5_4, q5_5, q5_6⟩) | (with_reducible exact ⟨q6_1, q6_2, q6_3, q6_4, q6_5, q6_6⟩) | go_keep) (first
    | (go_at_call 12; (refine (HK5.out _ ?_).mono ?_); (focus (repeat (first | (with_reducible exact Ext.refl _) | (with_reducible apply Ext.drew) | (with_reducible apply Ext.drewN) | (with_reducible apply Ext.alloc)))); intro e wa hh; obtain ⟨rfl, x⟩ := hh; have Xa : Hid (Ext W4 wa) := Lib.hid (Ext.trans (by ((repeat (first | (with_reducible exact Ext.refl _) | (with_reducible apply Ext.drew) | (with_reducible apply Ext.drewN) | (with_reducible apply Ext.alloc))); done)) x); have q1_1 := Xa.out.cell q0_1; have q1_2 := Xa.out.cell q0_2; have q1_3 := Xa.out.cell q0_3; have q1_4 := Xa.out.cell q0_4; have q1_5 := Xa.out.cell q0_5; have q1_6 := Xa.out.cell q0_6; clear x)
    | (go_at_call 31; (refine (HCM5.out _ ?_).mono ?_); (focus (refine Ext.trans Xa.out ?_; (repeat (first | (with_reducible exact Ext.refl _) | (with_reducible apply Ext.drew) | (with_reducible apply Ext.drewN) | (with_reducible apply Ext.alloc))))); intro e wb hh; obtain ⟨vb, rfl, rb, x⟩ := hh; have Xb : Hid (Ext W4 wb) := Lib.hid (Ext.trans Xa.out (Ext.trans (by ((repeat (first | (with_reducible exact Ext.refl _) | (with_reducible apply Ext.drew) | (with_reducible apply Ext.drewN) | (with_reducible apply Ext.alloc))); done)) x)); have q2_1 := Xb.out.cell q0_1; have q2_2 := Xb.out.cell q0_2; have q2_3 := Xb.out.cell q0_3; have q2_4 := Xb.out.cell q0_4; have q2_5 := Xb.out.cell q0_5; have q2_6 := Xb.out.cell q0_6; obtain ⟨ab, nb, hv, jj⟩ := rb.open; subst hv; have Rb := Lib.hid rb; clear rb jj; clear x)
    | (go_at_call 30; (refine (HDF5.out _ ?_ _ _ (Rb.out.ext ?_)).mono ?_); (focus (refine Ext.trans Xb.out ?_; (repeat (first | (with_reducible exact Ext.refl _) | (with_reducible apply Ext.drew) | (with_reducible apply Ext.drewN) | (with_reducible apply Ext.alloc))))); (focus (repeat (first | (with_reducible exact Ext.refl _) | (with_reducible apply Ext.drew) | (with_reducible apply Ext.drewN) | (with_reducible apply Ext.alloc)))); intro e wc hh; obtain ⟨rfl, x⟩ := hh; have Xc : Hid (Ext W4 wc) := Lib.hid (Ext.trans Xb.out (Ext.trans (by ((repeat (first | (with_reducible exact Ext.refl _) | (with_reducible apply Ext.drew) | (with_reducible apply Ext.drewN) | (with_reducible apply Ext.alloc))); done)) x)); have q3_1 := Xc.out.cell q0_1; have q3_2 := Xc.out.cell q0_2; have q3_3 := Xc.out.cell q0_3; have q3_4 := Xc.out.cell q0_4; have q3_5 := Xc.out.cell q0_5; have q3_6 := Xc.out.cell q0_6; clear x)
    | (go_at_call 29; (refine (HLM5.out _ ?_).mono ?_); (focus (refine Ext.trans Xc.out ?_; (repeat (first | (with_reducible exact Ext.refl _) | (with_reducible apply Ext.drew) | (with_reducible apply Ext.drewN) | (with_reducible apply Ext.alloc))))); intro e wd5 hh; obtain ⟨vd, rfl, rd, x⟩ := hh; have Xd : Hid (Ext W4 wd5) := Lib.hid (Ext.trans Xc.out (Ext.trans (by ((repeat (first | (with_reducible exact Ext.refl _) | (with_reducible apply Ext.drew) | (with_reducible apply Ext.drewN) | (with_reducible apply Ext.alloc))); done)) x)); have q4_1 := Xd.out.cell q0_1; have q4_2 := Xd.out.cell q0_2; have q4_3 := Xd.out.cell q0_3; have q4_4 := Xd.out.cell q0_4; have q4_5 := Xd.out.cell q0_5; have q4_6 := Xd.out.cell q0_6; obtain ⟨ad, nd, hv, jj⟩ := rd.open; subst hv; have Rd := Lib.hid rd; clear rd jj; clear x)
    | (go_at_call 21; (refine (HHD5.out _ ?_ _ _ (Rd.out.ext ?_)).mono ?_); (focus (refine Ext.trans Xd.out ?_; (repeat (first | (with_reducible exact Ext.refl _) | (with_reducible apply Ext.drew) | (with_reducible apply Ext.drewN) | (with_reducible apply Ext.alloc))))); (focus (repeat (first | (with_reducible exact Ext.refl _) | (with_reducible apply Ext.drew) | (with_reducible apply Ext.drewN) | (with_reducible apply Ext.alloc)))); intro e we hh; obtain ⟨rfl, x⟩ := hh; have Xe : Hid (Ext W4 we) := Lib.hid (Ext.trans Xd.out (Ext.trans (by ((repeat (first | (with_reducible exact Ext.refl _) | (with_reducible apply Ext.drew) | (with_reducible apply Ext.drewN) | (with_reducible apply Ext.alloc))); done)) x)); have q5_1 := Xe.out.cell q0_1; have q5_2 := Xe.out.cell q0_2; have q5_3 := Xe.out.cell q0_3; have q5_4 := Xe.out.cell q0_4; have q5_5 := Xe.out.cell q0_5; have q5_6 := Xe.out.cell q0_6; clear x)
    | (go_at_call 17; (refine (HLv5.out _ ?_).mono ?_); (focus (refine Ext.trans Xe.out ?_; (repeat (first | (with_reducible exact Ext.refl _) | (with_reducible apply Ext.drew) | (with_reducible apply Ext.drewN) | (with_reducible apply Ext.alloc))))); intro e wf hh; obtain ⟨rfl, x⟩ := hh; have Xf : Hid (Ext W4 wf) := Lib.hid (Ext.trans Xe.out (Ext.trans (by ((repeat (first | (with_reducible exact Ext.refl _) | (with_reducible apply Ext.drew) | (with_reducible apply Ext.drewN) | (with_reducible apply Ext.alloc))); done)) x)); have q6_1 := Xf.out.cell q0_1; have q6_2 := Xf.out.cell q0_2; have q6_3 := Xf.out.cell q0_3; have q6_4 := Xf.out.cell q0_4; have q6_5 := Xf.out.cell q0_5; have q6_6 := Xf.out.cell q0_6; clear x))
  try go_wp2
  go_ret
  exact ⟨rfl, X4.out.trans Xf.out⟩
end Go.Proofs.YthllbcjglcplhaaDoor
/- LacesCheck. -/
namespace Go.Proofs.YthllbcjglcplhaaDoor
set_option linter.unusedVariables false
set_option linter.unusedSimpArgs false
set_option maxRecDepth 8000
open Go Go.RowKit

/-- The hole leaves the row if it is moved by n. -/
def Ho.far (W n : Int) (h : Ho) : Bool := decide (n < -h.fst) || decide (W - 2 - h.fst < n)
def fR (W n : Int) (r : List Ho) : Bool := r.any (Ho.far W n)
def fA (W n : Int) (rows : List (List Ho)) : Bool := rows.any (fR W n)
def ff (b : Bool) : Int := if b then 1 else 0
theorem fA_succ {W n : Int} {rows : List (List Ho)} {k : Nat} (h : k < rows.length) : fA W n (rows.take (k + 1)) = (fA W n (rows.take k) || fR W n (ow rows k)) := by
  rw [take_succ_ow h]; unfold fA; rw [List.any_append]; simp
theorem fR_succ {W n : Int} {r : List Ho} {k : Nat} (h : k < r.length) : fR W n (r.take (k + 1)) = (fR W n (r.take k) || Ho.far W n (oi r k)) := by
  rw [take_succ_oi h]; unfold fR; rw [List.any_append]; simp
theorem far_cl {W n : Int} {h : Ho} {f : Int} (hW : 2 ≤ W ∧ W ≤ 16) (ho : h.ok W 0) : (0 ≤ h.fst + nCl n ∧ h.lst + nCl n < W) ↔ Ho.far W n h = false := by
  obtain ⟨a, b, c, d⟩ := ho
  have e : h.lst = h.fst + 1 := rfl
  unfold Ho.far nCl
  simp only [Bool.or_eq_false_iff, decide_eq_false_iff_not]
  split <;> split <;> omega
theorem shE_far {W n : Int} {rows : List (List Ho)} (h : lchk W rows = 0) : shE W n rows = ff (fA W n rows) := by
  obtain ⟨h1, h2, h3, h4, h5⟩ := lchk_zero h
  have key : lchk W (lsh (nCl n) rows) = 0 ↔ fA W n rows = false := by
    unfold fA
    rw [List.any_eq_false]
    constructor
    · intro g r hr
      obtain ⟨i, hi, rfl⟩ := List.mem_iff_getElem.1 hr
      have g5 := (lchk_zero g).2.2.2.2 i (by rw [lsh_len]; exact hi)
      rw [lsh_ow hi] at g5
      have := (sh_rowE (h5 i hi)).1 g5
      rw [← ow_of_lt hi]
      unfold fR
      rw [Bool.not_eq_true, List.any_eq_false]
      intro x hx
      rw [Bool.not_eq_true]
      exact (far_cl (f := 0) ⟨h2, h3⟩ (rowE_all (h5 i hi) x hx)).1 (this x hx)
    · intro g
      refine lchk_ok (by rw [lsh_len]; omega) (by rw [lsh_len]; omega) (fun i hi => ?_)
      rw [lsh_len] at hi
      rw [lsh_ow hi]
      refine (sh_rowE (h5 i hi)).2 (fun x hx => ?_)
      have := g (ow rows i) (ow_mem hi)
      unfold fR at this
      rw [Bool.not_eq_true, List.any_eq_false] at this
      have := this x hx
      rw [Bool.not_eq_true] at this
      exact (far_cl (f := 0) ⟨h2, h3⟩ (rowE_all (h5 i hi) x hx)).2 this
  unfold shE ff
  rw [if_neg (by omega)]
  by_cases e : fA W n rows = false
  · rw [if_pos (key.2 e), e]; rfl
  · rw [if_neg (fun x => e (key.1 x)), if_pos (by simpa using e)]
theorem ltx_bad {W : Int} {rows : List (List Ho)} (h : lchk W rows ≠ 0) : bstr (ltx W rows) = ⟨#[]⟩ := by
  unfold ltx; rw [if_neg h]; rfl
set_option maxHeartbeats 8000000 in
theorem LacesCheck_walk (W0 y n : Int) (v : Value) (c : Nat) (rows : List (List Ho)) (w : World) (h : HR w v c rows) (hy2 : 0 ≤ y ∧ y ≤ 255) (hy : Sy w) :
    Calls Tryd.prog 3 #[.agg #[.int .i64 W0, v], .int .u8 y, .int .i64 n] w (RetT w) := by
  have hsm := fun w' (x : Ext w w') => Small_calls W0 v c rows w' (h.ext x)
  have hck := fun w' (x : Ext w w') => RCheck20_calls W0 v c rows w' (h.ext x)
  have hct := fun w' (x : Ext w w') => LChart_calls W0 y v c rows w' (h.ext x) hy2
  have hsh := fun (hl : smal rows = 1) w' (x : Ext w w') => LShift_calls W0 n v c rows w' (h.ext x) (fun i hi => by have := (smal_bd hl).2 i hi; omega)
  have hlk := fun w' (x : Ext w w') => LCheck_calls W0 v c rows w' (h.ext x)
  have htx := fun w' (x : Ext w w') => LText_calls W0 v c rows w' (h.ext x)
  have hlv := fun w' (x : Ext w w') => lives20_calls w' (hy.ext x)
  obtain ⟨ao, N, rfl, hn, hc, hcm, hat⟩ := h.open
  unfold maxLen at hcm
  obtain ⟨B, hB⟩ : ∃ B, B = w.alloc (.cells #[.int .i64 W0, .slice ao N c] 24) := ⟨_, rfl⟩
  have xB : Ext w B := by rw [hB]; exact (Ext.refl w).alloc _
  have hB1 := B2.new w (.int .i64 W0) (.slice ao N c) 24
  rw [← hB] at hB1
  have e0 := hB1.c0; have e1 := hB1.c1
  have HSm := Lib.hid hsm; have HCk := Lib.hid hck; have HCt := Lib.hid hct; have HSh := Lib.hid hsh; have HLk := Lib.hid hlk; have HTx := Lib.hid htx; have HLv := Lib.hid hlv
  have XB := Lib.hid xB; have HB := Lib.hid hB; have HB1 := Lib.hid hB1; have HA := Lib.hid hat; have Hn := Lib.hid hn
  rw [hB] at e0 e1
  clear hsm hck hct hsh hlk htx hlv hB xB hB1 hat hn h hy hy2
  go_enter Tryd.func3, Tryd.ntmps3
  go_wp2_with fail
  rw [← HB.out]
  refine (HSm.out B XB.out).mono ?_
  rintro e w1 ⟨rfl, x1⟩
  rcases smal_cases rows with hs | hs
  · rw [hs]
    clear e0 e1
    go_wp2
    go_ret
    exact ⟨rfl, XB.out.trans x1⟩
  rw [hs]
  have Hs := Lib.hid hs
  have X1 := Lib.hid (XB.out.trans x1); have Y1 := Lib.hid x1
  have f0 := (HB1.out.ext x1).c0; have f1 := (HB1.out.ext x1).c1
  clear hs x1 HSm e0 e1
  go_wp2_with fail
  refine (HCk.out w1 X1.out).mono ?_
  rintro e w2 ⟨rfl, x2⟩
  have X2 := Lib.hid (X1.out.trans x2); have Y2 := Lib.hid (Y1.out.trans x2)
  have g0 := (HB1.out.ext Y2.out).c0; have g1 := (HB1.out.ext Y2.out).c1
  obtain ⟨E, hE⟩ : ∃ E, E = lchk W0 rows := ⟨_, rfl⟩
  rw [← hE]
  have HE := Lib.hid hE
  clear x2 HCk f0 f1 hE
  go_wp2_with fail
  refine (HCt.out w2 X2.out).mono ?_
  rintro e w3 ⟨v3, rfl, hr3, x3⟩
  obtain ⟨P, hP⟩ : ∃ P, P = lcR W0 y rows := ⟨_, rfl⟩
  obtain ⟨p, hp⟩ : ∃ p, p = lcE W0 y rows := ⟨_, rfl⟩
  rw [← hP] at hr3; rw [← hp]
  obtain ⟨c3, hc3⟩ : ∃ c3, c3 = P.length := ⟨_, rfl⟩
  rw [← hc3] at hr3
  obtain ⟨a3, n3, rfl, hn3, o1, o2, o3⟩ := hr3.open
  obtain ⟨W3, hW3⟩ : ∃ W3, W3 = w3.alloc (.cells #[.slice a3 n3 c3] 28) := ⟨_, rfl⟩
  have xW3 : Ext w3 W3 := by rw [hW3]; exact (Ext.refl w3).alloc _
  have hb5 : W3.cell? ⟨w3.heap.size, 0, none⟩ = some (.slice a3 n3 c3) := by rw [hW3, World.cell?_alloc_at (hn := rfl)]; rfl
  have HW3 := Lib.hid hW3; have HB5 := Lib.hid hb5; have Y3 := Lib.hid (Y2.out.trans (x3.trans xW3)); have X3 := Lib.hid (X2.out.trans (x3.trans xW3)); have HP := Lib.hid hP; have Hp := Lib.hid hp; have Hn3 := Lib.hid (hn3); have Hc3 := Lib.hid hc3
  have f0 := (HB1.out.ext Y3.out).c0; have f1 := (HB1.out.ext Y3.out).c1
  rw [hW3] at f0 f1
  clear hr3 hc3 x3 xW3 hb5 hW3 HCt g0 g1 hP hp o1 o2 o3 hn3
  go_wp2_with fail
  rw [← HW3.out]
  refine (HSh.out Hs.out W3 X3.out).mono ?_
  rintro e w4 ⟨v4, rfl, hr4, x4⟩
  obtain ⟨Q, hQ⟩ : ∃ Q, Q = shR W0 n rows := ⟨_, rfl⟩
  obtain ⟨q, hq⟩ : ∃ q, q = shE W0 n rows := ⟨_, rfl⟩
  obtain ⟨qW, hqW⟩ : ∃ qW, qW = shW W0 n rows := ⟨_, rfl⟩
  rw [← hQ] at hr4; rw [← hq, ← hqW]
  obtain ⟨c4, hc4⟩ : ∃ c4, c4 = Q.length := ⟨_, rfl⟩
  rw [← hc4] at hr4
  obtain ⟨a4, n4, rfl, hn4, o1, o2, o3⟩ := hr4.open
  obtain ⟨W4, hW4⟩ : ∃ W4, W4 = w4.alloc (.cells #[.int .i64 qW, .slice a4 n4 c4] 24) := ⟨_, rfl⟩
  have xW4 : Ext w4 W4 := by rw [hW4]; exact (Ext.refl w4).alloc _
  have hb6 : B2 W4 w4.heap.size (.int .i64 qW) (.slice a4 n4 c4) 24 := by rw [hW4]; exact B2.new _ _ _ _
  have HW4 := Lib.hid hW4; have HB6 := Lib.hid hb6; have Y4 := Lib.hid (Y3.out.trans (x4.trans xW4)); have X4 := Lib.hid (X3.out.trans (x4.trans xW4)); have Z4 := Lib.hid (x4.trans xW4); have HQ := Lib.hid hQ; have Hq := Lib.hid hq; have Hn4 := Lib.hid hn4; have Hc4 := Lib.hid hc4
  have g0 := (HB1.out.ext Y4.out).c0; have g1 := (HB1.out.ext Y4.out).c1
  rw [hW4] at g0 g1
  clear hr4 hc4 x4 xW4 hb6 hW4 HSh f0 f1 hQ hq hqW o1 o2 o3 hn4
  go_wp2_with fail
  rw [← HW4.out]
  refine (HLk.out W4 X4.out).mono ?_
  rintro e w5 ⟨rfl, x5⟩
  rw [← HE.out]
  have X5 := Lib.hid (X4.out.trans x5); have Y5 := Lib.hid (Y4.out.trans x5)
  have f0 := (HB1.out.ext (Y4.out.trans x5)).c0; have f1 := (HB1.out.ext (Y4.out.trans x5)).c1
  have f2 := (Z4.out.trans x5).cell HB5.out
  have f3 := (HB6.out.ext x5).c0; have f4 := (HB6.out.ext x5).c1
  have F0 := Lib.hid f0; have F1 := Lib.hid f1
  clear x5 HLk g0 g1
  have tE : (E != E) = false := by simp
  by_cases hE : lchk W0 rows = 0
  case neg =>
    have h1 : p = E := by rw [Hp.out, HE.out]; unfold lcE; rw [if_pos hE]
    have h2 : q = E := by rw [Hq.out, HE.out]; unfold shE; rw [if_pos hE]
    have hne : E ≠ 0 := by rw [HE.out]; exact hE
    have h3 : n3 = 0 := by
      rw [Hn3.out, HP.out]; unfold lcR; rw [if_neg (by rw [← Hp.out, h1]; exact hne)]; rfl
    have h4 : n4 = 0 := by
      rw [Hn4.out, HQ.out]; unfold shR; rw [if_neg (by rw [← Hq.out, h2]; exact hne)]; rfl
    have tne : (E != 0) = true := by rw [bne, beq_eq_false_iff_ne.2 hne]; rfl
    have HTb := Lib.hid (ltx_bad hE)
    subst h1; subst h2; subst h3; subst h4
    clear hE hne
    go_wp2_with fail
    refine (HTx.out _ X5.out).mono ?_
    rintro e w6 ⟨rfl, x6⟩
    have X6 := Lib.hid (X5.out.trans x6)
    rw [HTb.out]
    clear f0 f1 f2 f3 f4 x6
    go_wp2_with fail
    refine (HLv.out _ X6.out).mono ?_
    rintro e w7 ⟨rfl, x7⟩
    have X7 := Lib.hid (X6.out.trans x7)
    clear x7
    go_wp2
    go_ret
    exact ⟨rfl, X7.out⟩
  have h0 : E = 0 := by rw [HE.out]; exact hE
  subst h0
  have HqF := Lib.hid (show q = ff (fA W0 n rows) by rw [Hq.out]; exact shE_far hE)
  obtain ⟨⟨z1, z2⟩, z3⟩ : (2 ≤ W0 ∧ W0 ≤ 16) ∧ Hid (∀ i, i < N → ∀ x ∈ ow rows i, 0 ≤ x.fst ∧ x.fst ≤ 16) := by
    obtain ⟨h1, h2, h3, h4, h5⟩ := lchk_zero hE
    refine ⟨⟨h2, h3⟩, Lib.hid (fun i hi x hx => ?_)⟩
    obtain ⟨a, b, c, d⟩ := rowE_all (h5 i (by rw [← Hn.out]; exact hi)) x hx
    have : x.lst = x.fst + 1 := rfl
    omega
  have hp2 : (p = 0 ∧ 1 ≤ y ∧ y ≤ 6) ∨ (p = 1 ∧ y < 1) ∨ (p = 1 ∧ 1 ≤ y ∧ ¬ y ≤ 6) := by
    have := Hp.out
    unfold lcE at this
    rw [if_neg (by omega)] at this
    split at this
    · omega
    · exact .inl ⟨this, by omega⟩
  have ww : IntKind.i64.wrap (W0 - 2) = W0 - 2 := IntWalk.i64_in _ ⟨by omega, by omega⟩
  have HB2 := Lib.hid (fun wr (x : Ext w5 wr) => HB1.out.ext (Y5.out.trans x))
  clear hE f2 f3 f4 F0 F1 Hn3 Hn4 HP HQ Hq Hp HE
  rcases hp2 with ⟨rfl, y1, y2⟩ | ⟨rfl, y1⟩ | ⟨rfl, y1, y2⟩
  all_goals go_wp2
  all_goals clear f0 f1 y1
  all_goals try clear y2
  all_goals (
    go_loopw [12, 13, 14, 15] (fun fa i _ _ wr => ∃ k : Nat, k ≤ N ∧ i = .int .i64 k ∧ fa = .int .i64 (ff (fA W0 n (rows.take k))) ∧ Hid (Ext w5 wr)) (fun _ i _ _ _ => N - (intOf i).toNat)
    case atStart => exact ⟨0, Nat.zero_le _, rfl, by rw [List.take_zero]; rfl, Lib.hid (Ext.refl _)⟩
    case round =>
      obtain ⟨k, hk, rfl, rfl, HX⟩ := hrel
      have f0 := (HB2.out wr HX.out).c0; have f1 := (HB2.out wr HX.out).c1
      by_cases hlt : k < N
      · obtain ⟨b, o, a, m, d, rfl, u1, u2⟩ := HA.out k hlt
        have HU := Lib.hid u1
        replace u1 := (X5.out.trans HX.out).cell u1
        have t1 : (k : Int) < N := by omega
        obtain ⟨_, _, g1, g2, g3, g4, g5⟩ := u2.open
        simp only [Value.slice.injEq] at g1
        obtain ⟨rfl, rfl, _⟩ := g1
        unfold maxLen at g4
        obtain ⟨l, hl⟩ : ∃ l, l = ow rows k := ⟨_, rfl⟩
        rw [← hl] at g2 g5
        have Hl := Lib.hid hl; have Hm := Lib.hid g2; have HH := Lib.hid g5
        have Hz := Lib.hid (fun x (hx : x ∈ l) => z3.out k hlt x (by rw [← Hl.out]; exact hx))
        obtain ⟨b0, hb0⟩ : ∃ b0, b0 = fA W0 n (rows.take k) := ⟨_, rfl⟩
        rw [← hb0]
        have HNx := Lib.hid (show fA W0 n (rows.take (k + 1)) = (b0 || fR W0 n l) by rw [hb0, Hl.out]; exact fA_succ (by rw [← Hn.out]; exact hlt))
        clear u2 g2 g5 hl hb0
        go_wp2
        clear f0 f1 u1
        go_loopw [12, 14, 15] (fun fa i _ wr => ∃ j : Nat, j ≤ m ∧ i = .int .i64 j ∧ fa = .int .i64 (ff (b0 || fR W0 n (l.take j))) ∧ Hid (Ext w5 wr)) (fun _ i _ _ => m - (intOf i).toNat)
        case atStart => exact ⟨0, Nat.zero_le _, rfl, by rw [List.take_zero]; simp [fR], HX⟩
        case round =>
          obtain ⟨j, hj, rfl, rfl, HX2⟩ := hrel
          have f0 := (HB2.out _ HX2.out).c0; have f1 := (HB2.out _ HX2.out).c1
          have u1 := (X5.out.trans HX2.out).cell HU.out
          obtain ⟨b1, hb1⟩ : ∃ b1, b1 = (b0 || fR W0 n (l.take j)) := ⟨_, rfl⟩
          rw [← hb1]
          by_cases hjm : j < m
          · obtain ⟨b2, o2, rfl, z⟩ := HH.out j hjm
            obtain ⟨v1, v2⟩ := z.ext (X5.out.trans HX2.out)
            have t3 : (j : Int) < m := by omega
            obtain ⟨hz1, hz2⟩ := Hz.out _ (oi_mem (by rw [← Hm.out]; exact hjm))
            have hn2 := fR_succ (W := W0) (n := n) (r := l) (k := j) (by rw [← Hm.out]; exact hjm)
            have htl := (oi l j).two_lst
            have hfar : Ho.far W0 n (oi l j) = (decide (n < -(oi l j).fst) || decide (W0 - 2 - (oi l j).fst < n)) := rfl
            obtain ⟨F, hF⟩ : ∃ F, F = (oi l j).fst := ⟨_, rfl⟩
            rw [← hF] at hz1 hz2 htl hfar
            rw [hfar] at hn2
            have wn : IntKind.i64.wrap (-F) = -F := IntWalk.i64_in _ ⟨by omega, by omega⟩
            have wf : IntKind.i64.wrap F = F := IntWalk.i64_in _ ⟨by omega, by omega⟩
            have wf1 : IntKind.i64.wrap (F + 1 - 1) = F := by rw [show F + 1 - 1 = F by omega]; exact wf
            have wf2 : IntKind.i64.wrap (W0 - 2 - F) = W0 - 2 - F := IntWalk.i64_in _ ⟨by omega, by omega⟩
            have HNb := Lib.hid (show ((n < -F ∨ W0 - 2 - F < n) → ff (b0 || fR W0 n (l.take (j + 1))) = 1) ∧ (¬ (n < -F) → ¬ (W0 - 2 - F < n) → ff (b0 || fR W0 n (l.take (j + 1))) = ff b1) from by
              rw [hn2, hb1]
              refine ⟨fun h => ?_, fun h h' => ?_⟩
              · rcases h with h | h <;> simp [ff, h]
              · simp [ff, h, h'])
            rcases Bool.eq_false_or_eq_true (oi l j).l with e | e
            · rw [e] at v2; rw [(htl.1 e).1] at v1
              clear htl hfar hn2 hF hb1 e hz1 hz2 z
              by_cases d1 : n < -F
              · have HR := Lib.hid (HNb.out.1 (.inl d1))
                go_wp2
                go_roundw
                case rel => exact ⟨j + 1, by omega, by go_num, by rw [HR.out], HX2⟩
                case measure => simp [intOf]; omega
              by_cases d2 : W0 - 2 - F < n
              · have HR := Lib.hid (HNb.out.1 (.inr d2))
                go_wp2
                go_roundw
                case rel => exact ⟨j + 1, by omega, by go_num, by rw [HR.out], HX2⟩
                case measure => simp [intOf]; omega
              have HR := Lib.hid (HNb.out.2 d1 d2)
              go_wp2
              go_roundw
              case rel => exact ⟨j + 1, by omega, by go_num, by rw [HR.out], HX2⟩
              case measure => simp [intOf]; omega
            · rw [e] at v2; rw [(htl.2 e).1] at v1
              clear htl hfar hn2 hF hb1 e hz1 hz2 z
              by_cases d1 : n < -F
              · have HR := Lib.hid (HNb.out.1 (.inl d1))
                go_wp2
                go_roundw
                case rel => exact ⟨j + 1, by omega, by go_num, by rw [HR.out], HX2⟩
                case measure => simp [intOf]; omega
              by_cases d2 : W0 - 2 - F < n
              · have HR := Lib.hid (HNb.out.1 (.inr d2))
                go_wp2
                go_roundw
                case rel => exact ⟨j + 1, by omega, by go_num, by rw [HR.out], HX2⟩
                case measure => simp [intOf]; omega
              have HR := Lib.hid (HNb.out.2 d1 d2)
              go_wp2
              go_roundw
              case rel => exact ⟨j + 1, by omega, by go_num, by rw [HR.out], HX2⟩
              case measure => simp [intOf]; omega
          · obtain rfl : j = m := by omega
            have t3 : ¬ (j : Int) < j := by omega
            have HR := Lib.hid (show b1 = fA W0 n (rows.take (k + 1)) by rw [HNx.out, hb1, Hm.out, List.take_length])
            clear hb1
            go_wp2
            go_roundw
            case rel => exact ⟨k + 1, by omega, by go_num, by rw [HR.out], HX2⟩
            case measure => simp [intOf]; omega
      · obtain rfl : k = N := by omega
        have t1 : ¬ (k : Int) < k := by omega
        have hq := HqF.out
        rw [show rows.take k = rows by rw [Hn.out, List.take_length]]
        obtain ⟨bb, hbb⟩ : ∃ bb, bb = fA W0 n rows := ⟨_, rfl⟩
        rw [← hbb] at hq ⊢
        subst hq
        clear hlt hbb
        have X6 := Lib.hid (X5.out.trans HX.out)
        cases bb
        · simp only [ff, if_false, Bool.false_eq_true]
          go_wp2_with fail
          refine (HLv.out _ X6.out).mono ?_
          rintro e w7 ⟨rfl, x7⟩
          have X7 := Lib.hid (X6.out.trans x7)
          clear x7 f0 f1
          go_wp2
          go_ret
          exact ⟨rfl, X7.out⟩
        · simp only [ff, if_true]
          go_wp2_with fail
          refine (HLv.out _ X6.out).mono ?_
          rintro e w7 ⟨rfl, x7⟩
          have X7 := Lib.hid (X6.out.trans x7)
          clear x7 f0 f1
          go_wp2
          go_ret
          exact ⟨rfl, X7.out⟩
        )
end Go.Proofs.YthllbcjglcplhaaDoor
