/- Texts of this claim in one file: libraries and walks. -/
import Derived.Test.YthllbcjglcplhaaDoorL8
import Derived.Test.YthllbcjglcplhaaDoorL13
import Derived.Test.YthllbcjglcplhaaDoorL16
import Derived.Test.YthllbcjglcplhaaDoorL19
/- LacesShift. -/
namespace Go.Proofs.YthllbcjglcplhaaDoor
set_option linter.unusedVariables false
set_option linter.unusedSimpArgs false
set_option maxRecDepth 8000
open Go Go.RowKit

/-- How many holes there are. -/
def tl (rows : List (List Ho)) : Nat := (rows.map List.length).sum
theorem tl_succ {rows : List (List Ho)} {k : Nat} (h : k < rows.length) : tl (rows.take (k + 1)) = tl (rows.take k) + (ow rows k).length := by
  rw [take_succ_ow h]; unfold tl; simp
theorem tl_zero : ∀ {rows : List (List Ho)}, tl rows = 0 → ∀ r ∈ rows, r = []
  | [], _, r, hr => by simp at hr
  | a :: t, h, r, hr => by
    unfold tl at h
    simp only [List.map_cons, List.sum_cons] at h
    rcases List.mem_cons.1 hr with e | e
    · rw [e]; exact List.length_eq_zero_iff.1 (by omega)
    · exact tl_zero (rows := t) (by unfold tl; omega) r e
theorem tl_nil : ∀ {rows : List (List Ho)}, (∀ r ∈ rows, r = []) → tl rows = 0
  | [], _ => rfl
  | a :: t, h => by
    have h1 := h a (by simp)
    have h2 := tl_nil (rows := t) (fun r hr => h r (by simp [hr]))
    unfold tl at h2 ⊢
    rw [List.map_cons, List.sum_cons, h2, h1]; rfl
theorem tl_pos {rows : List (List Ho)} (h : tl rows ≠ 0) : ∃ i, i < rows.length ∧ ∃ x, x ∈ ow rows i := by
  refine Classical.byContradiction fun hc => h ?_
  have : ∀ r ∈ rows, r = [] := fun r hr => by
    obtain ⟨i, hi, rfl⟩ := List.mem_iff_getElem.1 hr
    rcases hh : rows[i] with _ | ⟨x, t⟩
    · rfl
    · exact absurd ⟨i, hi, x, by rw [ow_of_lt hi, hh]; simp⟩ hc
  exact tl_nil this
theorem lsh_nil {n : Int} {rows : List (List Ho)} (h : tl rows = 0) : lsh n rows = rows := by
  unfold lsh
  have : rows.map (fun r => r.map (Ho.sh n)) = rows.map id := List.map_congr_left (fun r hr => by rw [tl_zero h r hr]; rfl)
  rw [this, List.map_id]
theorem fA_ok {W n : Int} {rows : List (List Ho)} (h : lchk W rows = 0) (hf : fA W n rows = false) (ht : tl rows ≠ 0) : -16 < n ∧ n < 16 := by
  obtain ⟨h1, h2, h3, h4, h5⟩ := lchk_zero h
  obtain ⟨i, hi, x, hx⟩ := tl_pos ht
  unfold fA at hf
  rw [List.any_eq_false] at hf
  have h6 := hf _ (ow_mem hi)
  unfold fR at h6
  rw [Bool.not_eq_true, List.any_eq_false] at h6
  have h7 := h6 x hx
  unfold Ho.far at h7
  simp at h7
  obtain ⟨a, b, c, d⟩ := rowE_all (h5 i hi) x hx
  have : x.lst = x.fst + 1 := rfl
  omega
theorem nCl_in {n : Int} (h : -16 < n ∧ n < 16) : nCl n = n := by unfold nCl; split <;> split <;> omega
/-- What is known of a lace that was moved. -/
theorem sh_ok {W : Nat} {n : Int} {rows : List (List Ho)} (h : lchk W rows = 0) (hq : shE W n rows = 0) : shR W n rows = lsh (nCl n) rows ∧ shW W n rows = W ∧ lchk W (lsh (nCl n) rows) = 0 := by
  refine ⟨by unfold shR; rw [if_pos hq], by unfold shW; rw [if_pos hq], ?_⟩
  unfold shE at hq
  rw [if_neg (by omega)] at hq
  split at hq
  · assumption
  · cases hq
theorem sh_back {W : Nat} {n : Int} {rows : List (List Ho)} (h : lchk W rows = 0) (hl : lchk W (lsh n rows) = 0) (hn : -16 < n ∧ n < 16) : shE W (-n) (lsh n rows) = 0 ∧ shR W (-n) (lsh n rows) = rows ∧ shW W (-n) (lsh n rows) = W := by
  have e : lsh (nCl (-n)) (lsh n rows) = rows := by rw [nCl_in (by omega)]; exact lsh_lsh n rows
  have h1 : shE W (-n) (lsh n rows) = 0 := by
    unfold shE; rw [if_neg (by omega), e, if_pos h]
  obtain ⟨a, b, _⟩ := sh_ok hl h1
  exact ⟨h1, by rw [a, e], b⟩
theorem sh_si {W : Nat} {n y : Int} {rows : List (List Ho)} (h : lchk W rows = 0) (hl : lchk W (lsh n rows) = 0) {i k u : Nat} (hi : i < rows.length) (hk : k < W) (hu : u < W) (e : (k : Int) + n = u) : si (sw (lch W y (lsh n rows)) i) u = si (sw (lch W y rows) i) k := by
  have h5 := (lchk_zero h).2.2.2.2 i hi
  have g5 := (lchk_zero hl).2.2.2.2 i (by rw [lsh_len]; exact hi)
  rw [lch_sw (by rw [lsh_len]; exact hi), lch_sw hi, lrow_si g5 hu, lrow_si h5 hk, lsh_ow hi, ← e, sAt_sh]
set_option maxHeartbeats 16000000 in
theorem LacesShift_walk (wd n : Int) (v : Value) (c : Nat) (chs : List (List Int)) (w : World) (h : ISS .u8 w v c chs) (hw : 0 ≤ wd ∧ wd ≤ 255) (hb : ∀ k, k < chs.length → ∀ i, i < (ri chs k).length → 0 ≤ gi (ri chs k) i ∧ gi (ri chs k) i ≤ 255) (hnn : -9223372036854775808 ≤ n ∧ n ≤ 9223372036854775807) (hy : Sy w) :
    Calls Tryd.prog 5 #[.agg #[.int .u8 wd, v], .int .i64 n] w (RetT w) := by
  have hof := fun w' (x : Ext w w') => AOf_calls wd v c chs w' (h.ext x) hw hb
  have hlv := fun w' (x : Ext w w') => lives20_calls w' (hy.ext x)
  obtain ⟨vs, caps, hV⟩ := h
  obtain ⟨ao, n0, rfl, hn, hc, hcm, hat⟩ := hV.outs2
  obtain ⟨B, hB⟩ : ∃ B, B = w.alloc (.cells #[.int .u8 wd, .slice ao n0 c] 56) := ⟨_, rfl⟩
  have xB : Ext w B := by rw [hB]; exact (Ext.refl w).alloc _
  have hB1 := B2.new w (.int .u8 wd) (.slice ao n0 c) 56
  rw [← hB] at hB1
  have e0 := hB1.c0; have e1 := hB1.c1
  have HOf := Lib.hid (hof B xB); have HLv := Lib.hid hlv; have XB := Lib.hid xB; have HB := Lib.hid hB; have Hnn := Lib.hid hnn
  rw [hB] at e0 e1
  clear hV hn hc hcm hat hB xB hB1 hof hlv hw hb hy hnn
  go_enter Tryd.func5, Tryd.ntmps5
  go_wp2_with fail
  rw [← HB.out]
  refine HOf.out.mono ?_
  rintro e w1 ⟨V, v1, c1, rows, rfl, hr, hk, hr9, x1⟩
  obtain ⟨⟨hV2, hV16⟩, hrl, hbl, hbp⟩ := lace_bd hk
  obtain ⟨a1, N, rfl, hN, o1, o2, o3⟩ := hr.open
  obtain ⟨W1, hW1⟩ : ∃ W1, W1 = w1.alloc (.cells #[.int .i64 (V : Int), .slice a1 N c1] 24) := ⟨_, rfl⟩
  have xW1 : Ext w1 W1 := by rw [hW1]; exact (Ext.refl w1).alloc _
  have hb3 : B2 W1 w1.heap.size (.int .i64 (V : Int)) (.slice a1 N c1) 24 := by rw [hW1]; exact B2.new _ _ _ _
  have HW1 := Lib.hid hW1; have HB3 := Lib.hid hb3; have X1 := Lib.hid (XB.out.trans (x1.trans xW1))
  have HR1 := Lib.hid (fun w' (x : Ext W1 w') => hr.ext (xW1.trans x)); have Hk := Lib.hid hk; have HN := Lib.hid hN
  have HA := Lib.hid (fun i (hi : i < N) => o3 i hi); have XW1 := Lib.hid xW1
  have f0 := hb3.c0; have f1 := hb3.c1
  have HSh := Lib.hid (LShift_calls V n _ _ rows W1 (hr.ext xW1) hbl)
  have Hbl := Lib.hid hbl
  have hN9 : N ≤ 9 := by omega
  have Hro := Lib.hid (fun i (hi : i < N) => show (ow rows i).length ≤ 8 from by
    have := rowE_len ((lchk_zero hk).2.2.2.2 i (by omega)) (by omega); omega)
  rw [hW1] at f0 f1
  clear hr hk x1 xW1 hb3 hW1 hbl hbp hr9 hrl e0 e1 HOf o1 o2 o3 hN
  go_wp2_with fail
  rw [← HW1.out]
  refine HSh.out.mono ?_
  rintro e w2 ⟨v2, rfl, hr2, x2⟩
  obtain ⟨Q, hQ⟩ : ∃ Q, Q = shR V n rows := ⟨_, rfl⟩
  obtain ⟨q, hq⟩ : ∃ q, q = shE V n rows := ⟨_, rfl⟩
  obtain ⟨qW, hqW⟩ : ∃ qW, qW = shW V n rows := ⟨_, rfl⟩
  rw [← hQ] at hr2; rw [← hq, ← hqW]
  obtain ⟨c4, hc4⟩ : ∃ c4, c4 = Q.length := ⟨_, rfl⟩
  rw [← hc4] at hr2
  obtain ⟨a4, n4, rfl, hn4, o1, o2, o3⟩ := hr2.open
  obtain ⟨W2, hW2⟩ : ∃ W2, W2 = w2.alloc (.cells #[.int .i64 qW, .slice a4 n4 c4] 24) := ⟨_, rfl⟩
  have xW2 : Ext w2 W2 := by rw [hW2]; exact (Ext.refl w2).alloc _
  have hb6 : B2 W2 w2.heap.size (.int .i64 qW) (.slice a4 n4 c4) 24 := by rw [hW2]; exact B2.new _ _ _ _
  have HW2 := Lib.hid hW2; have HB6 := Lib.hid hb6; have Y2 := Lib.hid (x2.trans xW2); have X2 := Lib.hid (X1.out.trans (x2.trans xW2)); have HQ := Lib.hid hQ; have Hq := Lib.hid hq; have Hn4 := Lib.hid hn4; have HqW := Lib.hid hqW
  have HR2 := Lib.hid (fun w' (x : Ext W2 w') => hr2.ext (xW2.trans x))
  have f0 := (HB3.out.ext Y2.out).c0; have f1 := (HB3.out.ext Y2.out).c1
  have f2 := hb6.c0; have f3 := hb6.c1
  rw [hW2] at f0 f1 f2 f3
  clear hr2 hc4 x2 xW2 hb6 hW2 HSh hQ hq hqW o1 o2 o3 hn4
  obtain ⟨bb, hbb⟩ : ∃ bb, bb = fA V n rows := ⟨_, rfl⟩
  have hqf : q = ff bb := by rw [Hq.out, hbb]; exact shE_far Hk.out
  have Hbb := Lib.hid hbb
  clear hbb
  cases bb
  case true =>
    simp only [ff, if_true] at hqf
    have h4 : n4 = 0 := by
      rw [Hn4.out, HQ.out]; unfold shR; rw [if_neg (by rw [← Hq.out, hqf]; omega)]; rfl
    subst hqf; subst h4
    go_wp2_with fail
    rw [← HW2.out]
    refine (HLv.out _ X2.out).mono ?_
    rintro e w3 ⟨rfl, x3⟩
    have X3 := Lib.hid (X2.out.trans x3)
    clear x3 f0 f1 f2 f3
    go_wp2
    go_ret
    exact ⟨rfl, X3.out⟩
  simp only [ff, if_false, Bool.false_eq_true] at hqf
  obtain ⟨s1, s2, s3⟩ := sh_ok Hk.out (Hq.out.symm.trans hqf)
  have Hs1 := Lib.hid (HQ.out.trans s1); have Hs3 := Lib.hid s3
  have hqv : qW = (V : Int) := HqW.out.trans s2
  subst hqf; subst hqv
  clear s1 s2 s3
  go_wp2
  rw [← HW2.out]
  clear f0 f1 f2 f3
  have HB3' := Lib.hid (fun wr (x : Ext W2 wr) => HB3.out.ext (Y2.out.trans x)); have HB6' := Lib.hid (fun wr (x : Ext W2 wr) => HB6.out.ext x)
  have HA' := Lib.hid (fun wr (x : Ext W2 wr) => XW1.out.trans (Y2.out.trans x))
  go_loopw [8, 9] (fun va i wr => ∃ k : Nat, k ≤ N ∧ i = .int .i64 k ∧ va = .int .i64 (tl (rows.take k) : Nat) ∧ tl (rows.take k) ≤ 8 * k ∧ Hid (Ext W2 wr)) (fun _ i _ => N - (intOf i).toNat)
  case atStart => exact ⟨0, Nat.zero_le _, rfl, by rw [List.take_zero]; rfl, by rw [List.take_zero]; exact Nat.zero_le _, Lib.hid (Ext.refl _)⟩
  case round =>
    obtain ⟨k, hk, rfl, rfl, htb, HX⟩ := hrel
    have f0 := (HB3'.out wr HX.out).c0; have f1 := (HB3'.out wr HX.out).c1
    by_cases hlt : k < N
    · obtain ⟨b, o, a, m, d, rfl, u1, u2⟩ := HA.out k hlt
      replace u1 := (HA'.out _ HX.out).cell u1
      have t1 : (k : Int) < N := by omega
      obtain ⟨_, _, g1, g2, g3, g4, g5⟩ := u2.open
      simp only [Value.slice.injEq] at g1
      obtain ⟨rfl, rfl, _⟩ := g1
      have hm8 : m ≤ 8 := by rw [g2]; exact Hro.out k hlt
      have hts := tl_succ (rows := rows) (k := k) (by rw [← HN.out]; exact hlt)
      rw [← g2] at hts
      obtain ⟨T, hT⟩ : ∃ T, T = tl (rows.take k) := ⟨_, rfl⟩
      rw [← hT] at hts htb ⊢
      have HTs := Lib.hid hts
      have wt : IntKind.i64.wrap ((T : Int) + (m : Int)) = (T : Int) + m := IntWalk.i64_in _ ⟨by omega, by omega⟩
      clear u2 g2 g3 g4 g5 hts hT
      go_wp2
      go_roundw
      case rel => exact ⟨k + 1, by omega, by go_num, by rw [HTs.out, Int.natCast_add], by rw [HTs.out]; omega, HX⟩
      case measure => simp [intOf]; omega
    · obtain rfl : k = N := by omega
      have t1 : ¬ (k : Int) < k := by omega
      rw [show rows.take k = rows by rw [HN.out, List.take_length]] at htb ⊢
      have f2 := (HB6'.out wr HX.out).c0; have f3 := (HB6'.out wr HX.out).c1
      have X3 := Lib.hid (X2.out.trans HX.out)
      have hdf := fun m (e : m = rows) (hm : HR wr (.slice a4 n4 c4) c4 m) => HDiffer_calls V V _ _ _ _ m rows wr hm (HR1.out wr (Y2.out.trans HX.out))
      have HDf := Lib.hid hdf
      clear hlt hdf
      by_cases h0 : tl rows = 0
      · have HD0 := Lib.hid (HDf.out rows rfl (by have := HR2.out wr HX.out; rw [Hs1.out, lsh_nil h0] at this; exact this))
        rw [h0]
        have t2 : (0 : Int) = 0 := rfl
        clear h0 htb
        go_wp2_with fail
        refine HD0.out.mono ?_
        rw [hdif_same]
        rintro e w3 ⟨rfl, x3⟩
        have X4 := Lib.hid (X3.out.trans x3)
        clear x3 f0 f1 f2 f3
        go_wp2_with fail
        refine (HLv.out _ X4.out).mono ?_
        rintro e w4 ⟨rfl, x4⟩
        have X5 := Lib.hid (X4.out.trans x4)
        clear x4
        go_wp2
        go_ret
        exact ⟨rfl, X5.out⟩
      have hnb := fA_ok Hk.out Hbb.out.symm h0
      have hcl := nCl_in hnb
      have th : ¬ (tl rows : Int) = 0 := by omega
      have hs3 := Hs3.out
      have hs1 := Hs1.out
      rw [hcl] at hs3 hs1
      obtain ⟨r1, r2, r3⟩ := sh_back Hk.out hs3 hnb
      have HR2s := Lib.hid (fun w' (x : Ext wr w') => show HR w' (.slice a4 n4 c4) c4 (lsh n rows) from by
        have := HR2.out w' (HX.out.trans x); rw [Hs1.out, hcl] at this; exact this)
      have hbls := fun i (hi : i < (lsh n rows).length) => show (ow (lsh n rows) i).length ≤ 1000 from by
        rw [lsh_len] at hi; rw [lsh_ow hi, List.length_map]; exact Hbl.out i hi
      have hsb := LShift_calls V (-n) _ _ (lsh n rows) wr (HR2s.out wr (Ext.refl _)) hbls
      rw [r1, r2, r3] at hsb
      have wneg : IntKind.i64.wrap (-n) = -n := IntWalk.i64_in _ ⟨by omega, by omega⟩
      obtain ⟨hnb1, hnb2⟩ := hnb
      have HSb := Lib.hid hsb
      have HL3 := Lib.hid hs3
      have hct1 := fun w' (x : Ext wr w') => LChart_calls V 1 _ _ rows w' (HR1.out w' (Y2.out.trans (HX.out.trans x))) (by omega)
      obtain ⟨p1, p2⟩ := lcE_ok Hk.out (y := 1) (by omega)
      rw [p1, p2] at hct1
      have hct2 := fun w' (x : Ext wr w') => LChart_calls V 1 _ _ (lsh n rows) w' (HR2s.out w' x) (by omega)
      obtain ⟨p3, p4⟩ := lcE_ok hs3 (y := 1) (by omega)
      rw [p3, p4] at hct2
      have hdb := fun w' (x : Ext wr w') u d (hu : HR w' u d rows) => HDiffer_calls V V u _ d _ rows rows w' hu (HR1.out w' (Y2.out.trans (HX.out.trans x)))
      rw [hdif_same] at hdb
      have HC1 := Lib.hid hct1; have HC2 := Lib.hid hct2; have HDb := Lib.hid hdb
      have HF := Lib.hid (fun w' (x : Ext wr w') => HB3'.out w' (HX.out.trans x)); have HG := Lib.hid (fun w' (x : Ext wr w') => HB6'.out w' (HX.out.trans x))
      clear h0 htb hcl hs3 hs1 r1 r2 r3 hbls hsb hct1 hct2 p1 p2 p3 p4 hdb HDf
      go_wp2_with fail
      refine HSb.out.mono ?_
      rintro e w3 ⟨v3, rfl, hr3, x3⟩
      obtain ⟨c3, hc3⟩ : ∃ c3, c3 = rows.length := ⟨_, rfl⟩
      rw [← hc3] at hr3
      obtain ⟨a3, n3, rfl, o1, o2, o3, o4⟩ := hr3.open
      obtain ⟨W3, hW3⟩ : ∃ W3, W3 = w3.alloc (.cells #[.int .i64 (V : Int), .slice a3 n3 c3] 24) := ⟨_, rfl⟩
      have xW3 : Ext w3 W3 := by rw [hW3]; exact (Ext.refl w3).alloc _
      have hb7 : B2 W3 w3.heap.size (.int .i64 (V : Int)) (.slice a3 n3 c3) 24 := by rw [hW3]; exact B2.new _ _ _ _
      have HW3 := Lib.hid hW3; have HB7 := Lib.hid (fun w' (x : Ext W3 w') => hb7.ext x); have Y3 := Lib.hid (x3.trans xW3); have HR3 := Lib.hid (fun w' (x : Ext W3 w') => hr3.ext (xW3.trans x))
      have f0 := (HF.out _ Y3.out).c0; have f1 := (HF.out _ Y3.out).c1
      rw [hW3] at f0 f1
      clear hr3 hc3 x3 xW3 hb7 hW3 HSb o1 o2 o3 o4 f2 f3
      go_wp2_with fail
      rw [← HW3.out]
      refine (HC1.out _ Y3.out).mono ?_
      rintro e w4 ⟨v4, rfl, hr4, x4⟩
      obtain ⟨c5, hc5⟩ : ∃ c5, c5 = (lch V 1 rows).length := ⟨_, rfl⟩
      rw [← hc5] at hr4
      obtain ⟨a5, n5, rfl, hn5, o2, o3, o4⟩ := hr4.open
      obtain ⟨W4, hW4⟩ : ∃ W4, W4 = w4.alloc (.cells #[.slice a5 n5 c5] 28) := ⟨_, rfl⟩
      have xW4 : Ext w4 W4 := by rw [hW4]; exact (Ext.refl w4).alloc _
      have hb8 : W4.cell? ⟨w4.heap.size, 0, none⟩ = some (.slice a5 n5 c5) := by rw [hW4, World.cell?_alloc_at (hn := rfl)]; rfl
      have HW4 := Lib.hid hW4; have HB8 := Lib.hid (fun w' (x : Ext W4 w') => x.cell hb8); have Y4 := Lib.hid (Y3.out.trans (x4.trans xW4)); have Z4 := Lib.hid (x4.trans xW4)
      have XW4 := Lib.hid xW4; have HA5 := Lib.hid o4; have Hn5 := Lib.hid hn5
      have f2 := (HG.out _ Y4.out).c0; have f3 := (HG.out _ Y4.out).c1
      rw [hW4] at f2 f3
      clear hr4 hc5 x4 xW4 hb8 hW4 HC1 o2 o3 o4 f0 f1 hn5
      go_wp2_with fail
      rw [← HW4.out]
      refine (HC2.out _ Y4.out).mono ?_
      rintro e w5 ⟨v5, rfl, hr5, x5⟩
      obtain ⟨c6, hc6⟩ : ∃ c6, c6 = (lch V 1 (lsh n rows)).length := ⟨_, rfl⟩
      rw [← hc6] at hr5
      obtain ⟨a6, n6, rfl, hn6, o2, o3, o4⟩ := hr5.open
      obtain ⟨W5, hW5⟩ : ∃ W5, W5 = w5.alloc (.cells #[.slice a6 n6 c6] 28) := ⟨_, rfl⟩
      have xW5 : Ext w5 W5 := by rw [hW5]; exact (Ext.refl w5).alloc _
      have hb9 : W5.cell? ⟨w5.heap.size, 0, none⟩ = some (.slice a6 n6 c6) := by rw [hW5, World.cell?_alloc_at (hn := rfl)]; rfl
      have HW5 := Lib.hid hW5; have HB9 := Lib.hid (fun w' (x : Ext W5 w') => x.cell hb9); have Y5 := Lib.hid (Y4.out.trans (x5.trans xW5)); have Z5 := Lib.hid (x5.trans xW5)
      have XW5 := Lib.hid xW5; have HA6 := Lib.hid o4; have Hn6 := Lib.hid hn6
      have f0 := (HF.out _ Y5.out).c0; have f1 := (HF.out _ Y5.out).c1
      have f2 := (HB7.out _ (Z4.out.trans Z5.out)).c0; have f3 := (HB7.out _ (Z4.out.trans Z5.out)).c1
      have HDc := Lib.hid (HDb.out _ Y5.out _ _ (HR3.out _ (Z4.out.trans Z5.out)))
      rw [hW5] at f0 f1 f2 f3
      clear hr5 hc6 x5 xW5 hb9 hW5 HC2 o2 o3 o4 hn6 HDb
      go_wp2_with fail
      rw [← HW5.out]
      refine HDc.out.mono ?_
      rintro e w6 ⟨rfl, x6⟩
      have X6 := Lib.hid (X3.out.trans (Y5.out.trans x6)); have Y6 := Lib.hid (Y5.out.trans x6)
      have HQ4 := Lib.hid (fun w' (x : Ext w6 w') => HB8.out w' (Z5.out.trans (x6.trans x))); have HQ5 := Lib.hid (fun w' (x : Ext w6 w') => HB9.out w' (x6.trans x))
      have XA5 := Lib.hid (fun w' (x : Ext w6 w') => XW4.out.trans (Z5.out.trans (x6.trans x))); have XA6 := Lib.hid (fun w' (x : Ext w6 w') => XW5.out.trans (x6.trans x))
      obtain ⟨rfl, rfl⟩ : k = n5 ∧ k = n6 := ⟨by rw [Hn5.out, lch_len, HN.out], by rw [Hn6.out, lch_len, lsh_len, HN.out]⟩
      clear x6 f0 f1 f2 f3 HDc Hn5 Hn6
      go_wp2
      have t0V : (0 : Int) ≤ V := by omega
      go_loopw [16, 17] (fun i _ wq => ∃ r : Nat, r ≤ k ∧ i = .int .i64 r ∧ Hid (Ext w6 wq)) (fun i _ _ => k - (intOf i).toNat)
      case atStart => exact ⟨0, Nat.zero_le _, rfl, Lib.hid (Ext.refl _)⟩
      case round =>
        obtain ⟨r, hrk, rfl, HX2⟩ := hrel
        have q4 := HQ4.out _ HX2.out
        have f0 := (HF.out _ (Y6.out.trans HX2.out)).c0
        by_cases hlr : r < k
        · have t3 : (r : Int) < k := by omega
          have t3' : (0 : Int) ≤ r := by omega
          obtain ⟨b, o, a, m, d, rfl, g1, g2⟩ := HA5.out r hlr
          obtain ⟨b', o', a', m', d', rfl, g1', g2'⟩ := HA6.out r hlr
          obtain ⟨_, _, e1, e2, e3, e4, e5⟩ := g2.open
          simp only [Value.slice.injEq] at e1; obtain ⟨rfl, rfl, _⟩ := e1
          obtain ⟨_, _, e1, e2', e3', e4', e5'⟩ := g2'.open
          simp only [Value.slice.injEq] at e1; obtain ⟨rfl, rfl, _⟩ := e1
          have hrr : r < rows.length := by rw [← HN.out]; exact hlr
          obtain rfl : V = m := by rw [e2, lch_sw hrr, lrow_len]
          obtain rfl : V = m' := by rw [e2', lch_sw (by rw [lsh_len]; exact hrr), lrow_len]
          have HG1 := Lib.hid g1; have HG2 := Lib.hid g1'; have HE5 := Lib.hid e5; have HE6 := Lib.hid e5'; have Hrr := Lib.hid hrr
          clear g1 g1' g2 g2' e2 e2' e3 e3' e4 e4' e5 e5' hrr
          go_wp2
          clear q4 f0
          go_loopw [17] (fun j wq => ∃ t : Nat, t ≤ V ∧ j = .int .i64 t ∧ Hid (Ext w6 wq)) (fun j _ => V - (intOf j).toNat)
          case atStart => exact ⟨0, Nat.zero_le _, rfl, HX2⟩
          case round =>
            obtain ⟨t, ht, rfl, HX3⟩ := hrel
            have f0 := (HF.out _ (Y6.out.trans HX3.out)).c0
            by_cases htV : t < V
            · have t5 : (t : Int) < V := by omega
              have t5' : (0 : Int) ≤ t := by omega
              have q4 := HQ4.out _ HX3.out; have q5 := HQ5.out _ HX3.out
              have g1 := (XA5.out _ HX3.out).cell HG1.out; have g2 := (XA6.out _ HX3.out).cell HG2.out
              by_cases d1 : 0 ≤ (t : Int) + n
              · obtain ⟨u, hu⟩ : ∃ u : Nat, (t : Int) + n = u := ⟨((t : Int) + n).toNat, by omega⟩
                have wu : IntKind.i64.wrap ((t : Int) + n) = (u : Int) := by rw [hu]; exact IntWalk.i64_in _ ⟨by omega, by omega⟩
                have t6 : (0 : Int) ≤ u := by omega
                by_cases d2 : u < V
                · have t7 : (u : Int) < V := by omega
                  have hse := sh_si (y := 1) Hk.out HL3.out Hrr.out htV d2 hu
                  obtain ⟨b7, o7, rfl, e8⟩ := HE5.out t htV
                  obtain ⟨b8, o8, rfl, e9⟩ := HE6.out u d2
                  rw [hse] at e9
                  obtain ⟨S, hS⟩ : ∃ S, S = si (sw (lch V 1 rows) r) t := ⟨_, rfl⟩
                  rw [← hS] at e8 e9
                  obtain ⟨s0, s1, s2, s3, s4⟩ := e8.ext (XA5.out _ HX3.out)
                  obtain ⟨u0, u1, u2, u3, u4⟩ := e9.ext (XA6.out _ HX3.out)
                  have hq := fun w => run_st_neq S S w
                  rw [show St.eqb S S = true from decide_eq_true rfl] at hq
                  clear hse hS e8 e9 hu d1
                  go_wp2
                  go_quiet (fail)
                  clear hq s0 s1 s2 s3 s4 u0 u1 u2 u3 u4 q4 q5 g1 g2 f0
                  go_wp2
                  go_roundw
                  case rel => exact ⟨t + 1, by omega, by go_num, by first | exact HX3 | exact Lib.hid (HX3.out.drewN _)⟩
                  case measure => simp [intOf]; omega
                · have t7 : ¬ (u : Int) < V := by omega
                  clear hu d1
                  go_wp2
                  go_quiet (fail)
                  clear q4 q5 g1 g2 f0
                  go_wp2
                  go_roundw
                  case rel => exact ⟨t + 1, by omega, by go_num, by first | exact HX3 | exact Lib.hid (HX3.out.drewN _)⟩
                  case measure => simp [intOf]; omega
              · obtain ⟨u, hu⟩ : ∃ u : Int, (t : Int) + n = u := ⟨_, rfl⟩
                have wu : IntKind.i64.wrap ((t : Int) + n) = u := by rw [hu]; exact IntWalk.i64_in _ ⟨by omega, by omega⟩
                have t6 : ¬ (0 : Int) ≤ u := by omega
                have t6a : u < 0 := by omega
                have t6b : (decide ((0 : Int) ≤ u)) = false := decide_eq_false t6
                clear hu d1
                go_wp2
                go_quiet (fail)
                clear q4 q5 g1 g2 f0
                go_wp2
                go_roundw
                case rel => exact ⟨t + 1, by omega, by go_num, by first | exact HX3 | exact Lib.hid (HX3.out.drewN _)⟩
                case measure => simp [intOf]; omega
            · obtain rfl : t = V := by omega
              have t5 : ¬ (t : Int) < t := by omega
              go_wp2
              go_roundw
              case rel => exact ⟨r + 1, by omega, by go_num, HX3⟩
              case measure => simp [intOf]; omega
        · obtain rfl : r = k := by omega
          have t3 : ¬ (r : Int) < r := by omega
          have X7 := Lib.hid (X6.out.trans HX2.out)
          go_wp2_with fail
          refine (HLv.out _ X7.out).mono ?_
          rintro e w7 ⟨rfl, x7⟩
          have X8 := Lib.hid (X7.out.trans x7)
          clear x7 q4 f0
          go_wp2
          go_ret
          exact ⟨rfl, X8.out⟩
end Go.Proofs.YthllbcjglcplhaaDoor
/- LacesChart. -/
namespace Go.Proofs.YthllbcjglcplhaaDoor
set_option linter.unusedVariables false
set_option linter.unusedSimpArgs false
set_option maxRecDepth 8000
open Go Go.RowKit

/-- A lace's chart gives the lace back. -/
theorem of_lch {W : Nat} {y : Int} {rows : List (List Ho)} (h : lchk W rows = 0) (hy : 1 ≤ y ∧ y ≤ 6) {w0 : World} {e : Ending} {w' : World} (hr : RetOf w0 (lch W y rows) e w') :
    ∃ v c, e = .returned (.tuple #[.agg #[.int .i64 (W : Int), v], .int .u8 y, .int .i64 0]) ∧ HR w' v c rows ∧ Ext w0 w' := by
  have hI : IsL (lch W y rows) W y rows := ⟨h, rfl⟩
  have h0 := lch_ok hy h
  obtain ⟨x, ⟨h1, _⟩ | ⟨_, h2, _⟩ | ⟨_, W', y', hs, v, c, h3, h4, h5, h6, h7⟩⟩ := hr
  · exact absurd h0 h1
  · exact absurd ⟨W, y, rows, hI, hy⟩ h2
  · have e1 := hI.need hy
    have e2 := h3.need h4
    obtain rfl : W = W' := by omega
    have e3 := isL_y hI
    obtain rfl : y = y' := by rw [e3, h5]
    obtain ⟨a, b⟩ := h3.rd
    obtain rfl : rows = hs := hI.uniq (W' := 0) (y' := 0) (by omega) (fun i hi => (b i hi).1)
    exact ⟨v, c, h6, h7, x⟩
/-- A row of signs as a string. -/
theorem sgn_byt {W : Nat} {r : List Ho} : Byt (sgn W r) := fun x hx => by
  rcases sg_sgn_mem x hx with e | e | e <;> omega
theorem sg_str {W : Nat} {y : Int} {r : List Ho} (h : rowE W r 0 = true) (s : ByteArray) (hs : s = bstr (sgn W r)) : s.size = W ∧ ∀ k (hk : k < s.size), (((s[k]'hk).toNat : Int) = 46 ∧ si (lrow W y r) k = ⟨1, y, 0, 0, false⟩) ∨ (((s[k]'hk).toNat : Int) = 79 ∧ si (lrow W y r) k = ⟨3, y, 0, 0, false⟩) ∨ (((s[k]'hk).toNat : Int) = 47 ∧ si (lrow W y r) k = ⟨4, y, 0, 0, false⟩) := by
  have hb : bts s = sgn W r := by rw [hs]; exact bts_bstr sgn_byt
  have hl : s.size = W := by rw [← bts_len, hb, sgn_len]
  refine ⟨hl, fun k hk => ?_⟩
  have h1 := bts_at hk
  rw [hb] at h1
  have hm := sg_sgn_mem (W := W) (r := r) (gi (sgn W r) k) (by rw [gi_of_lt (by rw [sgn_len]; omega)]; exact List.getElem_mem _)
  have h2 : si (lrow W y r) k = sgSt y (gi (sgn W r) k) := by
    rw [lrow_si h (by omega), sgn_at h (by omega)]
  rw [← h1, h2]
  rcases hm with e | e | e
  · exact .inl ⟨e, by rw [e]; rfl⟩
  · exact .inr (.inl ⟨e, by rw [e]; rfl⟩)
  · exact .inr (.inr ⟨e, by rw [e]; rfl⟩)
/-- The pairs of a row of a lace's chart. -/
theorem pr_lrow {W : Nat} {y : Int} {r : List Ho} (h : rowE W r 0 = true) {w0 : World} {e : Ending} {w' : World} (hr : RetPr w0 (lrow W y r) e w') :
    ∃ g, e = .returned (.tuple #[.slice (some ⟨g, 0, Option.none⟩) r.length r.length, .int .i64 0]) ∧ Ext w0 w' ∧ ∀ i, i < r.length → w'.cell? ⟨g, i * 2, Option.none⟩ = some (.int .i64 (oi r i).p) ∧ w'.cell? ⟨g, i * 2 + 1, Option.none⟩ = some (.int .i64 (oi r i).two) := by
  obtain ⟨h1, h2⟩ := ixs_lrow (W := W) (y := y) h
  obtain ⟨x, ⟨h3, v, h4, g, h5, h6⟩ | ⟨h3, _⟩⟩ := hr
  · rw [h1, List.length_map] at h5 h6
    rw [h2] at h6
    refine ⟨g, by rw [h4, h5], x, fun i hi => ?_⟩
    have := h6 i hi
    simp only at this
    rw [gi_of_lt (by simpa using hi), gi_of_lt (by simpa using hi), List.getElem_map, List.getElem_map, ← oi_of_lt hi] at this
    exact this
  · unfold prE at h3
    rw [h1, h2, List.length_map, List.length_map, if_pos rfl] at h3
    cases h3
theorem keeps_lrow {W : Nat} {y : Int} {r : List Ho} (hy : 1 ≤ y ∧ y ≤ 6) (h : rowE W r 0 = true) : decide (rmake (lrow W y r) = rneed (lrow W y r)) = true := by
  refine decide_eq_true ?_
  rw [lrow_need hy h, lc_make (lrow_lc hy), lrow_len]
set_option maxHeartbeats 16000000 in
theorem LacesChart_walk (wd yn : Int) (v : Value) (c : Nat) (chs : List (List Int)) (w : World) (h : ISS .u8 w v c chs) (hw : 0 ≤ wd ∧ wd ≤ 255) (hb : ∀ k, k < chs.length → ∀ i, i < (ri chs k).length → 0 ≤ gi (ri chs k) i ∧ gi (ri chs k) i ≤ 255) (hyn : 0 ≤ yn ∧ yn ≤ 255) (hy : Sy w) :
    Calls Tryd.prog 6 #[.agg #[.int .u8 wd, v], .int .u8 yn] w (RetT w) := by
  have hof := fun w' (x : Ext w w') => AOf_calls wd v c chs w' (h.ext x) hw hb
  have hlv := fun w' (x : Ext w w') => lives20_calls w' (hy.ext x)
  obtain ⟨vs, caps, hV⟩ := h
  obtain ⟨ao, n0, rfl, hn, hc, hcm, hat⟩ := hV.outs2
  obtain ⟨B, hB⟩ : ∃ B, B = w.alloc (.cells #[.int .u8 wd, .slice ao n0 c] 56) := ⟨_, rfl⟩
  have xB : Ext w B := by rw [hB]; exact (Ext.refl w).alloc _
  have hB1 := B2.new w (.int .u8 wd) (.slice ao n0 c) 56
  rw [← hB] at hB1
  have e0 := hB1.c0; have e1 := hB1.c1
  obtain ⟨Y, hY⟩ : ∃ Y, Y = 1 + yn % 6 := ⟨_, rfl⟩
  have HYb := Lib.hid (show 1 ≤ Y ∧ Y ≤ 6 by omega)
  have wy1 : IntKind.u8.wrap (yn % 6) = yn % 6 := IntWalk.u8_in _ ⟨by omega, by omega⟩
  have wy2 : IntKind.u8.wrap (1 + yn % 6) = Y := by rw [← hY]; exact IntWalk.u8_in _ ⟨by omega, by omega⟩
  have HOf := Lib.hid (hof B xB); have HLv := Lib.hid hlv; have XB := Lib.hid xB; have HB := Lib.hid hB
  rw [hB] at e0 e1
  clear hV hn hc hcm hat hB xB hB1 hof hlv hw hb hy hY
  go_enter Tryd.func6, Tryd.ntmps6
  go_wp2_with fail
  rw [← HB.out]
  refine HOf.out.mono ?_
  rintro e w1 ⟨V, v1, c1, rows, rfl, hr, hk, hr9, x1⟩
  obtain ⟨⟨hV2, hV16⟩, hrl, hbl, hbp⟩ := lace_bd hk
  obtain ⟨a1, N, rfl, hN, o1, o2, o3⟩ := hr.open
  obtain ⟨W1, hW1⟩ : ∃ W1, W1 = w1.alloc (.cells #[.int .i64 (V : Int), .slice a1 N c1] 24) := ⟨_, rfl⟩
  have xW1 : Ext w1 W1 := by rw [hW1]; exact (Ext.refl w1).alloc _
  have hb3 : B2 W1 w1.heap.size (.int .i64 (V : Int)) (.slice a1 N c1) 24 := by rw [hW1]; exact B2.new _ _ _ _
  have HW1 := Lib.hid hW1; have HB3 := Lib.hid hb3; have X1 := Lib.hid (XB.out.trans (x1.trans xW1))
  have HR1 := Lib.hid (fun w' (x : Ext W1 w') => hr.ext (xW1.trans x)); have Hk := Lib.hid hk; have HN := Lib.hid hN
  have HA := Lib.hid (fun i (hi : i < N) => o3 i hi); have XW1 := Lib.hid xW1
  have f0 := hb3.c0; have f1 := hb3.c1
  obtain ⟨p1, p2⟩ := lcE_ok hk (y := Y) HYb.out
  have hct := LChart_calls V Y _ _ rows W1 (hr.ext xW1) (by have := HYb.out; omega)
  rw [p1, p2] at hct
  have HCt := Lib.hid hct
  have hN9 : N ≤ 9 := by omega
  have Hro := Lib.hid (fun i (hi : i < N) => show rowE V (ow rows i) 0 = true ∧ (ow rows i).length ≤ 8 from by
    have h5 := (lchk_zero hk).2.2.2.2 i (by omega)
    exact ⟨h5, by have := rowE_len h5 (by omega); omega⟩)
  rw [hW1] at f0 f1
  clear hr hk x1 xW1 hb3 hW1 hbl hbp hr9 hrl e0 e1 HOf o1 o2 o3 hN p1 p2 hct
  go_wp2_with fail
  rw [← HW1.out]
  refine HCt.out.mono ?_
  rintro e w2 ⟨v2, rfl, hr2, x2⟩
  obtain ⟨c5, hc5⟩ : ∃ c5, c5 = (lch V Y rows).length := ⟨_, rfl⟩
  have hcN : c5 = N := by rw [hc5, lch_len, HN.out]
  rw [← hc5, hcN] at hr2
  obtain ⟨a5, n5, rfl, hn5, o2, o3, o4⟩ := hr2.open
  obtain rfl : N = n5 := by rw [hn5, ← hc5, hcN]
  obtain ⟨W2, hW2⟩ : ∃ W2, W2 = w2.alloc (.cells #[.slice a5 N N] 28) := ⟨_, rfl⟩
  have xW2 : Ext w2 W2 := by rw [hW2]; exact (Ext.refl w2).alloc _
  have hb8 : W2.cell? ⟨w2.heap.size, 0, none⟩ = some (.slice a5 N N) := by rw [hW2, World.cell?_alloc_at (hn := rfl)]; rfl
  have HW2 := Lib.hid hW2; have Y2 := Lib.hid (x2.trans xW2); have X2 := Lib.hid (X1.out.trans (x2.trans xW2))
  have XW2 := Lib.hid xW2; have HA5 := Lib.hid o4
  have hck := CCheck_calls _ _ (lch V Y rows) W2 (hr2.ext xW2)
  rw [lch_ok HYb.out Hk.out] at hck
  have HCk := Lib.hid hck
  have HOf2 := Lib.hid (fun w' (x : Ext W2 w') => LOf_calls _ _ (lch V Y rows) w' (hr2.ext (xW2.trans x)) (fun i hi j hj => by
    rw [lch_len] at hi
    have hI : IsL (lch V Y rows) V Y rows := ⟨Hk.out, rfl⟩
    have h3 := ((hI.rd.2 i (by rw [lch_len]; exact hi)).2.2.2 _ (si_mem hj)).1
    have := HYb.out; rw [h3]; omega))
  have f0 := (HB3.out.ext Y2.out).c0; have f1 := (HB3.out.ext Y2.out).c1
  have f2 := hb8
  have HF := Lib.hid (fun w' (x : Ext W2 w') => HB3.out.ext (Y2.out.trans x)); have HG := Lib.hid (fun w' (x : Ext W2 w') => x.cell hb8)
  have XA1 := Lib.hid (fun w' (x : Ext W2 w') => XW1.out.trans (Y2.out.trans x)); have XA5 := Lib.hid (fun w' (x : Ext W2 w') => XW2.out.trans x)
  rw [hW2] at f0 f1 f2
  clear hr2 hc5 hcN x2 xW2 hb8 hW2 HCt o2 o3 o4 hn5 hck
  go_wp2_with fail
  rw [← HW2.out]
  refine HCk.out.mono ?_
  rintro e w3 ⟨rfl, x3⟩
  have X3 := Lib.hid (X2.out.trans x3); have Y3 := Lib.hid x3
  clear x3 f0 f1 f2 HCk
  go_wp2
  go_loopw [9, 10, 11, 12, 13, 14, 15, 16, 17, 18] (fun i _ _ _ _ _ _ _ _ _ wr => ∃ k : Nat, k ≤ N ∧ i = .int .i64 k ∧ Hid (Ext W2 wr)) (fun i _ _ _ _ _ _ _ _ _ _ => N - (intOf i).toNat)
  case atStart => exact ⟨0, Nat.zero_le _, rfl, Y3⟩
  case round =>
    obtain ⟨k, hk, rfl, HX⟩ := hrel
    have q0_3 := HG.out _ HX.out
    by_cases hlt : k < N
    · have t1 : (k : Int) < N := by omega
      have t1' : (0 : Int) ≤ k := by omega
      obtain ⟨b, o, a, m, d, rfl, g1, g2⟩ := HA.out k hlt
      obtain ⟨b', o', a', m', d', rfl, g1', g2'⟩ := HA5.out k hlt
      obtain ⟨_, _, e1, e2, e3, e4, e5⟩ := g2.open
      simp only [Value.slice.injEq] at e1; obtain ⟨rfl, rfl, _⟩ := e1
      obtain ⟨_, _, e1, e2', e3', e4', e5'⟩ := g2'.open
      simp only [Value.slice.injEq] at e1; obtain ⟨rfl, rfl, _⟩ := e1
      have hrr : k < rows.length := by rw [← HN.out]; exact hlt
      obtain ⟨hre, hr8⟩ := Hro.out k hlt
      rw [lch_sw hrr] at g2' e2' e5'
      obtain rfl : V = m' := by rw [e2', lrow_len]
      obtain ⟨R, hR⟩ : ∃ R, R = ow rows k := ⟨_, rfl⟩
      rw [← hR] at g2 g2' e2 e5 e5' hre hr8
      obtain ⟨S, hS⟩ : ∃ S, S = bstr (sgn V R) := ⟨_, rfl⟩
      obtain ⟨hsz, hsat⟩ := sg_str (y := Y) hre S hS
      have hrow := fun w' (x : Ext W2 w') => RRow20_calls _ _ V R w' (g2.ext (XA1.out _ x)) (by omega)
      rw [show rowT1 V R = sgn V R by unfold rowT1; rw [if_pos hre], show rowN V R = 1 by unfold rowN; rw [if_pos hre], ← hS] at hrow
      have hkp := fun w' (x : Ext W2 w') => Keeps_calls _ _ (lrow V Y R) w' (g2'.ext (XA5.out _ x)) (by rw [lrow_len]; omega)
      rw [keeps_lrow HYb.out hre] at hkp
      have hpr := fun w' (x : Ext W2 w') => Pairs_calls _ _ (lrow V Y R) w' (g2'.ext (XA5.out _ x)) (by rw [lrow_len]; omega)
      have HG1 := Lib.hid g1; have HG2 := Lib.hid g1'; have HE5 := Lib.hid e5; have HE6 := Lib.hid e5'; have Hre := Lib.hid hre; have Hm := Lib.hid e2; have Hsat := Lib.hid hsat
      have HRow := Lib.hid hrow; have HKp := Lib.hid hkp; have HPr := Lib.hid hpr; have Hsz := Lib.hid hsz
      have hm8 : m ≤ 8 := by rw [e2]; exact hr8
      have q0_1 := (HF.out _ HX.out).c0; have q0_2 := (HF.out _ HX.out).c1
      have q0_4 := (XA1.out _ HX.out).cell g1
      have q0_5 := (XA5.out _ HX.out).cell g1'
      clear g1 g1' g2 g2' e2 e2' e3 e3' e4 e4' e5 e5' hrr hR hS hre hr8 hrow hkp hpr hsat hsz
      go_wp2
      go_region_held3 (fun w' => w'.cell? ⟨w1.heap.size, 0, Option.none⟩ = some (.int .i64 (V : Int)) ∧ w'.cell? ⟨w1.heap.size, 1, Option.none⟩ = some (.slice (some ⟨b, o, Option.none⟩) N c1) ∧ w'.cell? ⟨w2.heap.size, 0, Option.none⟩ = some (.slice (some ⟨b', o', Option.none⟩) N N) ∧ w'.cell? ⟨b, o + k, Option.none⟩ = some (.slice a m d) ∧ w'.cell? ⟨b', o' + k, Option.none⟩ = some (.slice a' V d')) (first | (with_reducible exact ⟨q0_1, q0_2, q0_3, q0_4, q0_5⟩) | (with_reducible exact ⟨q1_1, q1_2, q1_3, q1_4, q1_5⟩) | go_keep) (first
        | (go_at_call 24; (refine (HRow.out _ (HX.out.trans ?_)).mono ?_); (focus (repeat (first | (with_reducible exact Ext.refl _) | (with_reducible apply Ext.drew) | (with_reducible apply Ext.drewN) | (with_reducible apply Ext.alloc)))); intro e wa hh; obtain ⟨rfl, x⟩ := hh; have Xa : Hid (Ext wr wa) := Lib.hid (Ext.trans (by ((repeat (first | (with_reducible exact Ext.refl _) | (with_reducible apply Ext.drew) | (with_reducible apply Ext.drewN) | (with_reducible apply Ext.alloc))); done)) x); have q1_1 := Xa.out.cell q0_1; have q1_2 := Xa.out.cell q0_2; have q1_3 := Xa.out.cell q0_3; have q1_4 := Xa.out.cell q0_4; have q1_5 := Xa.out.cell q0_5; clear x))
      have XA := Lib.hid (HX.out.trans Xa.out)
      clear q0_1 q0_2 q0_3 q0_4 q0_5 q1_1 q1_2 q1_3 q1_4 q1_5
      have q0_1 := (HF.out _ XA.out).c0
      have q0_2 := HG.out _ XA.out
      have q0_3 := (XA5.out _ XA.out).cell HG2.out
      have tVV : ((V : Int) != (V : Int)) = false := by simp
      go_wp2
      go_region_held3 (fun w' => w'.cell? ⟨w1.heap.size, 0, Option.none⟩ = some (.int .i64 (V : Int)) ∧ w'.cell? ⟨w2.heap.size, 0, Option.none⟩ = some (.slice (some ⟨b', o', Option.none⟩) N N) ∧ w'.cell? ⟨b', o' + k, Option.none⟩ = some (.slice a' V d')) (first | (with_reducible exact ⟨q0_1, q0_2, q0_3⟩) | (with_reducible exact ⟨q1_1, q1_2, q1_3⟩) | go_keep) (first
        | (go_at_call 25; (refine (HKp.out _ (XA.out.trans ?_)).mono ?_); (focus (repeat (first | (with_reducible exact Ext.refl _) | (with_reducible apply Ext.drew) | (with_reducible apply Ext.drewN) | (with_reducible apply Ext.alloc)))); intro e wb hh; obtain ⟨rfl, x⟩ := hh; have Xb : Hid (Ext wa wb) := Lib.hid (Ext.trans (by ((repeat (first | (with_reducible exact Ext.refl _) | (with_reducible apply Ext.drew) | (with_reducible apply Ext.drewN) | (with_reducible apply Ext.alloc))); done)) x); have q1_1 := Xb.out.cell q0_1; have q1_2 := Xb.out.cell q0_2; have q1_3 := Xb.out.cell q0_3; clear x))
      have XC := Lib.hid (XA.out.trans Xb.out)
      clear q0_1 q0_2 q0_3 q1_1 q1_2 q1_3 tVV
      go_wp2
      have t0V : (0 : Int) ≤ V := by omega
      go_loopw [12, 13] (fun i _ wq => ∃ j : Nat, j ≤ V ∧ i = .int .i64 j ∧ Hid (Ext W2 wq)) (fun i _ _ => V - (intOf i).toNat)
      case atStart => exact ⟨0, Nat.zero_le _, rfl, XC⟩
      case round =>
        obtain ⟨j, hj, rfl, HJ⟩ := hrel
        have f0 := (HF.out _ HJ.out).c0
        by_cases hjV : j < V
        · have t5 : (j : Int) < V := by omega
          have t5' : (0 : Int) ≤ j := by omega
          have hjs : j < S.size := by rw [Hsz.out]; exact hjV
          have t6 : (j : Int) < (S.size : Int) := by omega
          obtain ⟨b7, o7, rfl, e8⟩ := HE6.out j hjV
          have h3 := Hsat.out j hjs
          obtain ⟨ch, hch⟩ : ∃ ch : Int, ((S[j]'hjs).toNat : Int) = ch := ⟨_, rfl⟩
          rw [hch] at h3
          have HHc := Lib.hid hch
          rcases h3 with ⟨rfl, hs⟩ | ⟨rfl, hs⟩ | ⟨rfl, hs⟩
          · have hBn := B5.new wr ⟨1, Y, 0, 0, false⟩ 49
            have z0 := hBn.at.1; have zf := hBn.fr 0
            have hq := fun w => run_st_neq ⟨1, Y, 0, 0, false⟩ ⟨1, Y, 0, 0, false⟩ w
            rw [show St.eqb (⟨1, Y, 0, 0, false⟩ : St) ⟨1, Y, 0, 0, false⟩ = true from decide_eq_true rfl] at hq
            dsimp only at hq z0
            obtain ⟨wz, hwz⟩ : ∃ wz, wz = (wr.alloc (.cells #[.int .u8 1, .int .u8 Y, .int .i64 0, .int .i64 0, .bool false] 49)) := ⟨_, rfl⟩
            have hb5 : B5 wz wr.heap.size ⟨1, Y, 0, 0, false⟩ 49 := by rw [hwz]; exact hBn
            have xz : Ext wr wz := by rw [hwz]; exact ((Ext.refl wr).alloc _)
            have HWz := Lib.hid hwz; have HB5 := Lib.hid hb5; have XZ := Lib.hid (HJ.out.trans xz)
            rw [hs] at e8
            have HE8 := Lib.hid e8
            clear hBn hs e8 hwz hb5 xz
            go_wp2
            rw [← HWz.out]
            obtain ⟨s0, s1, s2, s3, s4⟩ := HB5.out.at
            obtain ⟨u0, u1, u2, u3, u4⟩ := HE8.out.ext (XA5.out _ XZ.out)
            have q1 := HG.out _ XZ.out; have q2 := (XA5.out _ XZ.out).cell HG2.out
            dsimp only at s0 s1 s2 s3 s4 u0 u1 u2 u3 u4
            clear f0 z0 zf hch
            go_quiet (fail)
            clear s0 s1 s2 s3 s4 u0 u1 u2 u3 u4 q1 q2 hq
            go_wp2
            go_roundw
            case rel => exact ⟨j + 1, by omega, by go_num, by first | exact XZ | exact Lib.hid (XZ.out.drewN _)⟩
            case measure => simp [intOf]; omega
          · have hBn := B5.new wr ⟨1, Y, 0, 0, false⟩ 49
            have z0 := hBn.at.1; have zf := hBn.fr 0
            have hq := fun w => run_st_neq ⟨3, Y, 0, 0, false⟩ ⟨3, Y, 0, 0, false⟩ w
            rw [show St.eqb (⟨3, Y, 0, 0, false⟩ : St) ⟨3, Y, 0, 0, false⟩ = true from decide_eq_true rfl] at hq
            dsimp only at hq z0
            obtain ⟨wz, hwz⟩ : ∃ wz, wz = wr.alloc (.cells #[.int .u8 3, .int .u8 Y, .int .i64 0, .int .i64 0, .bool false] 49) := ⟨_, rfl⟩
            have hb5 : B5 wz wr.heap.size ⟨3, Y, 0, 0, false⟩ 49 := by rw [hwz]; exact B5.new wr ⟨3, Y, 0, 0, false⟩ _
            have xz : Ext wr wz := by rw [hwz]; exact ((Ext.refl wr).alloc _)
            have HWz := Lib.hid hwz; have HB5 := Lib.hid hb5; have XZ := Lib.hid (HJ.out.trans xz)
            rw [hs] at e8
            have HE8 := Lib.hid e8
            clear hBn hs e8 hwz hb5 xz
            go_wp2
            rw [← HWz.out]
            obtain ⟨s0, s1, s2, s3, s4⟩ := HB5.out.at
            obtain ⟨u0, u1, u2, u3, u4⟩ := HE8.out.ext (XA5.out _ XZ.out)
            have q1 := HG.out _ XZ.out; have q2 := (XA5.out _ XZ.out).cell HG2.out
            dsimp only at s0 s1 s2 s3 s4 u0 u1 u2 u3 u4
            clear f0 z0 zf hch
            go_quiet (fail)
            clear s0 s1 s2 s3 s4 u0 u1 u2 u3 u4 q1 q2 hq
            go_wp2
            go_roundw
            case rel => exact ⟨j + 1, by omega, by go_num, by first | exact XZ | exact Lib.hid (XZ.out.drewN _)⟩
            case measure => simp [intOf]; omega
          · have hBn := B5.new wr ⟨1, Y, 0, 0, false⟩ 49
            have z0 := hBn.at.1; have zf := hBn.fr 0
            have hq := fun w => run_st_neq ⟨4, Y, 0, 0, false⟩ ⟨4, Y, 0, 0, false⟩ w
            rw [show St.eqb (⟨4, Y, 0, 0, false⟩ : St) ⟨4, Y, 0, 0, false⟩ = true from decide_eq_true rfl] at hq
            dsimp only at hq z0
            obtain ⟨wz, hwz⟩ : ∃ wz, wz = wr.alloc (.cells #[.int .u8 4, .int .u8 Y, .int .i64 0, .int .i64 0, .bool false] 49) := ⟨_, rfl⟩
            have hb5 : B5 wz wr.heap.size ⟨4, Y, 0, 0, false⟩ 49 := by rw [hwz]; exact B5.new wr ⟨4, Y, 0, 0, false⟩ _
            have xz : Ext wr wz := by rw [hwz]; exact ((Ext.refl wr).alloc _)
            have HWz := Lib.hid hwz; have HB5 := Lib.hid hb5; have XZ := Lib.hid (HJ.out.trans xz)
            rw [hs] at e8
            have HE8 := Lib.hid e8
            clear hBn hs e8 hwz hb5 xz
            go_wp2
            rw [← HWz.out]
            obtain ⟨s0, s1, s2, s3, s4⟩ := HB5.out.at
            obtain ⟨u0, u1, u2, u3, u4⟩ := HE8.out.ext (XA5.out _ XZ.out)
            have q1 := HG.out _ XZ.out; have q2 := (XA5.out _ XZ.out).cell HG2.out
            dsimp only at s0 s1 s2 s3 s4 u0 u1 u2 u3 u4
            clear f0 z0 zf hch
            go_quiet (fail)
            clear s0 s1 s2 s3 s4 u0 u1 u2 u3 u4 q1 q2 hq
            go_wp2
            go_roundw
            case rel => exact ⟨j + 1, by omega, by go_num, by first | exact XZ | exact Lib.hid (XZ.out.drewN _)⟩
            case measure => simp [intOf]; omega
        · obtain rfl : j = V := by omega
          have t5 : ¬ (j : Int) < j := by omega
          have q1 := HG.out _ HJ.out; have q2 := (XA5.out _ HJ.out).cell HG2.out
          have hpr := HPr.out _ HJ.out
          go_wp2_with fail
          refine hpr.mono ?_
          intro e wp hret
          obtain ⟨g, rfl, xp, hpc⟩ := pr_lrow Hre.out hret
          rw [← Hm.out] at hpc ⊢
          have HPc := Lib.hid hpc; have XP := Lib.hid (HJ.out.trans xp); have YP := Lib.hid xp
          have f1 := (HF.out _ XP.out).c1; have g4 := (XA1.out _ XP.out).cell HG1.out
          have tmm : ((m : Int) != (m : Int)) = false := by simp
          clear hret xp hpc hpr q1 q2 f0 t5
          go_wp2
          clear f1 g4 tmm
          go_loopw [16, 17, 18] (fun i _ _ wq => ∃ u : Nat, u ≤ m ∧ i = .int .i64 u ∧ Hid (Ext wp wq)) (fun i _ _ _ => m - (intOf i).toNat)
          case atStart => exact ⟨0, Nat.zero_le _, rfl, Lib.hid (Ext.refl _)⟩
          case round =>
            obtain ⟨u, hu, rfl, HU⟩ := hrel
            by_cases hum : u < m
            · have t7 : (u : Int) < m := by omega
              have t7' : (0 : Int) ≤ u := by omega
              have XU := Lib.hid (XP.out.trans HU.out)
              have f1 := (HF.out _ XU.out).c1; have g4 := (XA1.out _ XU.out).cell HG1.out
              obtain ⟨b9, o9, rfl, z⟩ := HE5.out u hum
              obtain ⟨z1, z2⟩ := z.ext (XA1.out _ XU.out)
              obtain ⟨pc0, pc1⟩ := HPc.out u hum
              have htl := (oi R u).two_lst
              have hbz := rowE_all Hre.out _ (oi_mem (l := R) (i := u) (by rw [← Hm.out]; exact hum))
              obtain ⟨hb1, hb2, hb3, hb4⟩ := hbz
              have hlst : (oi R u).lst = (oi R u).fst + 1 := rfl
              obtain ⟨P, hP⟩ : ∃ P, P = (oi R u).p := ⟨_, rfl⟩
              obtain ⟨D, hD⟩ : ∃ D, D = (oi R u).two := ⟨_, rfl⟩
              rw [← hP] at z1 pc0 htl hb1 hb2
              rw [← hD] at pc1 htl
              have hneq := run_pr_neq P D
              have wp1 : IntKind.i64.wrap (P + 1) = P + 1 := IntWalk.i64_in _ ⟨by omega, by omega⟩
              have wp2 : IntKind.i64.wrap (P - 1) = P - 1 := IntWalk.i64_in _ ⟨by omega, by omega⟩
              have HPd := Lib.hid (show ((oi R u).l = true → P - 1 = D) ∧ ((oi R u).l = false → P + 1 = D) from ⟨fun h => by have := htl.1 h; omega, fun h => by have := htl.2 h; omega⟩)
              obtain ⟨F, hF⟩ : ∃ F, F = (oi R u).l := ⟨_, rfl⟩
              rw [← hF] at z2 HPd
              obtain ⟨wz, hwz⟩ : ∃ wz, wz = wr.alloc (.cells #[.int .i64 P, .bool F] 39) := ⟨_, rfl⟩
              have xz : Ext wr wz := by rw [hwz]; exact (Ext.refl _).alloc _
              have hbz : B2 wz wr.heap.size (.int .i64 P) (.bool F) 39 := by rw [hwz]; exact B2.new _ _ _ _
              have HWz := Lib.hid hwz; have HBz := Lib.hid hbz; have XZ := Lib.hid (HU.out.trans xz)
              have PC0 := Lib.hid pc0; have PC1 := Lib.hid pc1
              clear z htl hb1 hb2 hb3 hb4 hlst hP hD hF hwz hbz xz pc0 pc1
              cases F
              · have hd := HPd.out.2 rfl
                replace wp1 := wp1.trans hd
                clear HPd wp2 hd
                go_wp2
                rw [← HWz.out]
                have s0 := HBz.out.c0; have s1 := HBz.out.c1
                have pc0 := XZ.out.cell PC0.out; have pc1 := XZ.out.cell PC1.out
                clear f1 g4 z1 z2
                go_quiet (fail)
                clear s0 s1 pc0 pc1 hneq wp1
                go_wp2
                go_roundw
                case rel => exact ⟨u + 1, by omega, by go_num, by first | exact XZ | exact Lib.hid (XZ.out.drewN _)⟩
                case measure => simp [intOf]; omega
              · have hd := HPd.out.1 rfl
                replace wp2 := wp2.trans hd
                clear HPd hd
                go_wp2
                rw [← HWz.out]
                have s0 := HBz.out.c0; have s1 := HBz.out.c1
                have pc0 := XZ.out.cell PC0.out; have pc1 := XZ.out.cell PC1.out
                clear f1 g4 z1 z2
                go_quiet (fail)
                clear s0 s1 pc0 pc1 hneq wp1 wp2
                go_wp2
                go_roundw
                case rel => exact ⟨u + 1, by omega, by go_num, by first | exact XZ | exact Lib.hid (XZ.out.drewN _)⟩
                case measure => simp [intOf]; omega
            · obtain rfl : u = m := by omega
              have t7 : ¬ (u : Int) < u := by omega
              have XU := Lib.hid (XP.out.trans HU.out)
              go_wp2
              go_roundw
              case rel => exact ⟨k + 1, by omega, by go_num, XU⟩
              case measure => simp [intOf]; omega
    · obtain rfl : k = N := by omega
      have t1 : ¬ (k : Int) < k := by omega
      have hof := HOf2.out _ HX.out
      have f0 := (HF.out _ HX.out).c0; have f1 := (HF.out _ HX.out).c1
      clear hlt
      go_wp2_with fail
      refine hof.mono ?_
      intro e wo hret
      obtain ⟨v4, c4, rfl, hr4, xo⟩ := of_lch Hk.out HYb.out hret
      obtain ⟨a4, n4, rfl, o1, o2, o3, o4⟩ := hr4.open
      clear o1 o2 o3 o4 hret hof f0 f1
      obtain ⟨W4, hW4⟩ : ∃ W4, W4 = wo.alloc (.cells #[.int .i64 (V : Int), .slice a4 n4 c4] 24) := ⟨_, rfl⟩
      have xW4 : Ext wo W4 := by rw [hW4]; exact (Ext.refl wo).alloc _
      have hb6 : B2 W4 wo.heap.size (.int .i64 (V : Int)) (.slice a4 n4 c4) 24 := by rw [hW4]; exact B2.new _ _ _ _
      have Y4 := Lib.hid (HX.out.trans (xo.trans xW4)); have HW4 := Lib.hid hW4
      have f0 := (HF.out _ Y4.out).c0; have f1 := (HF.out _ Y4.out).c1
      have f2 := hb6.c0; have f3 := hb6.c1
      have hdf := HDiffer_calls V V _ _ _ _ rows rows W4 (hr4.ext xW4) (HR1.out W4 (Y2.out.trans Y4.out))
      rw [hdif_same] at hdf
      have HDf := Lib.hid hdf
      have X4 := Lib.hid (X2.out.trans Y4.out)
      have tYY : (Y == Y) = true := by simp
      rw [hW4] at f0 f1 f2 f3
      clear hr4 hb6 hdf xo xW4 hW4
      go_wp2_with fail
      rw [← HW4.out]
      refine HDf.out.mono ?_
      rintro e w5 ⟨rfl, x5⟩
      have X5 := Lib.hid (X4.out.trans x5)
      clear x5 f0 f1 f2 f3
      go_wp2_with fail
      refine (HLv.out _ X5.out).mono ?_
      rintro e w6 ⟨rfl, x6⟩
      have X6 := Lib.hid (X5.out.trans x6)
      clear x6
      go_wp2
      go_ret
      exact ⟨rfl, X6.out⟩
end Go.Proofs.YthllbcjglcplhaaDoor
/- LacesOf: the plain part. -/
namespace Go.Proofs.YthllbcjglcplhaaDoor
set_option linter.unusedVariables false
set_option linter.unusedSimpArgs false
set_option maxRecDepth 8000

def kOk (y : Int) (s : St) : Bool := (s.y == y) && (s.k == 1 || s.k == 3 || s.k == 4)
def gKl (y : Int) (r : List St) : Bool := r.all (kOk y)
def gRl (W : Nat) (y : Int) (r : List St) : Bool := gKl y r && ((rdL 0 (lineL r)).isSome && decide (r.length = W))
def gAl (W : Nat) (y : Int) (rows : List (List St)) : Bool := rows.all (gRl W y)
def hsR (r : List St) : List Ho := (rdL 0 (lineL r)).getD []
def hsL (rows : List (List St)) : List (List Ho) := rows.map hsR
def wv (b : Bool) : Int := if b then 0 else 7
theorem gAl_succ {W : Nat} {y : Int} {rows : List (List St)} {k : Nat} (h : k < rows.length) : gAl W y (rows.take (k + 1)) = (gAl W y (rows.take k) && gRl W y (sw rows k)) := by
  rw [take_succ_sw h]; unfold gAl; rw [List.all_append]; simp
theorem gKl_succ {y : Int} {r : List St} {k : Nat} (h : k < r.length) : gKl y (r.take (k + 1)) = (gKl y (r.take k) && kOk y (si r k)) := by
  rw [take_succ_si h]; unfold gKl; rw [List.all_append]; simp
theorem hsL_succ {rows : List (List St)} {k : Nat} (h : k < rows.length) : hsL (rows.take (k + 1)) = hsL (rows.take k) ++ [hsR (sw rows k)] := by
  rw [take_succ_sw h]; unfold hsL; rw [List.map_append]; rfl
theorem lineL_succ {r : List St} {k : Nat} (h : k < r.length) : lineL (r.take (k + 1)) = lineL (r.take k) ++ [kSg2 (si r k).k] := by
  rw [take_succ_si h]; unfold lineL; rw [List.map_append]; rfl
theorem hsL_len (rows : List (List St)) : (hsL rows).length = rows.length := by unfold hsL; simp
theorem hsL_ow {rows : List (List St)} {i : Nat} (h : i < rows.length) : ow (hsL rows) i = hsR (sw rows i) := by
  rw [ow_of_lt (by rw [hsL_len]; exact h), sw_of_lt h]; unfold hsL; rw [List.getElem_map]
theorem byt_lineL (r : List St) : Byt (lineL r) := fun x hx => by
  unfold lineL at hx
  obtain ⟨s, _, rfl⟩ := List.mem_map.1 hx
  unfold kSg2
  split
  · omega
  · split <;> omega
theorem lineL_len (r : List St) : (lineL r).length = r.length := by unfold lineL; simp
/-- What the law finds is what the chart is. -/
theorem find_isL {rows : List (List St)} (hc : (cloads rows).1 = 0) (hg : gAl (sw rows 0).length (si (sw rows 0) 0).y rows = true) (hk : lchk ((sw rows 0).length : Int) (hsL rows) = 0) :
    IsL rows (sw rows 0).length (si (sw rows 0) 0).y (hsL rows) ∧ 1 ≤ (si (sw rows 0) 0).y ∧ (si (sw rows 0) 0).y ≤ 6 := by
  obtain ⟨h1, h2, h3, _⟩ := cerr_zero (cerr_of hc)
  have hch : ∀ i, i < rows.length → ∀ s ∈ sw rows i, s.chk = 0 := fun i hi s hs => by
    obtain ⟨j, hj, rfl⟩ := List.mem_iff_getElem.1 hs
    have := (rchk_zero (h3 i hi)).2.2.1 j hj
    rwa [si_of_lt hj] at this
  have h0 := (rchk_zero (h3 0 (by omega))).2.1
  have hyy := St.chk_ok (hch 0 (by omega) _ (si_mem h0))
  unfold gAl at hg
  rw [List.all_eq_true] at hg
  refine ⟨IsL.of hch (hsL_len rows) (fun i hi => ?_) hk, by omega⟩
  have := hg (sw rows i) (by rw [sw_of_lt hi]; exact List.getElem_mem hi)
  unfold gRl gKl at this
  simp only [Bool.and_eq_true, List.all_eq_true, decide_eq_true_eq] at this
  obtain ⟨a, b, d⟩ := this
  refine ⟨?_, d, fun s hs => ?_⟩
  · rw [hsL_ow hi]; unfold hsR
    obtain ⟨x, hx⟩ := Option.isSome_iff_exists.1 b
    rw [hx]; rfl
  · have := a s hs
    unfold kOk at this
    simp only [Bool.and_eq_true, Bool.or_eq_true, beq_iff_eq] at this
    exact ⟨this.1, by omega⟩
theorem isL_find {rows : List (List St)} {W : Nat} {y : Int} {hs : List (List Ho)} (h : IsL rows W y hs) : W = (sw rows 0).length ∧ y = (si (sw rows 0) 0).y ∧ gAl (sw rows 0).length (si (sw rows 0) 0).y rows = true ∧ hsL rows = hs := by
  obtain ⟨a, b⟩ := h.rd
  have h0 : 0 < rows.length := by have := (lchk_zero h.1).2.2.2.1; omega
  have hW := (b 0 h0).2.2.1
  have hy := isL_y h
  rw [hW, ← hy]
  refine ⟨rfl, rfl, ?_, ow_ext (by rw [hsL_len]; exact a) fun i hi => ?_⟩
  · unfold gAl
    rw [List.all_eq_true]
    intro r hr
    obtain ⟨i, hi, rfl⟩ := List.mem_iff_getElem.1 hr
    obtain ⟨b1, b2, b3, b4⟩ := b i hi
    rw [← sw_of_lt hi]
    unfold gRl gKl
    simp only [Bool.and_eq_true, List.all_eq_true, decide_eq_true_eq]
    refine ⟨fun s hs => ?_, by rw [b2]; rfl, b3⟩
    obtain ⟨c1, c2⟩ := b4 s hs
    unfold kOk
    simp only [Bool.and_eq_true, Bool.or_eq_true, beq_iff_eq]
    exact ⟨c1, by omega⟩
  · rw [hsL_len] at hi
    rw [hsL_ow hi]; unfold hsR
    rw [(b i hi).2.1]; rfl
/-- What Of returns, as the law finds it. -/
theorem of_find {w0 : World} {rows : List (List St)} {e : Ending} {w' : World} (h0 : (cloads rows).1 = 0) (h : RetOf w0 rows e w') : Ext w0 w' ∧
    ((¬ (gAl (sw rows 0).length (si (sw rows 0) 0).y rows = true ∧ lchk ((sw rows 0).length : Int) (hsL rows) = 0) ∧ e = .returned (.tuple #[.agg #[.int .i64 0, .slice Option.none 0 0], .int .u8 0, .int .i64 7])) ∨
     ((gAl (sw rows 0).length (si (sw rows 0) 0).y rows = true ∧ lchk ((sw rows 0).length : Int) (hsL rows) = 0) ∧ ∃ v c, e = .returned (.tuple #[.agg #[.int .i64 ((sw rows 0).length : Int), v], .int .u8 (si (sw rows 0) 0).y, .int .i64 0]) ∧ HR w' v c (hsL rows))) := by
  obtain ⟨x, ⟨h1, _⟩ | ⟨_, h2, h3⟩ | ⟨_, W', y', hs, v, c, h3, h4, h5, h6, h7⟩⟩ := h
  · exact absurd h0 h1
  · refine ⟨x, .inl ⟨fun ⟨a, b⟩ => h2 ?_, h3⟩⟩
    obtain ⟨p, q⟩ := find_isL h0 a b
    exact ⟨_, _, _, p, q⟩
  · obtain ⟨p1, p2, p3, p4⟩ := isL_find h3
    refine ⟨x, .inr ⟨⟨p3, ?_⟩, v, c, by rw [h6, ← p1, ← p2], by rw [p4]; exact h7⟩⟩
    rw [p4, ← p1]; exact h3.1
end Go.Proofs.YthllbcjglcplhaaDoor
