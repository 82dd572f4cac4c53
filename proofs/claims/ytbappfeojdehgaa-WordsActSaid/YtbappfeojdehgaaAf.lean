/- The law WordsAct: its walk. -/
import Derived.Test.YtbappfeojdehgaaAe
import Derived.Test.YtbappfeojdehgaaWv
import Derived.Test.YtbappfeojdehgaaIm
namespace Go.Proofs.Ytbappfeojdehgaa
set_option linter.unusedVariables false
set_option linter.unusedSimpArgs false
set_option maxRecDepth 8000
open Go Go.RowKit

theorem oth_br {n : Int} {W : List Int} (ms : List (Int × Int)) (hv : Val n W) (hl : W.length ≤ 12) : Br n W (oth n W ms) ∧ Val n (oth n W ms) ∧ (oth n W ms).length ≤ 21 := by
  unfold oth
  by_cases h : n ≤ 1
  · rw [if_pos h]; exact ⟨Br.refl _ _, hv, by omega⟩
  · rw [if_neg h]; exact mvs_br (by omega) _ hv (by omega)
theorem wcheck_val {n : Int} {w : List Int} (h1 : 1 ≤ n) (h8 : n ≤ 8) (hl : w.length ≤ 64) (h : Val n w) : wcheck n w = 0 := wcheck_mem h1 h8 hl h
theorem wordOf_cut (n : Int) (xs : List Int) : (wordOf n (xs.take 12)).length ≤ 12 := by
  unfold wordOf; split
  · simp
  · simp; omega
theorem start_len (n : Nat) : (start n).length = n := by simp [start]
theorem start_at {n i : Nat} (h : i < n) : ri (start n) i = [(i : Int) + 1] := by unfold start; rw [ri_range_map _ h]

set_option maxHeartbeats 8000000 in
set_option maxRecDepth 100000 in
theorem WordsAct_walk (n : Int) (va vb : Value) (ca cb : Nat) (xs : List Int) (ms : List (Int × Int)) (w : World) (hn : 0 ≤ n ∧ n ≤ 255) (h : IS .u8 w va ca xs) (hp : PS w vb cb ms) (hb : ∀ i, i < xs.length → 0 ≤ gi xs i ∧ gi xs i ≤ 255)
    (hms : ∀ i, i < ms.length → 0 ≤ (pi ms i).1 ∧ (pi ms i).1 ≤ 255 ∧ 0 ≤ (pi ms i).2 ∧ (pi ms i).2 ≤ 255) :
    Calls Try.prog 6 #[.int .u8 n, .agg #[va, vb]] w fun e w' => e = .returned (.bool true) ∧ Ext w w' := by
  obtain ⟨m, hm⟩ : ∃ m : Nat, (m : Int) = 1 + n % 6 := ⟨(1 + n % 6).toNat, by omega⟩
  have m1 : 1 ≤ m := by omega
  have m6 : m ≤ 6 := by omega
  have hStr := fun w => Strands_m n m w hn hm
  obtain ⟨a1, n1, c1, rfl, hn1, rfl, h1⟩ := h.out
  obtain ⟨L, hL⟩ : ∃ L, L = min n1 12 := ⟨_, rfl⟩
  have hmin : (if (12 : Int) < (n1 : Int) then (12 : Int) else (n1 : Int)) = (L : Int) := by split <;> omega
  have hLn : L ≤ n1 := by omega
  have hnc := h1.len.2.2
  rw [← hn1] at hnc
  have hcut : IS .u8 w (.slice a1 L c1) c1 (xs.take 12) := by
    have := h1.upto (m := L) hLn
    have e : xs.take L = xs.take 12 := by
      by_cases h12 : n1 ≤ 12
      · rw [List.take_of_length_le (by omega), List.take_of_length_le (by omega)]
      · rw [show L = 12 by omega]
    rwa [e] at this
  have hbc : ∀ i, i < (xs.take 12).length → 0 ≤ gi (xs.take 12) i ∧ gi (xs.take 12) i ≤ 255 := fun i hi => by
    rw [List.length_take] at hi
    rw [gi_take (by omega)]; exact hb i (by omega)
  obtain ⟨W, hW⟩ : ∃ W, W = wordOf m (xs.take 12) := ⟨_, rfl⟩
  have hmem := wordOf_mem (n := m) (by omega) hbc
  have hl12 := wordOf_cut m xs
  have hOf := fun w' (x : Ext w w') => Of_calls m (.slice a1 L c1) c1 (xs.take 12) w' (hcut.ext x) hbc ⟨by omega, by omega⟩
  have hOt := fun w' (x : Ext w w') => Other_calls m (.slice a1 L c1) vb c1 cb (xs.take 12) ms w' (hcut.ext x) (hp.ext x) hbc hms ⟨by omega, by omega⟩ (by exact hl12)
  rw [← hW] at hOf hOt hmem hl12
  have hv : Val m W := fun x hx => (hmem x hx).1
  obtain ⟨V, hV⟩ : ∃ V, V = oth m W ms := ⟨_, rfl⟩
  obtain ⟨hbr, hvv, hvl⟩ := oth_br (n := m) ms hv hl12
  rw [← hV] at hOt hbr hvv hvl
  have hwW : wcheck m W = 0 := wcheck_val (by omega) (by omega) (by omega) hv
  have hwV : wcheck m V = 0 := wcheck_val (by omega) (by omega) (by omega) hvv
  have hlWV : (W ++ invL V).length ≤ 40 := by rw [List.length_append, invL_len]; omega
  have hwWV : wcheck m (W ++ invL V) = 0 := wcheck_val (by omega) (by omega) (by omega) (hv.app hvv.inv)
  have hfW : fits m W := fits12 hv.at m1 hl12
  obtain ⟨hfV, hfWV, hst⟩ := fits_two m1 m6 hv hvv hbr hl12 hvl
  have ha := br_act m1 hbr
  have hpm := br_perm hbr
  have hli := br_links hbr
  have hsu := (br_st hbr).2.2
  have hbW := val_bd (by omega) (by omega) hv
  have hbV := val_bd (by omega) (by omega) hvv
  obtain ⟨a2, N2, rfl, hN2, _⟩ := hp.open
  have HN2 := Lib.hid hN2
  clear hN2
  have HS := Lib.hid hStr; have HOf := Lib.hid hOf; have HOt := Lib.hid hOt; have Hmin := Lib.hid hmin
  have HwW := Lib.hid hwW; have HwV := Lib.hid hwV; have HwWV := Lib.hid hwWV; have HfW := Lib.hid hfW; have HfV := Lib.hid hfV; have HfWV := Lib.hid hfWV
  have Hst := Lib.hid hst; have Ha := Lib.hid ha; have Hpm := Lib.hid hpm; have Hli := Lib.hid hli; have Hsu := Lib.hid hsu; have HbW := Lib.hid hbW; have HbV := Lib.hid hbV; have HlWV := Lib.hid hlWV
  clear hStr hOf hOt hwW hwV hwWV hfW hfV hfWV hst ha hpm hli hsu hbW hbV hbr hvv hv hmem hV hW hm hb hbc hms hL h h1 hn1 hcut hp hlWV
  have e1 : (L : Int) ≤ c1 := by omega
  have e2 : (0 : Int) ≤ (L : Int) := by omega
  go_enter Try.func6, Try.ntmps6
  go_wp2_with fail
  refine (HS.out _).mono ?_
  rintro e w1 ⟨rfl, rfl⟩
  go_wp2
  obtain ⟨wb, hwb⟩ : ∃ wb, wb = w.alloc (.cells #[.slice a1 L c1, .slice a2 N2 cb] 47) := ⟨_, rfl⟩
  have hB := B2.new w (.slice a1 L c1) (.slice a2 N2 cb) 47
  have xb : Ext w wb := by rw [hwb]; exact (Ext.refl w).alloc _
  rw [← hwb] at hB ⊢
  have hb0 := hB.c0
  have hb1 := hB.c1
  have Xb := Lib.hid xb
  clear hwb hB xb hmin e1 e2 hLn hnc
  go_region_held3 (fun w' => w'.cell? ⟨w.heap.size, 0, none⟩ = some (.slice a1 L c1) ∧ w'.cell? ⟨w.heap.size, 1, none⟩ = some (.slice a2 N2 cb)) (first | exact ⟨hb0, hb1⟩ | exact ⟨q0, q1⟩ | exact ⟨p0, p1⟩ | go_keep) (first
    | (go_at_call 9; (refine (HOf.out _ (Xb.out.trans ?_)).mono ?_); (focus (repeat (first | (with_reducible exact Ext.refl _) | (with_reducible exact X5.out) | (with_reducible apply Ext.drew) | (with_reducible apply Ext.drewN)))); intro e w4 hh; obtain ⟨a4, n4, c4, rfl, hn4, h4, x4⟩ := hh.open; have X4 : Hid (Ext wb w4) := Lib.hid (Ext.trans (by (repeat (first | (with_reducible exact Ext.refl _) | (with_reducible exact X5.out) | (with_reducible apply Ext.drew) | (with_reducible apply Ext.drewN)))) x4); have S4 := Lib.hid x4; have H4 := Lib.hid h4; have q0 := X4.out.cell hb0; have q1 := X4.out.cell hb1; clear hh hn4 h4 x4)
    | (go_at_call 23; (refine (HOt.out _ (Xb.out.trans ?_)).mono ?_); (focus (repeat (first | (with_reducible exact Ext.refl _) | (with_reducible exact X4.out) | (with_reducible apply Ext.drew) | (with_reducible apply Ext.drewN)))); intro e w5 hh; obtain ⟨a5, n5, c5, rfl, hn5, h5, x5⟩ := hh.open; have X5 : Hid (Ext wb w5) := Lib.hid (Ext.trans (by (repeat (first | (with_reducible exact Ext.refl _) | (with_reducible exact X4.out) | (with_reducible apply Ext.drew) | (with_reducible apply Ext.drewN)))) x5); have S5 := Lib.hid x5; have H5 := Lib.hid h5; have p0 := X5.out.cell hb0; have p1 := X5.out.cell hb1; clear hh hn5 h5 x5))
  have HW : Hid (IS .i64 w5 (.slice a4 n4 c4) c4 W) := Lib.hid (H4.out.ext S5.out)
  have HV : Hid (IS .i64 w5 (.slice a5 n5 c5) c5 V) := Lib.hid H5.out
  have XX : Hid (Ext w w5) := Lib.hid (Xb.out.trans X5.out)
  clear H4 H5 S4 S5 q0 q1 p0 p1 hb0 hb1 X4 X5 Xb
  go_wp2_with fail
  refine (Act_calls m _ _ W _ HW.out HwW.out HfW.out).mono ?_
  rintro e w6 ⟨v6, rfl, h6, x6⟩
  have H6 := Lib.hid h6.iss
  replace HW := Lib.hid (HW.out.ext x6); replace HV := Lib.hid (HV.out.ext x6); replace XX := Lib.hid (XX.out.trans x6)
  clear h6 x6
  go_wp2_with fail
  refine (Act_calls m _ _ V _ HV.out HwV.out HfV.out).mono ?_
  rintro e w7 ⟨v7, rfl, h7, x7⟩
  have H7 := Lib.hid h7.iss
  replace HW := Lib.hid (HW.out.ext x7); replace HV := Lib.hid (HV.out.ext x7); replace XX := Lib.hid (XX.out.trans x7); replace H6 := Lib.hid (H6.out.ext x7)
  clear h7 x7
  go_wp2_with fail
  refine (Permutation_calls m _ _ W _ HW.out HwW.out).mono ?_
  intro e w8 hh
  obtain ⟨a8, n8, c8, rfl, hn8, hc8, h8, x8⟩ := hh.open
  have H8 := Lib.hid h8
  replace HW := Lib.hid (HW.out.ext x8); replace HV := Lib.hid (HV.out.ext x8); replace XX := Lib.hid (XX.out.trans x8); replace H6 := Lib.hid (H6.out.ext x8); replace H7 := Lib.hid (H7.out.ext x8)
  clear hh hn8 hc8 h8 x8
  go_wp2_with fail
  refine (Permutation_calls m _ _ V _ HV.out HwV.out).mono ?_
  intro e w9 hh
  obtain ⟨a9, n9, c9, rfl, hn9, hc9, h9, x9⟩ := hh.open
  have H9 := Lib.hid h9
  replace HW := Lib.hid (HW.out.ext x9); replace HV := Lib.hid (HV.out.ext x9); replace XX := Lib.hid (XX.out.trans x9); replace H6 := Lib.hid (H6.out.ext x9); replace H7 := Lib.hid (H7.out.ext x9); replace H8 := Lib.hid (H8.out.ext x9)
  clear hh hn9 hc9 h9 x9
  go_wp2_with fail
  refine (Sum_calls m _ _ W _ HW.out HwW.out).mono ?_
  rintro e w10 ⟨rfl, x10⟩
  replace HW := Lib.hid (HW.out.ext x10); replace HV := Lib.hid (HV.out.ext x10); replace XX := Lib.hid (XX.out.trans x10); replace H6 := Lib.hid (H6.out.ext x10); replace H7 := Lib.hid (H7.out.ext x10); replace H8 := Lib.hid (H8.out.ext x10); replace H9 := Lib.hid (H9.out.ext x10)
  clear x10
  go_wp2_with fail
  refine (Sum_calls m _ _ V _ HV.out HwV.out).mono ?_
  rintro e w11 ⟨rfl, x11⟩
  rw [← Hsu.out]
  replace HW := Lib.hid (HW.out.ext x11); replace HV := Lib.hid (HV.out.ext x11); replace XX := Lib.hid (XX.out.trans x11); replace H6 := Lib.hid (H6.out.ext x11); replace H7 := Lib.hid (H7.out.ext x11); replace H8 := Lib.hid (H8.out.ext x11); replace H9 := Lib.hid (H9.out.ext x11)
  clear x11
  go_wp2_with fail
  refine (Links_calls m _ _ W _ HW.out HwW.out).mono ?_
  rintro e w12 ⟨v12, rfl, h12, x12⟩
  have H12 := Lib.hid h12.iss
  replace HW := Lib.hid (HW.out.ext x12); replace HV := Lib.hid (HV.out.ext x12); replace XX := Lib.hid (XX.out.trans x12); replace H6 := Lib.hid (H6.out.ext x12); replace H7 := Lib.hid (H7.out.ext x12); replace H8 := Lib.hid (H8.out.ext x12); replace H9 := Lib.hid (H9.out.ext x12)
  clear h12 x12
  go_wp2_with fail
  refine (Links_calls m _ _ V _ HV.out HwV.out).mono ?_
  rintro e w13 ⟨v13, rfl, h13, x13⟩
  have H13 := Lib.hid h13.iss
  replace HW := Lib.hid (HW.out.ext x13); replace HV := Lib.hid (HV.out.ext x13); replace XX := Lib.hid (XX.out.trans x13); replace H6 := Lib.hid (H6.out.ext x13); replace H7 := Lib.hid (H7.out.ext x13); replace H8 := Lib.hid (H8.out.ext x13); replace H9 := Lib.hid (H9.out.ext x13); replace H12 := Lib.hid (H12.out.ext x13)
  clear h13 x13
  go_wp2_with fail
  refine (Inverse_calls m _ _ V _ HV.out HwV.out HbV.out (by omega)).mono ?_
  intro e w14 hh
  obtain ⟨a14, n14, c14, rfl, hn14, hc14, h14, x14⟩ := hh.open
  have H14 : Hid (IS .i64 w14 (.slice a14 n14 c14) c14 (invL V)) := Lib.hid h14
  replace HW := Lib.hid (HW.out.ext x14); replace XX := Lib.hid (XX.out.trans x14); replace H6 := Lib.hid (H6.out.ext x14); replace H7 := Lib.hid (H7.out.ext x14); replace H8 := Lib.hid (H8.out.ext x14); replace H9 := Lib.hid (H9.out.ext x14); replace H12 := Lib.hid (H12.out.ext x14); replace H13 := Lib.hid (H13.out.ext x14)
  clear hh hn14 hc14 h14 x14 HV
  go_wp2_with (at_builtin; refine app_own eiInt rfl _ _ rfl w14.heap.size _ 0 [] rfl (World.ownsRow_made w14 #[] 0 (Nat.le_refl _) (by unfold maxLen; omega) rfl) _ _ _ rfl (HW.out.ext ((Ext.refl w14).alloc _)) (onesI _) ?c1 ?c2 ?c3 ?_)
  case c1 => simp; omega
  case c2 => simp; omega
  case c3 => simp
  intro v15 w15 hown15 hb15
  have x15 : Ext w14 w15 := Below.trans ((Ext.refl w14).alloc _) hb15
  have Hown15 := Lib.hid (show w15.ownsRow w14.heap.size 3 1 v15 W.length (W.map (Value.int .i64)) by
    simpa using hown15)
  have S15 := Lib.hid x15
  clear hown15 hb15 x15
  go_wp2_with (at_builtin; refine app_own eiInt rfl _ _ rfl w14.heap.size v15 W.length _ rfl Hown15.out _ _ _ rfl (H14.out.ext S15.out) (onesI _) ?d1 ?d2 ?d3 ?_)
  case d1 => have := HlWV.out; simp at this ⊢; omega
  case d2 => have := HlWV.out; simp at this ⊢; omega
  case d3 => exact S15.out.size
  intro v16 w16 hown16 hb16
  have x16 : Ext w14 w16 := Below.trans S15.out hb16
  have hown16' : w16.ownsRow w14.heap.size 3 1 v16 (W ++ invL V).length ((W ++ invL V).map (Value.int .i64)) := by
    simpa using hown16
  obtain ⟨c16, h16⟩ := IS.of_own hown16'
  have H16 := Lib.hid h16
  replace XX := Lib.hid (XX.out.trans x16); replace H6 := Lib.hid (H6.out.ext x16); replace H7 := Lib.hid (H7.out.ext x16); replace H8 := Lib.hid (H8.out.ext x16); replace H9 := Lib.hid (H9.out.ext x16); replace H12 := Lib.hid (H12.out.ext x16); replace H13 := Lib.hid (H13.out.ext x16)
  clear hown16 hb16 x16 hown16' h16 Hown15 S15 HW H14
  go_wp2_with fail
  refine (Act_calls m _ _ _ _ H16.out HwWV.out HfWV.out).mono ?_
  rintro e w17 ⟨v17, rfl, h17, x17⟩
  rw [Hst.out] at h17
  replace XX := Lib.hid (XX.out.trans x17); replace H6 := Lib.hid (H6.out.ext x17); replace H7 := Lib.hid (H7.out.ext x17); replace H8 := Lib.hid (H8.out.ext x17); replace H9 := Lib.hid (H9.out.ext x17); replace H12 := Lib.hid (H12.out.ext x17); replace H13 := Lib.hid (H13.out.ext x17)
  obtain ⟨vs, h17⟩ := h17
  obtain ⟨_, _, a17, rfl, hao⟩ := h17.open
  rw [start_len] at hao h17 ⊢
  obtain ⟨b17, o17, rfl, hc17⟩ : ∃ b o, a17 = some ⟨b, o, none⟩ ∧ ∀ i, i < m → w17.cell? ⟨b, o + i, none⟩ = some (vs i) := by
    rcases hao with ⟨_, h0, _⟩ | hh
    · omega
    · exact hh
  have HC17 := Lib.hid hc17; have H17 := Lib.hid h17.2
  clear hc17 hao h17 x17 H16
  have hab : allB (actRows m W) (actRows m V) = true := allB_dec Ha.out
  have hal : allB (linksOf m W) (linksOf m V) = true := allB_dec Hli.out
  have HAB := Lib.hid hab; have HAL := Lib.hid hal
  clear hab hal
  go_wp2
  go_loopw [28] (fun i wr => ∃ k : Nat, k ≤ m ∧ i = .int .i64 k ∧ Hid (Ext w17 wr)) (fun i _ => m - (intOf i).toNat)
  case atStart => exact ⟨0, Nat.zero_le _, rfl, Lib.hid (Ext.refl _)⟩
  case round =>
    obtain ⟨k, hk, rfl, Hx⟩ := hrel
    by_cases hlt : k < m
    · obtain ⟨ak, lk, ck, hv, hlk, hck, hr⟩ := (H17.out k (by rw [start_len]; exact hlt)).out
      have hcv := Hx.out.cell (HC17.out k hlt)
      rw [hv] at hcv
      rw [start_at hlt] at hr
      have Hr := Lib.hid hr
      clear hr hv hlk hck
      have hlt' : (k : Int) < m := by omega
      have hk0 : (0 : Int) ≤ (k : Int) := by omega
      go_wp2_with fail
      refine (same_ext _ _ _ _ _ _ _ ((Hr.out.ext Hx.out).ext ((Ext.refl wr).alloc _)) (IS.lit (xs := [(k : Int) + 1]) rfl rfl rfl (Nat.le_of_lt (show 1 < 1000000 by decide)))).mono ?_
      rintro e w18 ⟨rfl, x18⟩
      rw [sameB_eq]
      have HX := Lib.hid (Hx.out.trans (((Ext.refl wr).alloc _).trans x18))
      clear x18 Hr
      go_wp2
      go_roundw
      case rel => exact ⟨k + 1, by omega, by go_num, HX⟩
      case measure => simp [intOf]; omega
    · obtain rfl : m = k := by omega
      have Xw := Lib.hid (XX.out.trans Hx.out)
      replace H6 := Lib.hid (H6.out.ext Hx.out); replace H7 := Lib.hid (H7.out.ext Hx.out); replace H8 := Lib.hid (H8.out.ext Hx.out); replace H9 := Lib.hid (H9.out.ext Hx.out); replace H12 := Lib.hid (H12.out.ext Hx.out); replace H13 := Lib.hid (H13.out.ext Hx.out)
      clear XX Hx HC17 H17 hlt
      go_wp2_with fail
      refine (all_ext _ _ _ _ _ _ _ H6.out H7.out).mono ?_
      rintro e w20 ⟨rfl, x20⟩
      rw [HAB.out]
      have hp8 : (convert 22 9 (.slice a8 n8 c8)).run Try.prog w20 = .ok (.string (bstr (permOf m W))) w20 := run_bstr (H8.out.ext x20) Try.underlying22 Try.underlying5 Try.underlying9
      have hp9 : (convert 22 9 (.slice a9 n9 c9)).run Try.prog w20 = .ok (.string (bstr (permOf m W))) w20 := by rw [Hpm.out]; exact run_bstr (H9.out.ext x20) Try.underlying22 Try.underlying5 Try.underlying9
      have X20 := Lib.hid (Xw.out.trans x20); replace H12 := Lib.hid (H12.out.ext x20); replace H13 := Lib.hid (H13.out.ext x20)
      clear x20 H6 H7 H8 H9
      go_wp2_with fail
      refine (all_ext _ _ _ _ _ _ _ H12.out H13.out).mono ?_
      rintro e w21 ⟨rfl, x21⟩
      rw [HAL.out]
      have X21 := Lib.hid (X20.out.trans x21)
      clear x21 hp8 hp9
      go_wp2_with fail
      refine (lives_calls _).mono ?_
      rintro e w22 ⟨rfl, x22⟩
      have X22 := Lib.hid (X21.out.trans x22)
      clear x22
      go_wp2
      go_ret
      exact ⟨rfl, X22.out⟩
end Go.Proofs.Ytbappfeojdehgaa
