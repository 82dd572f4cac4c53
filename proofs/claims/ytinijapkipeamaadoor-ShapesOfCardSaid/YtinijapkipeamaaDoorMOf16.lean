/- Texts of this claim in one file: libraries and walks. -/
import Derived.Handed
import Derived.ChangeSlices
import Derived.Test.YtinijapkipeamaaDoorRows
import Derived.Lib.LaidU8
import Derived.Test.YtinijapkipeamaaDoorMOf0
import Derived.Test.YtinijapkipeamaaDoorMOf7
import Derived.Test.YtinijapkipeamaaDoorMOf8
import Derived.Test.YtinijapkipeamaaDoorMOf15
/- The law ShapesOf, walked. -/
namespace Go.Proofs.YtinijapkipeamaaDoor
set_option linter.unusedVariables false
set_option linter.unusedSimpArgs false
set_option maxRecDepth 8000
open Go Go.RowKit

theorem sw_mem' {rows : List (List St)} {i : Nat} (h : i < rows.length) : sw rows i ∈ rows := by rw [sw_of_lt h]; exact List.getElem_mem h
theorem of_bad {rows : List (List St)} (h : (cloads rows).1 ≠ 0) : oferr rows = (cloads rows).1 := by unfold oferr; rw [if_pos h]
theorem y00_bd {rows : List (List St)} (h : (cloads rows).1 = 0) : 1 ≤ y00 rows ∧ y00 rows ≤ 6 := by
  obtain ⟨r1, r2, r3, r4⟩ := cerr_zero (cloads_cerr h)
  have hz := rchk_zero (r3 0 (by omega))
  exact (St.chk_ok (hz.2.2.1 0 hz.2.1)).2.1
theorem of_7a {rows : List (List St)} (h : (cloads rows).1 = 0) (hb : oerr (wds rows) ≠ 0) : oferr rows = 7 := by
  unfold oferr
  rw [if_neg (by omega), if_neg]
  rintro ⟨h1, h2⟩
  unfold cherr at h1
  rw [if_pos hb] at h1
  exact hb h1
theorem of_7b {rows : List (List St)} (h : (cloads rows).1 = 0) (hb : oerr (wds rows) = 0) (hn : rows ≠ chartOf (wds rows) (y00 rows)) : oferr rows = 7 := by
  have hy := y00_bd h
  unfold oferr
  rw [if_neg (by omega), if_neg]
  rintro ⟨h1, h2⟩
  rw [chres_ok hb hy] at h2
  exact hn h2.symm
theorem of_0 {rows : List (List St)} (h : (cloads rows).1 = 0) (hb : oerr (wds rows) = 0) (hn : rows = chartOf (wds rows) (y00 rows)) : oferr rows = 0 := by
  have hy := y00_bd h
  unfold oferr
  rw [if_neg (by omega), if_pos ⟨cherr_ok hb hy, by rw [chres_ok hb hy]; exact hn.symm⟩]

theorem oerr_vals (l : List Int) : oerr l = 0 ∨ oerr l = 1 ∨ oerr l = 3 ∨ oerr l = 14 := by
  unfold oerr jmp
  (repeat' split) <;> omega
set_option maxHeartbeats 8000000 in
theorem ShapesOf_walk (v : Value) (c : Nat) (rows : List (List St)) (w : World) (h : RR w v c rows) (hs : ∀ l ∈ rows, ∀ s ∈ l, St.In s) (hy : Sy w) :
    Calls Tryd.prog 9 #[.agg #[v]] w fun e w' => e = .returned (.bool true) ∧ Ext w w' := by
  have hOf := fun w' (x : Ext w w') => Of_calls v c rows w' (h.ext x) (fun i hi s hs' => (hs _ (sw_mem' hi) s hs').2.1)
  have hLd := fun w' (x : Ext w w') => RCLoads_calls v c rows w' (h.ext x) (fun k hk i hi => by
    have := hs _ (sw_mem' hk) _ (si_mem hi)
    exact ⟨this.1.1, this.2.1.1⟩)
  have hDf := fun w' v2 c2 m (x : Ext w w') (r : RR w' v2 c2 m) => Differ_calls v v2 c c2 rows m w' (h.ext x) r
  have hLv := fun w' (x : Ext w w') => lives_calls w' (hy.ext x)
  obtain ⟨ao, n, rfl, hn, hc, hcm, hat⟩ := h.open
  have hN := fun k (hk : k < n) (hl : (sw rows k).length ≤ 1000000) v c w' (r : RS w' v c (sw rows k)) => RRowNeeds_calls v c (sw rows k) w' r hl (fun i hi => by
    have := hs _ (sw_mem' (by omega)) _ (si_mem hi)
    exact ⟨this.1.1, this.2.1.1⟩)
  have hM := fun k (hk : k < n) (hl : (sw rows k).length ≤ 1000000) v c w' (r : RS w' v c (sw rows k)) => RRowMakes_calls v c (sw rows k) w' r hl (fun i hi => by
    have := hs _ (sw_mem' (by omega)) _ (si_mem hi)
    exact ⟨this.1.1, this.2.1.1⟩)
  unfold maxLen at hcm
  obtain ⟨W, hW⟩ : ∃ W, W = w.alloc (.cells #[.slice ao n c] 26) := ⟨_, rfl⟩
  have xW : Ext w W := by rw [hW]; exact (Ext.refl w).alloc _
  have b0 : W.cell? ⟨w.heap.size, 0, none⟩ = some (.slice ao n c) := by rw [hW, World.cell?_alloc_at (hn := rfl)]; rfl
  have HBx := Lib.hid (fun w' (x : Ext W w') => x.cell b0); have XW := Lib.hid xW
  have HOf := Lib.hid hOf; have HLd := Lib.hid hLd; have HDf := Lib.hid hDf; have HLv := Lib.hid hLv; have HN := Lib.hid hN; have HM := Lib.hid hM; have Hn := Lib.hid hn; have HA := Lib.hid hat
  have HW := Lib.hid hW
  rw [hW] at b0
  clear hOf hLd hDf hLv hN hM hat hn xW h hs hy hW
  by_cases h40 : 40 < n
  · have h40' : (40 : Int) < n := by omega
    clear h40
    go_enter Tryd.func9, Tryd.ntmps9
    go_wp2
    rw [← HW.out]
    go_ret
    exact ⟨rfl, XW.out⟩
  have h40' : ¬ (40 : Int) < n := by omega
  go_enter Tryd.func9, Tryd.ntmps9
  go_wp2
  rw [← HW.out]
  clear b0 HW
  go_loopw [3] (fun i wr => ∃ k : Nat, k ≤ n ∧ i = .int .i64 k ∧ Hid (Ext W wr)) (fun i _ => n - (intOf i).toNat)
  case atStart => exact ⟨0, Nat.zero_le _, rfl, Lib.hid (Ext.refl _)⟩
  case round =>
    obtain ⟨k, hk, rfl, HX⟩ := hrel
    have b1 := HBx.out _ HX.out
    by_cases hlt : k < n
    · obtain ⟨b, o, a, m, d, rfl, hc0, hr0⟩ := HA.out k hlt
      replace hc0 := (XW.out.trans HX.out).cell hc0
      clear hr0
      by_cases hm : 40 < m
      · have hm' : (40 : Int) < m := by omega
        clear hm
        go_wp2
        go_ret
        exact ⟨rfl, XW.out.trans HX.out⟩
      · have hm' : ¬ (40 : Int) < m := by omega
        clear hm
        go_wp2
        go_roundw
        case rel => exact ⟨k + 1, by omega, by go_num, HX⟩
        case measure => simp [intOf]; omega
    · obtain rfl : n = k := by omega
      obtain ⟨w1, hw1⟩ : ∃ w1 : World, w1 = wr := ⟨_, rfl⟩
      rw [← hw1] at HX b1 ⊢
      clear hw1 hlt hk
      by_cases hE : (cloads rows).1 = 0
      · obtain ⟨r1, r2, r3, r4⟩ := cerr_zero (cloads_cerr hE)
        have hz := fun i (hi : i < n) => rchk_zero (r3 i (by have := Hn.out; omega))
        have hn1 : 1 ≤ n := by have := Hn.out; omega
        have hofc : (oerr (wds rows) ≠ 0 → oferr rows = 7) ∧ (oerr (wds rows) = 0 → rows ≠ chartOf (wds rows) (y00 rows) → oferr rows = 7) ∧ (oerr (wds rows) = 0 → rows = chartOf (wds rows) (y00 rows) → oferr rows = 0) := ⟨of_7a hE, of_7b hE, of_0 hE⟩
        have hyb := y00_bd hE
        obtain ⟨b, o, a, m, d, rfl, hc0, hr0⟩ := HA.out 0 (by omega)
        rw [Nat.add_zero] at hc0
        have hm0 := (hz 0 (by omega)).2.1
        obtain ⟨_, _, e1, e2, _, _, e5⟩ := hr0.open
        simp only [Value.slice.injEq] at e1
        obtain ⟨rfl, rfl, _⟩ := e1
        obtain ⟨b2, o2, rfl, h5⟩ := e5 0 (by omega)
        have hyc : w.cell? ⟨b2, o2 + 1, none⟩ = some (.int .u8 (y00 rows)) := by
          have := h5.2.1
          rw [Nat.zero_mul, Nat.add_zero] at this
          exact this
        have hwl : (wds rows).length = n + 1 := by rw [wds_len (by have := Hn.out; omega), Hn.out]
        have hw0 : (wds rows).take 1 = [rneed (sw rows 0)] := by
          rw [take_succ_gi (show 0 < (wds rows).length by omega), wds_zero (by have := Hn.out; omega)]; rfl
        have hwS : ∀ k, k < n → (wds rows).take (k + 1 + 1) = (wds rows).take (k + 1) ++ [rmake (sw rows k)] := fun k hk => by
          rw [take_succ_gi (show k + 1 < (wds rows).length by omega), wds_succ (by have := Hn.out; omega)]
        have hwE : (wds rows).take (n + 1) = wds rows := List.take_of_length_le (by omega)
        have hnd := fun w' (x : Ext W w') => HN.out 0 (by omega) (by have := (hz 0 (by omega)).1; omega) _ _ w' (hr0.ext (XW.out.trans x))
        have hmk := fun k (hk : k < n) => HM.out k hk (by have := (hz k hk).1; omega)
        have hof := HOf.out w1 (XW.out.trans HX.out)
        have hch := fun w' v c (he : oerr (wds rows) = 0) (hi : IS .i64 w' v c (wds rows)) => RChart_calls v c (wds rows) (y00 rows) w' hi he
        rw [hE] at HLd
        generalize y00 rows = Y at *
        generalize oferr rows = OE at *
        obtain ⟨RL, hRL⟩ : ∃ RL, RL = (if OE = 0 then wds rows else []) := ⟨_, rfl⟩
        obtain ⟨RY, hRY⟩ : ∃ RY, RY = (if OE = 0 then Y else 0) := ⟨_, rfl⟩
        rw [← hRL, ← hRY] at hof
        have HRL := Lib.hid hRL; have HRY := Lib.hid hRY
        generalize cloads rows = CL at *
        obtain ⟨hof7, hof7b, hof0⟩ := hofc
        have HY := Lib.hid (fun w' (x : Ext W w') => (XW.out.trans x).cell hyc); have HC0 := Lib.hid (fun w' (x : Ext W w') => (XW.out.trans x).cell hc0)
        have H7a := Lib.hid hof7; have H7b := Lib.hid hof7b; have H0 := Lib.hid hof0; have HW0 := Lib.hid hw0; have HWS := Lib.hid hwS; have HWE := Lib.hid hwE; have HN0 := Lib.hid hnd; have HMk := Lib.hid hmk; have HOf1 := Lib.hid hof; have HYb := Lib.hid hyb; have HCh := Lib.hid hch; have Hm := Lib.hid e2
        have t0 : (0 : Int) < n := by omega
        have t1 : (0 : Int) < m := by omega
        have t0n : 0 < n := by omega
        have t1n : 0 < m := by omega
        clear hRL hRY hof7 hof7b hof0 hw0 hwS hwE hnd hmk hof hyb hch e2 e5 h5 hyc hc0 hr0 r1 r2 r3 r4 hE hwl hm0 hz HOf HN HM
        skip
        go_wp2_with fail
        refine (HOf1.out).mono ?_
        rintro e w2 ⟨v2, k2, rfl, i2, x⟩
        have X2 := Lib.hid (HX.out.trans x)
        obtain ⟨a2, n2, k2', rfl, hn2, rfl, hi2⟩ := i2.out
        have I2 := Lib.hid hi2
        have Hn2 := Lib.hid hn2
        clear i2 b1 hi2 hn2
        have b2 := HBx.out _ X2.out
        clear x
        go_wp2_with fail
        refine (HLd.out _ (XW.out.trans X2.out)).mono ?_
        rintro e w3 ⟨v3, k3, rfl, i3, x⟩
        have X3 := Lib.hid (X2.out.trans x)
        have I3 := Lib.hid (I2.out.ext x)
        clear i3 b2
        have b3 := HBx.out _ X3.out
        have c3 := HC0.out _ X3.out
        clear x
        go_wp2_with fail
        refine ((HN0.out _ X3.out)).mono ?_
        rintro e w4 ⟨rfl, x⟩
        have X4 := Lib.hid (X3.out.trans x)
        have X34 := Lib.hid x
        clear b3 c3
        clear x
        have hstart : (w4.alloc (.cells #[.int .i64 (rneed (sw rows 0))] 3)).ownsRow w4.heap.size 3 1 (.slice (some ⟨w4.heap.size, 0, none⟩) 1 1) 1 (((wds rows).take 1).map (Value.int .i64)) := by
          rw [HW0.out]
          exact own_of_row (World.rowIs_alloc w4 #[.int .i64 (rneed (sw rows 0))] 3 (fun _ => .int .i64 (rneed (sw rows 0))) (fun i hi => by simp at hi; subst hi; rfl)) (m := 1) (Nat.le_refl _) (by unfold maxLen; simp)
        have HSt := Lib.hid hstart
        clear hstart
        go_wp2
        go_loopw [9, 10] (fun l i wr => ∃ k : Nat, k ≤ n ∧ i = .int .i64 k ∧ Hid (wr.ownsRow w4.heap.size 3 1 l (k + 1) (((wds rows).take (k + 1)).map (Value.int .i64)) ∧ Ext w4 wr)) (fun _ i _ => n - (intOf i).toNat)
        case atStart => exact ⟨0, Nat.zero_le _, rfl, Lib.hid ⟨HSt.out, (Ext.refl w4).alloc _⟩⟩
        case round =>
          obtain ⟨k, hk, rfl, H⟩ := hrel
          have b5 := HBx.out _ (X4.out.trans H.out.2)
          by_cases hlt : k < n
          · obtain ⟨b', o', a', m', d', hbo, hck, hrk⟩ := HA.out k hlt
            obtain ⟨rfl, rfl⟩ : b = b' ∧ o = o' := by simpa using hbo
            have hxx := XW.out.trans (X4.out.trans H.out.2)
            replace hck := hxx.cell hck
            have HMc := Lib.hid (HMk.out k hlt _ _ _ (hrk.ext hxx))
            have hwk := HWS.out k hlt
            obtain ⟨Mk, hMk⟩ : ∃ Mk, Mk = rmake (sw rows k) := ⟨_, rfl⟩
            rw [← hMk] at HMc hwk
            have HWk := Lib.hid hwk
            clear hbo hrk hxx hwk hMk
            go_wp2_with fail
            refine (HMc.out).mono ?_
            rintro e w5 ⟨rfl, x⟩
            have X5 := Lib.hid (H.out.2.trans x)
            have H5 := Lib.hid (own_ext H.out.1 x)
            clear b5 hck HMc
            clear x
            have hsz := X5.out.size
            go_wp2_with (at_builtin; refine app_own eiInt rfl _ _ rfl w4.heap.size _ (k + 1) _ rfl (H5.out.alloc _) _ _ _ rfl (VS.one _ _ _) (one1 _) ?d1 ?d2 ?d3 ?_)
            any_goals (first | omega | (simp; done) | (simp only [List.length_cons, List.length_nil]; omega) | (simp; omega))
            intro v' w' hown hbel
            have HO := Lib.hid (And.intro hown hbel)
            clear hown hbel
            go_wp2
            go_roundw
            case rel => exact ⟨k + 1, by omega, by go_num, Lib.hid ⟨by rw [HWk.out, List.map_append, List.map_take]; exact HO.out.1, Below.trans (X5.out.alloc _) HO.out.2⟩⟩
            case measure => simp [intOf]; omega
          · obtain rfl : n = k := by omega
            have hiv := (IV.of_own H.out.1).1
            rw [HWE.out] at hiv
            obtain ⟨la, ln, lc, hlf, hln⟩ := hiv.form
            subst hlf
            obtain ⟨cI, hI⟩ := hiv.is
            obtain ⟨w6, hw6⟩ : ∃ w6 : World, w6 = wr := ⟨_, rfl⟩
            rw [← hw6] at b5 hI ⊢
            have X6 := Lib.hid (show Ext W w6 by rw [hw6]; exact X4.out.trans H.out.2)
            have X36 := Lib.hid (show Ext w3 w6 by rw [hw6]; exact X34.out.trans H.out.2)
            have c6 := HC0.out _ X6.out
            have y6 := HY.out _ X6.out
            have HI := Lib.hid hI
            have HCk := Lib.hid (fun w' (x : Ext w6 w') => RCheck_calls _ _ _ w' (hI.ext x))
            clear hiv hln hI hw6 H hlt hk
            have q0_1 := b5; have q0_2 := c6; have q0_3 := y6
            clear b5 c6 y6
            by_cases ho : oerr (wds rows) = 0
            · have hck := HCk.out
              rw [ho] at hck
              have hct := fun w' (x : Ext w6 w') => HCh.out w' _ _ ho (HI.out.ext x)
              have hsa := fun w' (x : Ext w6 w') => same_calls _ _ _ _ _ _ w' (I3.out.ext (X36.out.trans x)) (HI.out.ext x)
              have h7 := H7b.out ho; have h0 := H0.out ho
              obtain ⟨C, hC⟩ : ∃ C, C = chartOf (wds rows) Y := ⟨_, rfl⟩
              rw [← hC] at hct h7 h0
              have hdf := fun w' v2 c2 (x : Ext w6 w') (r : RR w' v2 c2 C) => HDf.out w' v2 c2 C (XW.out.trans (X6.out.trans x)) r
              have HCk2 := Lib.hid hck; have HCt := Lib.hid hct; have HSa := Lib.hid hsa
              clear hck hct hC ho HCk HCh hsa
              by_cases hd : rows = C
              · rw [show dif rows C = 0 from if_pos hd] at hdf
                have HDf2 := Lib.hid hdf
                have hOE := h0 hd
                have hRL := HRL.out
                have hRY := HRY.out
                rw [if_pos hOE] at hRL hRY
                subst hOE; subst hRL; subst hRY
                have hsa := HSa.out
                rw [show sm (wds rows) (wds rows) = 0 from if_pos rfl] at hsa
                have HSa2 := Lib.hid hsa
                clear hdf h7 h0 hd hsa HSa
                go_wp2
                go_region_held3 (fun w' => w'.cell? ⟨w.heap.size, 0, Option.none⟩ = some (.slice (some ⟨b, o, Option.none⟩) n c) ∧ w'.cell? ⟨b, o, Option.none⟩ = some (.slice (some ⟨b2, o2, Option.none⟩) m d) ∧ w'.cell? ⟨b2, o2 + 1, Option.none⟩ = some (.int .u8 RY)) (first | exact ⟨q0_1, q0_2, q0_3⟩ | exact ⟨q1_1, q1_2, q1_3⟩ | exact ⟨q2_1, q2_2, q2_3⟩ | exact ⟨q3_1, q3_2, q3_3⟩ | go_keep) (first
                  | (go_at_call 11; (refine (HCk2.out _ ?_).mono ?_); (focus (repeat (first | (with_reducible exact Ext.refl _) | (with_reducible apply Ext.drew) | (with_reducible apply Ext.drewN)))); intro e wa hh; obtain ⟨rfl, x⟩ := hh; have Xa : Hid (Ext w6 wa) := Lib.hid (Ext.trans (by (repeat (first | (with_reducible exact Ext.refl _) | (with_reducible apply Ext.drew) | (with_reducible apply Ext.drewN)))) x); have q1_1 := Xa.out.cell q0_1; have q1_2 := Xa.out.cell q0_2; have q1_3 := Xa.out.cell q0_3; clear x)
                  | (go_at_call 21; (refine (HCt.out _ ?_).mono ?_); (focus (refine Ext.trans Xa.out ?_; (repeat (first | (with_reducible exact Ext.refl _) | (with_reducible apply Ext.drew) | (with_reducible apply Ext.drewN))))); intro e wb hh; obtain ⟨vb, cb, rfl, rb, x⟩ := hh; have Xb : Hid (Ext w6 wb) := Lib.hid (Ext.trans Xa.out (Ext.trans (by (repeat (first | (with_reducible exact Ext.refl _) | (with_reducible apply Ext.drew) | (with_reducible apply Ext.drewN)))) x)); have q2_1 := Xb.out.cell q0_1; have q2_2 := Xb.out.cell q0_2; have q2_3 := Xb.out.cell q0_3; obtain ⟨ab, nb, rfl, qb⟩ := rb.open; have Rb := Lib.hid rb; clear rb qb; clear x)
                  | (go_at_call 25; (refine (HDf2.out _ _ _ ?_ (Rb.out.ext ?_)).mono ?_); (focus (refine Ext.trans Xb.out ?_; (repeat (first | (with_reducible exact Ext.refl _) | (with_reducible apply Ext.drew) | (with_reducible apply Ext.drewN))))); (focus (repeat (first | (with_reducible exact Ext.refl _) | (with_reducible apply Ext.drew) | (with_reducible apply Ext.drewN)))); intro e wd hh; obtain ⟨rfl, x⟩ := hh; have Xd : Hid (Ext w6 wd) := Lib.hid (Ext.trans Xb.out (Ext.trans (by (repeat (first | (with_reducible exact Ext.refl _) | (with_reducible apply Ext.drew) | (with_reducible apply Ext.drewN)))) x)); have q3_1 := Xd.out.cell q0_1; have q3_2 := Xd.out.cell q0_2; have q3_3 := Xd.out.cell q0_3; clear x))
                have X7 := Lib.hid (X6.out.trans Xd.out)
                have p1 := HBx.out _ X7.out; have p2 := HC0.out _ X7.out; have p3 := HY.out _ X7.out
                clear q0_1 q0_2 q0_3 q1_1 q1_2 q1_3 q2_1 q2_2 q2_3 q3_1 q3_2 q3_3
                go_wp2_with fail
                refine (HSa2.out _ Xd.out).mono ?_
                rintro e w8 ⟨rfl, x⟩
                have X8 := Lib.hid (X7.out.trans x)
                clear p1 p2 p3
                have p1 := HBx.out _ X8.out
                have p2 := HC0.out _ X8.out
                have p3 := HY.out _ X8.out
                clear x
                go_wp2_with fail
                refine (HLv.out _ (XW.out.trans X8.out)).mono ?_
                rintro e w9 ⟨rfl, x⟩
                have X9 := Lib.hid ((XW.out.trans X8.out).trans x)
                clear x
                go_wp2
                go_ret
                exact ⟨rfl, X9.out⟩
              · rw [show dif rows C = 1 from if_neg hd] at hdf
                have HDf2 := Lib.hid hdf
                have hOE := h7 hd
                have hRL := HRL.out
                have hRY := HRY.out
                rw [if_neg (by rw [hOE]; decide)] at hRL hRY
                subst hOE; subst hRL; subst hRY
                have hn2 := Hn2.out
                obtain rfl : n2 = 0 := hn2
                clear hdf h7 h0 hd HSa
                go_wp2
                go_region_held3 (fun w' => w'.cell? ⟨w.heap.size, 0, Option.none⟩ = some (.slice (some ⟨b, o, Option.none⟩) n c) ∧ w'.cell? ⟨b, o, Option.none⟩ = some (.slice (some ⟨b2, o2, Option.none⟩) m d) ∧ w'.cell? ⟨b2, o2 + 1, Option.none⟩ = some (.int .u8 Y)) (first | exact ⟨q0_1, q0_2, q0_3⟩ | exact ⟨q1_1, q1_2, q1_3⟩ | exact ⟨q2_1, q2_2, q2_3⟩ | exact ⟨q3_1, q3_2, q3_3⟩ | go_keep) (first
                  | (go_at_call 11; (refine (HCk2.out _ ?_).mono ?_); (focus (repeat (first | (with_reducible exact Ext.refl _) | (with_reducible apply Ext.drew) | (with_reducible apply Ext.drewN)))); intro e wa hh; obtain ⟨rfl, x⟩ := hh; have Xa : Hid (Ext w6 wa) := Lib.hid (Ext.trans (by (repeat (first | (with_reducible exact Ext.refl _) | (with_reducible apply Ext.drew) | (with_reducible apply Ext.drewN)))) x); have q1_1 := Xa.out.cell q0_1; have q1_2 := Xa.out.cell q0_2; have q1_3 := Xa.out.cell q0_3; clear x)
                  | (go_at_call 21; (refine (HCt.out _ ?_).mono ?_); (focus (refine Ext.trans Xa.out ?_; (repeat (first | (with_reducible exact Ext.refl _) | (with_reducible apply Ext.drew) | (with_reducible apply Ext.drewN))))); intro e wb hh; obtain ⟨vb, cb, rfl, rb, x⟩ := hh; have Xb : Hid (Ext w6 wb) := Lib.hid (Ext.trans Xa.out (Ext.trans (by (repeat (first | (with_reducible exact Ext.refl _) | (with_reducible apply Ext.drew) | (with_reducible apply Ext.drewN)))) x)); have q2_1 := Xb.out.cell q0_1; have q2_2 := Xb.out.cell q0_2; have q2_3 := Xb.out.cell q0_3; obtain ⟨ab, nb, rfl, qb⟩ := rb.open; have Rb := Lib.hid rb; clear rb qb; clear x)
                  | (go_at_call 25; (refine (HDf2.out _ _ _ ?_ (Rb.out.ext ?_)).mono ?_); (focus (refine Ext.trans Xb.out ?_; (repeat (first | (with_reducible exact Ext.refl _) | (with_reducible apply Ext.drew) | (with_reducible apply Ext.drewN))))); (focus (repeat (first | (with_reducible exact Ext.refl _) | (with_reducible apply Ext.drew) | (with_reducible apply Ext.drewN)))); intro e wd hh; obtain ⟨rfl, x⟩ := hh; have Xd : Hid (Ext w6 wd) := Lib.hid (Ext.trans Xb.out (Ext.trans (by (repeat (first | (with_reducible exact Ext.refl _) | (with_reducible apply Ext.drew) | (with_reducible apply Ext.drewN)))) x)); have q3_1 := Xd.out.cell q0_1; have q3_2 := Xd.out.cell q0_2; have q3_3 := Xd.out.cell q0_3; clear x))
                have X7 := Lib.hid (X6.out.trans Xd.out)
                clear q0_1 q0_2 q0_3 q1_1 q1_2 q1_3 q2_1 q2_2 q2_3 q3_1 q3_2 q3_3
                go_wp2_with fail
                refine (HLv.out _ (XW.out.trans X7.out)).mono ?_
                rintro e w9 ⟨rfl, x⟩
                have X9 := Lib.hid ((XW.out.trans X7.out).trans x)
                clear x
                go_wp2
                go_ret
                exact ⟨rfl, X9.out⟩
            · have hOE := H7a.out ho
              have hck := HCk.out
              have ho' : (oerr (wds rows) != 0) = true := by rw [bne, beq_eq_false_iff_ne.2 ho]; rfl
              generalize oerr (wds rows) = O at hck ho'
              have hRL := HRL.out
              have hRY := HRY.out
              rw [if_neg (by rw [hOE]; decide)] at hRL hRY
              subst hOE; subst hRL; subst hRY
              have hn2 := Hn2.out
              obtain rfl : n2 = 0 := hn2
              clear ho HCk
              have HCk2 := Lib.hid hck
              clear hck
              go_wp2
              refine wp_region_held_drew (S := fun w' => True) (by kernel_rfl) ?_ (fun hHeld => ?_)
              · exact trivial
              refine wpAnyH_take (i := 0) (v := ?va315_0) rfl (by kernel_rfl) (by kernel_rfl) (by kernel_rfl) (fun _ _ _ h => h) (Or.inl ⟨by rfl, fun w hSw => ?ti315_0⟩) (by assumption) ?rest315_0
              case ti315_0 => ((try dsimp only at hSw); go_simp; (first | done | with_reducible rfl))
              try simp only [Act.put, List.getElem_toArray, List.getElem_cons_zero, List.getElem_cons_succ, List.setIfInBounds_toArray, List.set_cons_zero, List.set_cons_succ]
              refine wpAnyH_ready (rs := [1]) (by kernel_rfl) (by simp) ?_
              refine AllReadyH.cons rfl (fun K hK => ?_) AllReadyH.nil
              go_simp
              refine (HCk2.out _ ?_).mono ?_
              · (repeat (first | (with_reducible exact Ext.refl _) | (with_reducible apply Ext.drew) | (with_reducible apply Ext.drewN)))
              intro e wa hh
              obtain ⟨rfl, x⟩ := hh
              have Xa : Hid (Ext w6 wa) := Lib.hid (Ext.trans (by (repeat (first | (with_reducible exact Ext.refl _) | (with_reducible apply Ext.drew) | (with_reducible apply Ext.drewN)))) x)
              go_simp
              refine hK.out _ _ ?_ (fun hHeld => ?_)
              · exact trivial
              clear hK K x
              try simp only [Act.put, List.getElem_toArray, List.getElem_cons_zero, List.getElem_cons_succ, List.setIfInBounds_toArray, List.set_cons_zero, List.set_cons_succ]
              refine wpAnyH_take (i := 2) (v := ?va331_2) rfl (by kernel_rfl) (by kernel_rfl) (by kernel_rfl) (fun _ _ _ h => h) (Or.inl ⟨by rfl, fun w hSw => ?ti331_2⟩) (by assumption) ?rest331_2
              case ti331_2 => ((try dsimp only at hSw); go_simp; (first | done | with_reducible rfl))
              try simp only [Act.put, List.getElem_toArray, List.getElem_cons_zero, List.getElem_cons_succ, List.setIfInBounds_toArray, List.set_cons_zero, List.set_cons_succ]
              refine wpAnyH_take (i := 3) (v := ?va334_3) rfl (by kernel_rfl) (by kernel_rfl) (by kernel_rfl) (fun _ _ _ h => h) (Or.inl ⟨by rfl, fun w hSw => ?ti334_3⟩) (by assumption) ?rest334_3
              case ti334_3 => ((try dsimp only at hSw); go_simp; (first | done | with_reducible rfl))
              try simp only [Act.put, List.getElem_toArray, List.getElem_cons_zero, List.getElem_cons_succ, List.setIfInBounds_toArray, List.set_cons_zero, List.set_cons_succ]
              refine wpAnyH_take (i := 4) (v := undef) rfl (by kernel_rfl) (by kernel_rfl) (by kernel_rfl) (fun _ _ _ h => h) (Or.inr ⟨by rfl, rfl⟩) (by assumption) ?_
              try simp only [Act.put, List.getElem_toArray, List.getElem_cons_zero, List.getElem_cons_succ, List.setIfInBounds_toArray, List.set_cons_zero, List.set_cons_succ]
              refine wpAnyH_take (i := 5) (v := undef) rfl (by kernel_rfl) (by kernel_rfl) (by kernel_rfl) (fun _ _ _ h => h) (Or.inr ⟨by rfl, rfl⟩) (by assumption) ?_
              try simp only [Act.put, List.getElem_toArray, List.getElem_cons_zero, List.getElem_cons_succ, List.setIfInBounds_toArray, List.set_cons_zero, List.set_cons_succ]
              refine wpAnyH_take (i := 6) (v := undef) rfl (by kernel_rfl) (by kernel_rfl) (by kernel_rfl) (fun _ _ _ h => h) (Or.inr ⟨by rfl, rfl⟩) (by assumption) ?_
              try simp only [Act.put, List.getElem_toArray, List.getElem_cons_zero, List.getElem_cons_succ, List.setIfInBounds_toArray, List.set_cons_zero, List.set_cons_succ]
              refine wpAnyH_take (i := 7) (v := undef) rfl (by kernel_rfl) (by kernel_rfl) (by kernel_rfl) (fun _ _ _ h => h) (Or.inr ⟨by rfl, rfl⟩) (by assumption) ?_
              try simp only [Act.put, List.getElem_toArray, List.getElem_cons_zero, List.getElem_cons_succ, List.setIfInBounds_toArray, List.set_cons_zero, List.set_cons_succ]
              refine wpAnyH_take (i := 8) (v := undef) rfl (by kernel_rfl) (by kernel_rfl) (by kernel_rfl) (fun _ _ _ h => h) (Or.inr ⟨by rfl, rfl⟩) (by assumption) ?_
              try simp only [Act.put, List.getElem_toArray, List.getElem_cons_zero, List.getElem_cons_succ, List.setIfInBounds_toArray, List.set_cons_zero, List.set_cons_succ]
              refine wpAnyH_take (i := 9) (v := undef) rfl (by kernel_rfl) (by kernel_rfl) (by kernel_rfl) (fun _ _ _ h => h) (Or.inr ⟨by rfl, rfl⟩) (by assumption) ?_
              try simp only [Act.put, List.getElem_toArray, List.getElem_cons_zero, List.getElem_cons_succ, List.setIfInBounds_toArray, List.set_cons_zero, List.set_cons_succ]
              refine wpAnyH_take (i := 10) (v := undef) rfl (by kernel_rfl) (by kernel_rfl) (by kernel_rfl) (fun _ _ _ h => h) (Or.inr ⟨by rfl, rfl⟩) (by assumption) ?_
              try simp only [Act.put, List.getElem_toArray, List.getElem_cons_zero, List.getElem_cons_succ, List.setIfInBounds_toArray, List.set_cons_zero, List.set_cons_succ]
              refine wpAnyH_take (i := 11) (v := undef) rfl (by kernel_rfl) (by kernel_rfl) (by kernel_rfl) (fun _ _ _ h => h) (Or.inr ⟨by rfl, rfl⟩) (by assumption) ?_
              try simp only [Act.put, List.getElem_toArray, List.getElem_cons_zero, List.getElem_cons_succ, List.setIfInBounds_toArray, List.set_cons_zero, List.set_cons_succ]
              refine wpAnyH_take (i := 12) (v := undef) rfl (by kernel_rfl) (by kernel_rfl) (by kernel_rfl) (fun _ _ _ h => h) (Or.inr ⟨by rfl, rfl⟩) (by assumption) ?_
              try simp only [Act.put, List.getElem_toArray, List.getElem_cons_zero, List.getElem_cons_succ, List.setIfInBounds_toArray, List.set_cons_zero, List.set_cons_succ]
              refine wpAnyH_take (i := 13) (v := undef) rfl (by kernel_rfl) (by kernel_rfl) (by kernel_rfl) (fun _ _ _ h => h) (Or.inr ⟨by rfl, rfl⟩) (by assumption) ?_
              try simp only [Act.put, List.getElem_toArray, List.getElem_cons_zero, List.getElem_cons_succ, List.setIfInBounds_toArray, List.set_cons_zero, List.set_cons_succ]
              refine wpAnyH_take (i := 14) (v := undef) rfl (by kernel_rfl) (by kernel_rfl) (by kernel_rfl) (fun _ _ _ h => h) (Or.inr ⟨by rfl, rfl⟩) (by assumption) ?_
              try simp only [Act.put, List.getElem_toArray, List.getElem_cons_zero, List.getElem_cons_succ, List.setIfInBounds_toArray, List.set_cons_zero, List.set_cons_succ]
              refine wpAnyH_take (i := 15) (v := undef) rfl (by kernel_rfl) (by kernel_rfl) (by kernel_rfl) (fun _ _ _ h => h) (Or.inr ⟨by rfl, rfl⟩) (by assumption) ?_
              try simp only [Act.put, List.getElem_toArray, List.getElem_cons_zero, List.getElem_cons_succ, List.setIfInBounds_toArray, List.set_cons_zero, List.set_cons_succ]
              refine wpAnyH_take (i := 16) (v := ?va361_16) rfl (by kernel_rfl) (by kernel_rfl) (by kernel_rfl) (fun _ _ _ h => h) (Or.inl ⟨by rfl, fun w hSw => ?ti361_16⟩) (by assumption) ?rest361_16
              case ti361_16 => ((try dsimp only at hSw); go_simp; (first | done | with_reducible rfl))
              try simp only [Act.put, List.getElem_toArray, List.getElem_cons_zero, List.getElem_cons_succ, List.setIfInBounds_toArray, List.set_cons_zero, List.set_cons_succ]
              refine wpAnyH_done (by kernel_rfl) ?_ _
              have X7 := Lib.hid (X6.out.trans Xa.out)
              clear q0_1 q0_2 q0_3
              go_wp2_with fail
              refine (HLv.out _ (XW.out.trans X7.out)).mono ?_
              rintro e w9 ⟨rfl, x⟩
              have X9 := Lib.hid ((XW.out.trans X7.out).trans x)
              clear x
              go_wp2
              go_ret
              exact ⟨rfl, X9.out⟩
      · have hob := of_bad hE
        have hof := HOf.out w1 (XW.out.trans HX.out)
        rw [if_neg (by rw [hob]; exact hE), if_neg (by rw [hob]; exact hE), hob] at hof
        generalize cloads rows = CL at *
        obtain ⟨E, LL⟩ := CL
        simp only [] at hE hof HLd
        have hE' : (E == 0) = false := beq_eq_false_iff_ne.2 hE
        have HOf1 := Lib.hid hof
        clear hE hob hof HOf HN HM
        skip
        go_wp2_with fail
        refine (HOf1.out).mono ?_
        rintro e w2 ⟨v2, k2, rfl, i2, x⟩
        have X2 := Lib.hid (HX.out.trans x)
        obtain ⟨a2, n2, k2', rfl, hn2, rfl, hi2⟩ := i2.out
        obtain rfl : n2 = 0 := hn2
        clear i2 b1 hi2
        have b2 := HBx.out _ X2.out
        clear x
        go_wp2_with fail
        refine (HLd.out _ (XW.out.trans X2.out)).mono ?_
        rintro e w3 ⟨v3, k3, rfl, i3, x⟩
        have X3 := Lib.hid (X2.out.trans x)
        clear i3 b2
        clear x
        go_wp2_with fail
        refine (HLv.out _ (XW.out.trans X3.out)).mono ?_
        rintro e w9 ⟨rfl, x⟩
        have X9 := Lib.hid ((XW.out.trans X3.out).trans x)
        clear x
        go_wp2
        go_ret
        exact ⟨rfl, X9.out⟩
end Go.Proofs.YtinijapkipeamaaDoor
/- What a row of numbers that came in reads as. -/
namespace Go.Proofs.YtinijapkipeamaaDoor
set_option linter.unusedVariables false
set_option linter.unusedSimpArgs false
open Go Go.RowKit

/-- A slice of integers that came in: nothing, or a row of cells. -/
def IsRow (k : IntKind) (w : World) (a : Option Addr) (len cap : Nat) (zs : List Int) : Prop :=
  (a = none ∧ len = 0 ∧ cap = 0 ∧ zs = []) ∨
  ∃ x, a = some x ∧ len ≤ cap ∧ cap ≤ maxLen ∧ zs.length = cap ∧ (∀ i, i < zs.length → w.cell? (x.add i) = some (.int k (zs.getD i 0))) ∧ ∀ n ∈ zs, (Lit.int k n).wf = true

theorem cell_spot {w : World} {x : Addr} {v : Value} (h : w.cell? x = some v) : x.spot = none := by
  unfold World.cell? at h
  split at h
  · split at h
    · cases h
    · cases hs : x.spot with
      | none => rfl
      | some s => rename_i hn; rw [hs] at hn; exact absurd rfl hn
  · cases h

theorem IsRow.is {k : IntKind} {w : World} {a : Option Addr} {len cap : Nat} {zs : List Int} (h : IsRow k w a len cap zs) : IS k w (.slice a len cap) cap (zs.take len) := by
  rcases h with ⟨rfl, rfl, rfl, rfl⟩ | ⟨x, rfl, h1, h2, h3, hc, _⟩
  · exact IS.nil k w
  · have hl : (zs.take len).length = len := by rw [List.length_take]; omega
    by_cases h0 : cap = 0
    · obtain rfl : len = 0 := by omega
      refine ⟨some x, by simp, by simp, h2, fun h => (by cases h), fun a ha => ⟨fun h => (by omega), fun j u hj => by simp at hj⟩⟩
    · have hs : x.spot = none := by
        have := hc 0 (by omega)
        rw [show x.add 0 = x from rfl] at this
        exact cell_spot this
      obtain ⟨b, o, s⟩ := x
      have hs' : s = none := hs
      subst hs'
      refine IS.mk hl.symm h1 h2 fun i hi => ?_
      have := hc i (by omega)
      rw [Addr.add_lit] at this
      rw [this, gi_take hi]; rfl

theorem IsRow.all {k : IntKind} {w : World} {a : Option Addr} {len cap : Nat} {zs : List Int} (h : IsRow k w a len cap zs) {n : Int} (hn : n ∈ zs.take len) : (Lit.int k n).wf = true := by
  rcases h with ⟨rfl, rfl, rfl, rfl⟩ | ⟨x, rfl, h1, h2, h3, hc, hw⟩
  · simp at hn
  · exact hw n (List.mem_of_mem_take hn)
theorem wf8 {n : Int} (h : (Lit.int .u8 n).wf = true) : 0 ≤ n ∧ n ≤ 255 := by
  unfold Lit.wf at h
  simp only [Bool.and_eq_true, decide_eq_true_eq] at h
  exact h
theorem wf64 {n : Int} (h : (Lit.int .i64 n).wf = true) : -9223372036854775808 ≤ n ∧ n ≤ 9223372036854775807 := by
  unfold Lit.wf at h
  simp only [Bool.and_eq_true, decide_eq_true_eq] at h
  exact h
theorem IsRow.bd {w : World} {a : Option Addr} {len cap : Nat} {zs : List Int} (h : IsRow .u8 w a len cap zs) : ∀ i, i < (zs.take len).length → 0 ≤ gi (zs.take len) i ∧ gi (zs.take len) i ≤ 255 :=
  fun _ hi => wf8 (h.all (gi_mem hi))
theorem IsRow.bd64 {w : World} {a : Option Addr} {len cap : Nat} {zs : List Int} (h : IsRow .i64 w a len cap zs) : ∀ i, i < (zs.take len).length → -9223372036854775808 ≤ gi (zs.take len) i ∧ gi (zs.take len) i ≤ 9223372036854775807 :=
  fun _ hi => wf64 (h.all (gi_mem hi))

/-! ### What the sizes of the arguments give -/
theorem weights_at {H : Type} {P : Program} : ∀ {ts : List TypeId} {ds : List (DataW H)}, (DataW.weightsEach P ts ds).all (· ≤ reachBytes) = true → ∀ {i : Nat} {t : TypeId} {d : DataW H}, ts[i]? = some t → ds[i]? = some d → (DataW.weights P t d).all (· ≤ reachBytes) = true
  | [], _, _, i, t, d, ht, _ => by simp at ht
  | _ :: _, [], _, i, t, d, _, hd => by simp at hd
  | t0 :: ts, d0 :: ds, h, i, t, d, ht, hd => by
    rw [DataW.weightsEach, List.all_append, Bool.and_eq_true] at h
    cases i with
    | zero =>
      obtain rfl : t0 = t := by simpa using ht
      obtain rfl : d0 = d := by simpa using hd
      exact h.1
    | succ i => exact weights_at h.2 (i := i) (by simpa using ht) (by simpa using hd)
theorem weight_slice {H : Type} {P : Program} {t e : TypeId} (ht : P.underlying t = some (.slice e)) {l r : List (DataW H)} (h : (DataW.weights P t (.slice l r)).all (· ≤ reachBytes) = true) : (l.length + r.length) * P.bytesOf e ≤ 140737488351232 := by
  rw [DataW.weights, ht] at h
  simp only [List.all_cons, Bool.and_eq_true, decide_eq_true_eq] at h
  exact h.1
theorem weight_row {H : Type} {P : Program} {t e : TypeId} (ht : P.underlying t = some (.slice e)) {k : IntKind} {zs : List Int} {n : Nat} {d : DataW H} (hd : d = .slice (Go.ChangeShapes.lits k (zs.take n)) (Go.ChangeShapes.lits k (zs.drop n))) (h : (DataW.weights P t d).all (· ≤ reachBytes) = true) : zs.length * P.bytesOf e ≤ 140737488351232 := by
  subst hd
  have := weight_slice ht h
  have e : (Go.ChangeShapes.lits (H := H) k (zs.take n)).length + (Go.ChangeShapes.lits (H := H) k (zs.drop n)).length = zs.length := by
    simp [Go.ChangeShapes.lits]; omega
  rwa [e] at this

variable {H : Type} {enc : TypeId × Value → H}
theorem returnsInHanded_sized {a : Assume} {C : Checked} {os : Os} {f : FuncId} {fn : Func} {s : ChangeSpec} {conds : List PathCond} {apart fresh handsOn again : Bool}
    (own : ownKnob C.prog.godebug = none) (started : os.Started) (noInit : C.prog.inits.idxOf? f = none) (hfn : C.prog.funcs[f]? = some fn)
    (witness : ∃ (w : World) (tape : Tape) (i : Input), w.os = os ∧ (w.forCall tape i).Shaped C.prog ∧ i.vars = [] ∧ Input.okWide C.prog (w.forCall tape i) .any w.heap.size f i ∧
      s.pre6 enc C.prog fn conds apart (w.forCall tape i).memory i.args ∧ a.holds C.prog (lone (Frame.enter C.prog f i.args .normal) [] (w.forCall tape i)))
    (contract : ∀ (W : World) (base : Nat) (args : Array Value) (ds gs : List (DataW H)) (before : List MemPlace),
      (∀ (j : Nat) t v, fn.params[j]? = some t → args[j]? = some v → Value.okWide C.prog W .any base t v) →
      DataW.Whole enc C.prog fn.params.toList s.vars apart W args.toList ds gs before →
      conds.all (PathCond.test C.prog ⟨fn.params.toList, ds, s.plain.varTypes C.prog, gs⟩) = true →
      (DataW.weightsEach C.prog (fn.params.toList ++ s.plain.varTypes C.prog) (ds ++ gs)).all (· ≤ reachBytes) = true →
      a.holds C.prog (lone (Frame.enter C.prog f args .normal) [] W) →
      Calls C.prog f args W fun e W' => ∃ v, e = .returned v ∧ s.post enc C.prog fn apart fresh handsOn again W args v W') :
    ReturnsInHanded a C os f .any (s.pre6 enc C.prog fn conds apart) (s.post enc C.prog fn apart fresh handsOn again) := by
  refine returnsInHanded_of_calls own started noInit witness ?_
  intro w tape i _ _ _ hok hpre hholds
  obtain ⟨_, _, _, fn', hfn', _, _, _, _, hval⟩ := hok
  have e : fn' = fn := Option.some.inj (hfn'.symm.trans hfn)
  subst e
  obtain ⟨⟨ds, gs, before, hw, hc⟩, hz⟩ := hpre
  have hw' := DataW.Whole.of_heap (w' := w.forCall tape i) (by rfl) hw
  refine (contract (w.forCall tape i) w.heap.size i.args ds gs before hval hw' hc (hz.weights hw) hholds).mono fun e W' ⟨v, he, hp⟩ => ?_
  subst he
  exact ChangeSpec.post_blind hp
/-- .. where the walk wants the shape of the world, too. -/
theorem returnsInHanded_and_open {a : Assume} {C : Checked} {os : Os} {f : FuncId} {fn : Func} {s : ChangeSpec} {conds : List PathCond} {apart fresh handsOn again : Bool} {X : World → Array Value → Prop}
    (hX : ∀ (w w' : World) (args : Array Value), w.heap = w'.heap → X w args → X w' args)
    (own : ownKnob C.prog.godebug = none) (started : os.Started) (noInit : C.prog.inits.idxOf? f = none) (hfn : C.prog.funcs[f]? = some fn)
    (witness : ∃ (w : World) (tape : Tape) (i : Input), w.os = os ∧ (w.forCall tape i).Shaped C.prog ∧ i.vars = [] ∧ Input.okWide C.prog (w.forCall tape i) .any w.heap.size f i ∧
      ((s.pre enc C.prog fn conds apart (w.forCall tape i).memory i.args ∧ X (w.forCall tape i).memory i.args) ∧ sizedMet enc C.prog fn (OpenSpec.ofChange s) apart (w.forCall tape i).memory i.args) ∧ a.holds C.prog (lone (Frame.enter C.prog f i.args .normal) [] (w.forCall tape i)))
    (contract : ∀ (W : World) (base : Nat) (args : Array Value) (ds gs : List (DataW H)) (before : List MemPlace), W.ShapedOpen C.prog →
      (∀ (j : Nat) t v, fn.params[j]? = some t → args[j]? = some v → Value.okWide C.prog W .any base t v) →
      DataW.Whole enc C.prog fn.params.toList s.vars apart W args.toList ds gs before →
      conds.all (PathCond.test C.prog ⟨fn.params.toList, ds, s.plain.varTypes C.prog, gs⟩) = true →
      (DataW.weightsEach C.prog (fn.params.toList ++ s.plain.varTypes C.prog) (ds ++ gs)).all (· ≤ reachBytes) = true → X W args →
      a.holds C.prog (lone (Frame.enter C.prog f args .normal) [] W) →
      Calls C.prog f args W fun e W' => ∃ v, e = .returned v ∧ s.post enc C.prog fn apart fresh handsOn again W args v W') :
    ReturnsInHanded a C os f .any (fun w args => (s.pre enc C.prog fn conds apart w args ∧ X w args) ∧ sizedMet enc C.prog fn (OpenSpec.ofChange s) apart w args) (s.post enc C.prog fn apart fresh handsOn again) := by
  refine returnsInHanded_of_calls own started noInit witness ?_
  intro w tape i _ hso _ hok hpre hholds
  obtain ⟨_, _, _, fn', hfn', _, _, _, _, hval⟩ := hok
  have e : fn' = fn := Option.some.inj (hfn'.symm.trans hfn)
  subst e
  obtain ⟨⟨⟨ds, gs, before, hw, hc⟩, hx⟩, hz⟩ := hpre
  have hw' := DataW.Whole.of_heap (w' := w.forCall tape i) (by rfl) hw
  refine (contract (w.forCall tape i) w.heap.size i.args ds gs before hso hval hw' hc (hz.weights hw) (hX _ _ _ (by rfl) hx) hholds).mono fun e W' ⟨v, he, hp⟩ => ?_
  subst he
  exact ChangeSpec.post_blind hp
end Go.Proofs.YtinijapkipeamaaDoor
/- What the listed variable gives: the table of the symbols. -/
namespace Go.Proofs.YtinijapkipeamaaDoor
set_option linter.unusedVariables false
set_option linter.unusedSimpArgs false
set_option maxRecDepth 8000
open Go Go.RowKit

theorem sy_of {w : World} {l : List (String × DataW Unit)} (h : laidMet Tryd.prog l w) (hm : ("gansey/stitches.symbols", Rows.laid_gansey_stitches_symbols) ∈ l) : Sy w := by
  obtain ⟨g, t, cs, fuel, p, hg, ht, hv, hd⟩ := Lib.laidMet.reads h hm
  have hgn : g = 0 := by
    have hk : Tryd.prog.globalNamed "gansey/stitches.symbols" = some (0) := by kernel_rfl
    exact Option.some.inj (hg.symm.trans hk)
  obtain ⟨n, e, h1, h2, h3, h4⟩ : ∃ n e, Tryd.prog.underlying t = some (.array n e) ∧ Tryd.prog.underlying e = some (.int .u8) ∧ Tryd.prog.cellsOf e = 1 ∧ Tryd.prog.cellsOf t = n := by
    have hh : ((Tryd.prog.globalNamed "gansey/stitches.symbols").bind fun g => (Tryd.prog.globals[g]?).map (·.type)) = some t := by rw [hg]; exact ht
    have hk : ((Tryd.prog.globalNamed "gansey/stitches.symbols").bind fun g => (Tryd.prog.globals[g]?).map (·.type)) = some (100) := by kernel_rfl
    obtain rfl := Option.some.inj (hk.symm.trans hh)
    exact ⟨8, 5, by kernel_rfl, by kernel_rfl, by kernel_rfl, by kernel_rfl⟩
  have hd' : DataW.trod (fun _ => ()) Tryd.prog w 0 (fun _ => true) false fuel t cs.toList = some (Lib.tabData .u8 symT, p) := by
    rw [hd]; exact congrArg (fun x => some (x, p)) (by kernel_rfl)
  have hcs := Lib.cells_of_tab h1 h2 h3 h4 hd'
  unfold World.var? at hv
  rw [hg, hgn] at hv
  simp only [Option.bind_some] at hv
  intro i hi
  split at hv
  · rename_i cs' _ _ hb
    obtain rfl := Option.some.inj hv
    have hc : ∀ j, cs'[j]? = cs'.toList[j]? := fun j => by rw [Array.getElem?_toList]
    simp only [World.cell?, hb]
    rw [hc, hcs]
    rw [List.getElem?_map, gi_some (show i < symT.length from hi)]
    rfl
  · cases hv
end Go.Proofs.YtinijapkipeamaaDoor
