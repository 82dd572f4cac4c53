/- Texts of this claim in one file: libraries and walks. -/
import Derived.Test.YtinijapkipeamaaDoorMKnown4
import Derived.Test.YtinijapkipeamaaDoorMKnown10
/- The law ShapesOf, walked. -/
namespace Go.Proofs.YtinijapkipeamaaDoor
set_option linter.unusedVariables false
set_option linter.unusedSimpArgs false
set_option maxRecDepth 8000
open Go Go.RowKit

theorem sw_mem' {rows : List (List St)} {i : Nat} (h : i < rows.length) : sw rows i ∈ rows := by rw [sw_of_lt h]; exact List.getElem_mem h
theorem of_bad {rows : List (List St)} (h : (cloads rows).1 ≠ 0) : oferr rows = (cloads rows).1 := by unfold oferr; rw [if_pos h]
theorem y00_bd {rows : List (List St)} (h : (cloads rows).1 = 0) : 1 ≤ y00 rows ∧ y00 rows ≤ 6 := by
  obtain ⟨r1, r2, r3, r4⟩ := cerr_zero (cloads_cerr h)
  have hz := rchk_zero (r3 0 (by omega))
  exact (St.chk_ok (hz.2.2.1 0 hz.2.1)).2.1
theorem of_7a {rows : List (List St)} (h : (cloads rows).1 = 0) (hb : oerr (wds rows) ≠ 0) : oferr rows = 7 := by
  unfold oferr
  rw [if_neg (by omega), if_neg]
  rintro ⟨h1, h2⟩
  unfold cherr at h1
  rw [if_pos hb] at h1
  exact hb h1
theorem of_7b {rows : List (List St)} (h : (cloads rows).1 = 0) (hb : oerr (wds rows) = 0) (hn : rows ≠ chartOf (wds rows) (y00 rows)) : oferr rows = 7 := by
  have hy := y00_bd h
  unfold oferr
  rw [if_neg (by omega), if_neg]
  rintro ⟨h1, h2⟩
  rw [chres_ok hb hy] at h2
  exact hn h2.symm
theorem of_0 {rows : List (List St)} (h : (cloads rows).1 = 0) (hb : oerr (wds rows) = 0) (hn : rows = chartOf (wds rows) (y00 rows)) : oferr rows = 0 := by
  have hy := y00_bd h
  unfold oferr
  rw [if_neg (by omega), if_pos ⟨cherr_ok hb hy, by rw [chres_ok hb hy]; exact hn.symm⟩]

theorem oerr_vals (l : List Int) : oerr l = 0 ∨ oerr l = 1 ∨ oerr l = 3 ∨ oerr l = 14 := by
  unfold oerr jmp
  (repeat' split) <;> omega
set_option maxHeartbeats 8000000 in
theorem ShapesOf_walk (v : Value) (c : Nat) (rows : List (List St)) (w : World) (h : RR w v c rows) (hs : ∀ l ∈ rows, ∀ s ∈ l, St.In s) (hy : Sy w) :
    Calls Tryd.prog 9 #[.agg #[v]] w fun e w' => e = .returned (.bool true) ∧ Ext w w' := by
  have hOf := fun w' (x : Ext w w') => Of_calls v c rows w' (h.ext x) (fun i hi s hs' => (hs _ (sw_mem' hi) s hs').2.1)
  have hLd := fun w' (x : Ext w w') => RCLoads_calls v c rows w' (h.ext x) (fun k hk i hi => by
    have := hs _ (sw_mem' hk) _ (si_mem hi)
    exact ⟨this.1.1, this.2.1.1⟩)
  have hDf := fun w' v2 c2 m (x : Ext w w') (r : RR w' v2 c2 m) => Differ_calls v v2 c c2 rows m w' (h.ext x) r
  have hLv := fun w' (x : Ext w w') => lives_calls w' (hy.ext x)
  obtain ⟨ao, n, rfl, hn, hc, hcm, hat⟩ := h.open
  have hN := fun k (hk : k < n) (hl : (sw rows k).length ≤ 1000000) v c w' (r : RS w' v c (sw rows k)) => RRowNeeds_calls v c (sw rows k) w' r hl (fun i hi => by
    have := hs _ (sw_mem' (by omega)) _ (si_mem hi)
    exact ⟨this.1.1, this.2.1.1⟩)
  have hM := fun k (hk : k < n) (hl : (sw rows k).length ≤ 1000000) v c w' (r : RS w' v c (sw rows k)) => RRowMakes_calls v c (sw rows k) w' r hl (fun i hi => by
    have := hs _ (sw_mem' (by omega)) _ (si_mem hi)
    exact ⟨this.1.1, this.2.1.1⟩)
  unfold maxLen at hcm
  obtain ⟨W, hW⟩ : ∃ W, W = w.alloc (.cells #[.slice ao n c] 26) := ⟨_, rfl⟩
  have xW : Ext w W := by rw [hW]; exact (Ext.refl w).alloc _
  have b0 : W.cell? ⟨w.heap.size, 0, none⟩ = some (.slice ao n c) := by rw [hW, World.cell?_alloc_at (hn := rfl)]; rfl
  have HBx := Lib.hid (fun w' (x : Ext W w') => x.cell b0); have XW := Lib.hid xW
  have HOf := Lib.hid hOf; have HLd := Lib.hid hLd; have HDf := Lib.hid hDf; have HLv := Lib.hid hLv; have HN := Lib.hid hN; have HM := Lib.hid hM; have Hn := Lib.hid hn; have HA := Lib.hid hat
  have HW := Lib.hid hW
  rw [hW] at b0
  clear hOf hLd hDf hLv hN hM hat hn xW h hs hy hW
  by_cases h40 : 40 < n
  · have h40' : (40 : Int) < n := by omega
    clear h40
    go_enter Tryd.func9, Tryd.ntmps9
    go_wp2
    rw [← HW.out]
    go_ret
    exact ⟨rfl, XW.out⟩
  have h40' : ¬ (40 : Int) < n := by omega
  go_enter Tryd.func9, Tryd.ntmps9
  go_wp2
  rw [← HW.out]
  clear b0 HW
  go_loopw [3] (fun i wr => ∃ k : Nat, k ≤ n ∧ i = .int .i64 k ∧ Hid (Ext W wr)) (fun i _ => n - (intOf i).toNat)
  case atStart => exact ⟨0, Nat.zero_le _, rfl, Lib.hid (Ext.refl _)⟩
  case round =>
    obtain ⟨k, hk, rfl, HX⟩ := hrel
    have b1 := HBx.out _ HX.out
    by_cases hlt : k < n
    · obtain ⟨b, o, a, m, d, rfl, hc0, hr0⟩ := HA.out k hlt
      replace hc0 := (XW.out.trans HX.out).cell hc0
      clear hr0
      by_cases hm : 40 < m
      · have hm' : (40 : Int) < m := by omega
        clear hm
        go_wp2
        go_ret
        exact ⟨rfl, XW.out.trans HX.out⟩
      · have hm' : ¬ (40 : Int) < m := by omega
        clear hm
        go_wp2
        go_roundw
        case rel => exact ⟨k + 1, by omega, by go_num, HX⟩
        case measure => simp [intOf]; omega
    · obtain rfl : n = k := by omega
      obtain ⟨w1, hw1⟩ : ∃ w1 : World, w1 = wr := ⟨_, rfl⟩
      rw [← hw1] at HX b1 ⊢
      clear hw1 hlt hk
      by_cases hE : (cloads rows).1 = 0
      · obtain ⟨r1, r2, r3, r4⟩ := cerr_zero (cloads_cerr hE)
        have hz := fun i (hi : i < n) => rchk_zero (r3 i (by have := Hn.out; omega))
        have hn1 : 1 ≤ n := by have := Hn.out; omega
        have hofc : (oerr (wds rows) ≠ 0 → oferr rows = 7) ∧ (oerr (wds rows) = 0 → rows ≠ chartOf (wds rows) (y00 rows) → oferr rows = 7) ∧ (oerr (wds rows) = 0 → rows = chartOf (wds rows) (y00 rows) → oferr rows = 0) := ⟨of_7a hE, of_7b hE, of_0 hE⟩
        have hyb := y00_bd hE
        obtain ⟨b, o, a, m, d, rfl, hc0, hr0⟩ := HA.out 0 (by omega)
        rw [Nat.add_zero] at hc0
        have hm0 := (hz 0 (by omega)).2.1
        obtain ⟨_, _, e1, e2, _, _, e5⟩ := hr0.open
        simp only [Value.slice.injEq] at e1
        obtain ⟨rfl, rfl, _⟩ := e1
        obtain ⟨b2, o2, rfl, h5⟩ := e5 0 (by omega)
        have hyc : w.cell? ⟨b2, o2 + 1, none⟩ = some (.int .u8 (y00 rows)) := by
          have := h5.2.1
          rw [Nat.zero_mul, Nat.add_zero] at this
          exact this
        have hwl : (wds rows).length = n + 1 := by rw [wds_len (by have := Hn.out; omega), Hn.out]
        have hw0 : (wds rows).take 1 = [rneed (sw rows 0)] := by
          rw [take_succ_gi (show 0 < (wds rows).length by omega), wds_zero (by have := Hn.out; omega)]; rfl
        have hwS : ∀ k, k < n → (wds rows).take (k + 1 + 1) = (wds rows).take (k + 1) ++ [rmake (sw rows k)] := fun k hk => by
          rw [take_succ_gi (show k + 1 < (wds rows).length by omega), wds_succ (by have := Hn.out; omega)]
        have hwE : (wds rows).take (n + 1) = wds rows := List.take_of_length_le (by omega)
        have hnd := fun w' (x : Ext W w') => HN.out 0 (by omega) (by have := (hz 0 (by omega)).1; omega) _ _ w' (hr0.ext (XW.out.trans x))
        have hmk := fun k (hk : k < n) => HM.out k hk (by have := (hz k hk).1; omega)
        have hof := HOf.out w1 (XW.out.trans HX.out)
        have hch := fun w' v c (he : oerr (wds rows) = 0) (hi : IS .i64 w' v c (wds rows)) => RChart_calls v c (wds rows) (y00 rows) w' hi he
        rw [hE] at HLd
        generalize y00 rows = Y at *
        generalize oferr rows = OE at *
        obtain ⟨RL, hRL⟩ : ∃ RL, RL = (if OE = 0 then wds rows else []) := ⟨_, rfl⟩
        obtain ⟨RY, hRY⟩ : ∃ RY, RY = (if OE = 0 then Y else 0) := ⟨_, rfl⟩
        rw [← hRL, ← hRY] at hof
        have HRL := Lib.hid hRL; have HRY := Lib.hid hRY
        generalize cloads rows = CL at *
        obtain ⟨hof7, hof7b, hof0⟩ := hofc
        have HY := Lib.hid (fun w' (x : Ext W w') => (XW.out.trans x).cell hyc); have HC0 := Lib.hid (fun w' (x : Ext W w') => (XW.out.trans x).cell hc0)
        have H7a := Lib.hid hof7; have H7b := Lib.hid hof7b; have H0 := Lib.hid hof0; have HW0 := Lib.hid hw0; have HWS := Lib.hid hwS; have HWE := Lib.hid hwE; have HN0 := Lib.hid hnd; have HMk := Lib.hid hmk; have HOf1 := Lib.hid hof; have HYb := Lib.hid hyb; have HCh := Lib.hid hch; have Hm := Lib.hid e2
        have t0 : (0 : Int) < n := by omega
        have t1 : (0 : Int) < m := by omega
        have t0n : 0 < n := by omega
        have t1n : 0 < m := by omega
        clear hRL hRY hof7 hof7b hof0 hw0 hwS hwE hnd hmk hof hyb hch e2 e5 h5 hyc hc0 hr0 r1 r2 r3 r4 hE hwl hm0 hz HOf HN HM
        skip
        go_wp2_with fail
        refine (HOf1.out).mono ?_
        rintro e w2 ⟨v2, k2, rfl, i2, x⟩
        have X2 := Lib.hid (HX.out.trans x)
        obtain ⟨a2, n2, k2', rfl, hn2, rfl, hi2⟩ := i2.out
        have I2 := Lib.hid hi2
        have Hn2 := Lib.hid hn2
        clear i2 b1 hi2 hn2
        have b2 := HBx.out _ X2.out
        clear x
        go_wp2_with fail
        refine (HLd.out _ (XW.out.trans X2.out)).mono ?_
        rintro e w3 ⟨v3, k3, rfl, i3, x⟩
        have X3 := Lib.hid (X2.out.trans x)
        have I3 := Lib.hid (I2.out.ext x)
        clear i3 b2
        have b3 := HBx.out _ X3.out
        have c3 := HC0.out _ X3.out
        clear x
        go_wp2_with fail
        refine ((HN0.out _ X3.out)).mono ?_
        rintro e w4 ⟨rfl, x⟩
        have X4 := Lib.hid (X3.out.trans x)
        have X34 := Lib.hid x
        clear b3 c3
        clear x
        have hstart : (w4.alloc (.cells #[.int .i64 (rneed (sw rows 0))] 3)).ownsRow w4.heap.size 3 1 (.slice (some ⟨w4.heap.size, 0, none⟩) 1 1) 1 (((wds rows).take 1).map (Value.int .i64)) := by
          rw [HW0.out]
          exact own_of_row (World.rowIs_alloc w4 #[.int .i64 (rneed (sw rows 0))] 3 (fun _ => .int .i64 (rneed (sw rows 0))) (fun i hi => by simp at hi; subst hi; rfl)) (m := 1) (Nat.le_refl _) (by unfold maxLen; simp)
        have HSt := Lib.hid hstart
        clear hstart
        go_wp2
        go_loopw [9, 10] (fun l i wr => ∃ k : Nat, k ≤ n ∧ i = .int .i64 k ∧ Hid (wr.ownsRow w4.heap.size 3 1 l (k + 1) (((wds rows).take (k + 1)).map (Value.int .i64)) ∧ Ext w4 wr)) (fun _ i _ => n - (intOf i).toNat)
        case atStart => exact ⟨0, Nat.zero_le _, rfl, Lib.hid ⟨HSt.out, (Ext.refl w4).alloc _⟩⟩
        case round =>
          obtain ⟨k, hk, rfl, H⟩ := hrel
          have b5 := HBx.out _ (X4.out.trans H.out.2)
          by_cases hlt : k < n
          · obtain ⟨b', o', a', m', d', hbo, hck, hrk⟩ := HA.out k hlt
            obtain ⟨rfl, rfl⟩ : b = b' ∧ o = o' := by simpa using hbo
            have hxx := XW.out.trans (X4.out.trans H.out.2)
            replace hck := hxx.cell hck
            have HMc := Lib.hid (HMk.out k hlt _ _ _ (hrk.ext hxx))
            have hwk := HWS.out k hlt
            obtain ⟨Mk, hMk⟩ : ∃ Mk, Mk = rmake (sw rows k) := ⟨_, rfl⟩
            rw [← hMk] at HMc hwk
            have HWk := Lib.hid hwk
            clear hbo hrk hxx hwk hMk
            go_wp2_with fail
            refine (HMc.out).mono ?_
            rintro e w5 ⟨rfl, x⟩
            have X5 := Lib.hid (H.out.2.trans x)
            have H5 := Lib.hid (own_ext H.out.1 x)
            clear b5 hck HMc
            clear x
            have hsz := X5.out.size
            go_wp2_with (at_builtin; refine app_own eiInt rfl _ _ rfl w4.heap.size _ (k + 1) _ rfl (H5.out.alloc _) _ _ _ rfl (VS.one _ _ _) (one1 _) ?d1 ?d2 ?d3 ?_)
            any_goals (first | omega | (simp; done) | (simp only [List.length_cons, List.length_nil]; omega) | (simp; omega))
            intro v' w' hown hbel
            have HO := Lib.hid (And.intro hown hbel)
            clear hown hbel
            go_wp2
            go_roundw
            case rel => exact ⟨k + 1, by omega, by go_num, Lib.hid ⟨by rw [HWk.out, List.map_append, List.map_take]; exact HO.out.1, Below.trans (X5.out.alloc _) HO.out.2⟩⟩
            case measure => simp [intOf]; omega
          · obtain rfl : n = k := by omega
            have hiv := (IV.of_own H.out.1).1
            rw [HWE.out] at hiv
            obtain ⟨la, ln, lc, hlf, hln⟩ := hiv.form
            subst hlf
            obtain ⟨cI, hI⟩ := hiv.is
            obtain ⟨w6, hw6⟩ : ∃ w6 : World, w6 = wr := ⟨_, rfl⟩
            rw [← hw6] at b5 hI ⊢
            have X6 := Lib.hid (show Ext W w6 by rw [hw6]; exact X4.out.trans H.out.2)
            have X36 := Lib.hid (show Ext w3 w6 by rw [hw6]; exact X34.out.trans H.out.2)
            have c6 := HC0.out _ X6.out
            have y6 := HY.out _ X6.out
            have HI := Lib.hid hI
            have HCk := Lib.hid (fun w' (x : Ext w6 w') => RCheck_calls _ _ _ w' (hI.ext x))
            clear hiv hln hI hw6 H hlt hk
            have q0_1 := b5; have q0_2 := c6; have q0_3 := y6
            clear b5 c6 y6
            by_cases ho : oerr (wds rows) = 0
            · have hck := HCk.out
              rw [ho] at hck
              have hct := fun w' (x : Ext w6 w') => HCh.out w' _ _ ho (HI.out.ext x)
              have hsa := fun w' (x : Ext w6 w') => same_calls _ _ _ _ _ _ w' (I3.out.ext (X36.out.trans x)) (HI.out.ext x)
              have h7 := H7b.out ho; have h0 := H0.out ho
              obtain ⟨C, hC⟩ : ∃ C, C = chartOf (wds rows) Y := ⟨_, rfl⟩
              rw [← hC] at hct h7 h0
              have hdf := fun w' v2 c2 (x : Ext w6 w') (r : RR w' v2 c2 C) => HDf.out w' v2 c2 C (XW.out.trans (X6.out.trans x)) r
              have HCk2 := Lib.hid hck; have HCt := Lib.hid hct; have HSa := Lib.hid hsa
              clear hck hct hC ho HCk HCh hsa
              by_cases hd : rows = C
              · rw [show dif rows C = 0 from if_pos hd] at hdf
                have HDf2 := Lib.hid hdf
                have hOE := h0 hd
                have hRL := HRL.out
                have hRY := HRY.out
                rw [if_pos hOE] at hRL hRY
                subst hOE; subst hRL; subst hRY
                have hsa := HSa.out
                rw [show sm (wds rows) (wds rows) = 0 from if_pos rfl] at hsa
                have HSa2 := Lib.hid hsa
                clear hdf h7 h0 hd hsa HSa
                go_wp2
                go_region_held3 (fun w' => w'.cell? ⟨w.heap.size, 0, Option.none⟩ = some (.slice (some ⟨b, o, Option.none⟩) n c) ∧ w'.cell? ⟨b, o, Option.none⟩ = some (.slice (some ⟨b2, o2, Option.none⟩) m d) ∧ w'.cell? ⟨b2, o2 + 1, Option.none⟩ = some (.int .u8 RY)) (first | exact ⟨q0_1, q0_2, q0_3⟩ | exact ⟨q1_1, q1_2, q1_3⟩ | exact ⟨q2_1, q2_2, q2_3⟩ | exact ⟨q3_1, q3_2, q3_3⟩ | go_keep) (first
                  | (go_at_call 11; (refine (HCk2.out _ ?_).mono ?_); (focus (repeat (first | (with_reducible exact Ext.refl _) | (with_reducible apply Ext.drew) | (with_reducible apply Ext.drewN)))); intro e wa hh; obtain ⟨rfl, x⟩ := hh; have Xa : Hid (Ext w6 wa) := Lib.hid (Ext.trans (by (repeat (first | (with_reducible exact Ext.refl _) | (with_reducible apply Ext.drew) | (with_reducible apply Ext.drewN)))) x); have q1_1 := Xa.out.cell q0_1; have q1_2 := Xa.out.cell q0_2; have q1_3 := Xa.out.cell q0_3; clear x)
                  | (go_at_call 21; (refine (HCt.out _ ?_).mono ?_); (focus (refine Ext.trans Xa.out ?_; (repeat (first | (with_reducible exact Ext.refl _) | (with_reducible apply Ext.drew) | (with_reducible apply Ext.drewN))))); intro e wb hh; obtain ⟨vb, cb, rfl, rb, x⟩ := hh; have Xb : Hid (Ext w6 wb) := Lib.hid (Ext.trans Xa.out (Ext.trans (by (repeat (first | (with_reducible exact Ext.refl _) | (with_reducible apply Ext.drew) | (with_reducible apply Ext.drewN)))) x)); have q2_1 := Xb.out.cell q0_1; have q2_2 := Xb.out.cell q0_2; have q2_3 := Xb.out.cell q0_3; obtain ⟨ab, nb, rfl, qb⟩ := rb.open; have Rb := Lib.hid rb; clear rb qb; clear x)
                  | (go_at_call 25; (refine (HDf2.out _ _ _ ?_ (Rb.out.ext ?_)).mono ?_); (focus (refine Ext.trans Xb.out ?_; (repeat (first | (with_reducible exact Ext.refl _) | (with_reducible apply Ext.drew) | (with_reducible apply Ext.drewN))))); (focus (repeat (first | (with_reducible exact Ext.refl _) | (with_reducible apply Ext.drew) | (with_reducible apply Ext.drewN)))); intro e wd hh; obtain ⟨rfl, x⟩ := hh; have Xd : Hid (Ext w6 wd) := Lib.hid (Ext.trans Xb.out (Ext.trans (by (repeat (first | (with_reducible exact Ext.refl _) | (with_reducible apply Ext.drew) | (with_reducible apply Ext.drewN)))) x)); have q3_1 := Xd.out.cell q0_1; have q3_2 := Xd.out.cell q0_2; have q3_3 := Xd.out.cell q0_3; clear x))
                have X7 := Lib.hid (X6.out.trans Xd.out)
                have p1 := HBx.out _ X7.out; have p2 := HC0.out _ X7.out; have p3 := HY.out _ X7.out
                clear q0_1 q0_2 q0_3 q1_1 q1_2 q1_3 q2_1 q2_2 q2_3 q3_1 q3_2 q3_3
                go_wp2_with fail
                refine (HSa2.out _ Xd.out).mono ?_
                rintro e w8 ⟨rfl, x⟩
                have X8 := Lib.hid (X7.out.trans x)
                clear p1 p2 p3
                have p1 := HBx.out _ X8.out
                have p2 := HC0.out _ X8.out
                have p3 := HY.out _ X8.out
                clear x
                go_wp2_with fail
                refine (HLv.out _ (XW.out.trans X8.out)).mono ?_
                rintro e w9 ⟨rfl, x⟩
                have X9 := Lib.hid ((XW.out.trans X8.out).trans x)
                clear x
                go_wp2
                go_ret
                exact ⟨rfl, X9.out⟩
              · rw [show dif rows C = 1 from if_neg hd] at hdf
                have HDf2 := Lib.hid hdf
                have hOE := h7 hd
                have hRL := HRL.out
                have hRY := HRY.out
                rw [if_neg (by rw [hOE]; decide)] at hRL hRY
                subst hOE; subst hRL; subst hRY
                have hn2 := Hn2.out
                obtain rfl : n2 = 0 := hn2
                clear hdf h7 h0 hd HSa
                go_wp2
                go_region_held3 (fun w' => w'.cell? ⟨w.heap.size, 0, Option.none⟩ = some (.slice (some ⟨b, o, Option.none⟩) n c) ∧ w'.cell? ⟨b, o, Option.none⟩ = some (.slice (some ⟨b2, o2, Option.none⟩) m d) ∧ w'.cell? ⟨b2, o2 + 1, Option.none⟩ = some (.int .u8 Y)) (first | exact ⟨q0_1, q0_2, q0_3⟩ | exact ⟨q1_1, q1_2, q1_3⟩ | exact ⟨q2_1, q2_2, q2_3⟩ | exact ⟨q3_1, q3_2, q3_3⟩ | go_keep) (first
                  | (go_at_call 11; (refine (HCk2.out _ ?_).mono ?_); (focus (repeat (first | (with_reducible exact Ext.refl _) | (with_reducible apply Ext.drew) | (with_reducible apply Ext.drewN)))); intro e wa hh; obtain ⟨rfl, x⟩ := hh; have Xa : Hid (Ext w6 wa) := Lib.hid (Ext.trans (by (repeat (first | (with_reducible exact Ext.refl _) | (with_reducible apply Ext.drew) | (with_reducible apply Ext.drewN)))) x); have q1_1 := Xa.out.cell q0_1; have q1_2 := Xa.out.cell q0_2; have q1_3 := Xa.out.cell q0_3; clear x)
                  | (go_at_call 21; (refine (HCt.out _ ?_).mono ?_); (focus (refine Ext.trans Xa.out ?_; (repeat (first | (with_reducible exact Ext.refl _) | (with_reducible apply Ext.drew) | (with_reducible apply Ext.drewN))))); intro e wb hh; obtain ⟨vb, cb, rfl, rb, x⟩ := hh; have Xb : Hid (Ext w6 wb) := Lib.hid (Ext.trans Xa.out (Ext.trans (by (repeat (first | (with_reducible exact Ext.refl _) | (with_reducible apply Ext.drew) | (with_reducible apply Ext.drewN)))) x)); have q2_1 := Xb.out.cell q0_1; have q2_2 := Xb.out.cell q0_2; have q2_3 := Xb.out.cell q0_3; obtain ⟨ab, nb, rfl, qb⟩ := rb.open; have Rb := Lib.hid rb; clear rb qb; clear x)
                  | (go_at_call 25; (refine (HDf2.out _ _ _ ?_ (Rb.out.ext ?_)).mono ?_); (focus (refine Ext.trans Xb.out ?_; (repeat (first | (with_reducible exact Ext.refl _) | (with_reducible apply Ext.drew) | (with_reducible apply Ext.drewN))))); (focus (repeat (first | (with_reducible exact Ext.refl _) | (with_reducible apply Ext.drew) | (with_reducible apply Ext.drewN)))); intro e wd hh; obtain ⟨rfl, x⟩ := hh; have Xd : Hid (Ext w6 wd) := Lib.hid (Ext.trans Xb.out (Ext.trans (by (repeat (first | (with_reducible exact Ext.refl _) | (with_reducible apply Ext.drew) | (with_reducible apply Ext.drewN)))) x)); have q3_1 := Xd.out.cell q0_1; have q3_2 := Xd.out.cell q0_2; have q3_3 := Xd.out.cell q0_3; clear x))
                have X7 := Lib.hid (X6.out.trans Xd.out)
                clear q0_1 q0_2 q0_3 q1_1 q1_2 q1_3 q2_1 q2_2 q2_3 q3_1 q3_2 q3_3
                go_wp2_with fail
                refine (HLv.out _ (XW.out.trans X7.out)).mono ?_
                rintro e w9 ⟨rfl, x⟩
                have X9 := Lib.hid ((XW.out.trans X7.out).trans x)
                clear x
                go_wp2
                go_ret
                exact ⟨rfl, X9.out⟩
            · have hOE := H7a.out ho
              have hck := HCk.out
              have ho' : (oerr (wds rows) != 0) = true := by rw [bne, beq_eq_false_iff_ne.2 ho]; rfl
              generalize oerr (wds rows) = O at hck ho'
              have hRL := HRL.out
              have hRY := HRY.out
              rw [if_neg (by rw [hOE]; decide)] at hRL hRY
              subst hOE; subst hRL; subst hRY
              have hn2 := Hn2.out
              obtain rfl : n2 = 0 := hn2
              clear ho HCk
              have HCk2 := Lib.hid hck
              clear hck
              go_wp2
              refine wp_region_held_drew (S := fun w' => True) (by kernel_rfl) ?_ (fun hHeld => ?_)
              · exact trivial
              refine wpAnyH_take (i := 0) (v := ?va315_0) rfl (by kernel_rfl) (by kernel_rfl) (by kernel_rfl) (fun _ _ _ h => h) (Or.inl ⟨by rfl, fun w hSw => ?ti315_0⟩) (by assumption) ?rest315_0
              case ti315_0 => ((try dsimp only at hSw); go_simp; (first | done | with_reducible rfl))
              try simp only [Act.put, List.getElem_toArray, List.getElem_cons_zero, List.getElem_cons_succ, List.setIfInBounds_toArray, List.set_cons_zero, List.set_cons_succ]
              refine wpAnyH_ready (rs := [1]) (by kernel_rfl) (by simp) ?_
              refine AllReadyH.cons rfl (fun K hK => ?_) AllReadyH.nil
              go_simp
              refine (HCk2.out _ ?_).mono ?_
              · (repeat (first | (with_reducible exact Ext.refl _) | (with_reducible apply Ext.drew) | (with_reducible apply Ext.drewN)))
              intro e wa hh
              obtain ⟨rfl, x⟩ := hh
              have Xa : Hid (Ext w6 wa) := Lib.hid (Ext.trans (by (repeat (first | (with_reducible exact Ext.refl _) | (with_reducible apply Ext.drew) | (with_reducible apply Ext.drewN)))) x)
              go_simp
              refine hK.out _ _ ?_ (fun hHeld => ?_)
              · exact trivial
              clear hK K x
              try simp only [Act.put, List.getElem_toArray, List.getElem_cons_zero, List.getElem_cons_succ, List.setIfInBounds_toArray, List.set_cons_zero, List.set_cons_succ]
              refine wpAnyH_take (i := 2) (v := ?va331_2) rfl (by kernel_rfl) (by kernel_rfl) (by kernel_rfl) (fun _ _ _ h => h) (Or.inl ⟨by rfl, fun w hSw => ?ti331_2⟩) (by assumption) ?rest331_2
              case ti331_2 => ((try dsimp only at hSw); go_simp; (first | done | with_reducible rfl))
              try simp only [Act.put, List.getElem_toArray, List.getElem_cons_zero, List.getElem_cons_succ, List.setIfInBounds_toArray, List.set_cons_zero, List.set_cons_succ]
              refine wpAnyH_take (i := 3) (v := ?va334_3) rfl (by kernel_rfl) (by kernel_rfl) (by kernel_rfl) (fun _ _ _ h => h) (Or.inl ⟨by rfl, fun w hSw => ?ti334_3⟩) (by assumption) ?rest334_3
              case ti334_3 => ((try dsimp only at hSw); go_simp; (first | done | with_reducible rfl))
              try simp only [Act.put, List.getElem_toArray, List.getElem_cons_zero, List.getElem_cons_succ, List.setIfInBounds_toArray, List.set_cons_zero, List.set_cons_succ]
              refine wpAnyH_take (i := 4) (v := undef) rfl (by kernel_rfl) (by kernel_rfl) (by kernel_rfl) (fun _ _ _ h => h) (Or.inr ⟨by rfl, rfl⟩) (by assumption) ?_
              try simp only [Act.put, List.getElem_toArray, List.getElem_cons_zero, List.getElem_cons_succ, List.setIfInBounds_toArray, List.set_cons_zero, List.set_cons_succ]
              refine wpAnyH_take (i := 5) (v := undef) rfl (by kernel_rfl) (by kernel_rfl) (by kernel_rfl) (fun _ _ _ h => h) (Or.inr ⟨by rfl, rfl⟩) (by assumption) ?_
              try simp only [Act.put, List.getElem_toArray, List.getElem_cons_zero, List.getElem_cons_succ, List.setIfInBounds_toArray, List.set_cons_zero, List.set_cons_succ]
              refine wpAnyH_take (i := 6) (v := undef) rfl (by kernel_rfl) (by kernel_rfl) (by kernel_rfl) (fun _ _ _ h => h) (Or.inr ⟨by rfl, rfl⟩) (by assumption) ?_
              try simp only [Act.put, List.getElem_toArray, List.getElem_cons_zero, List.getElem_cons_succ, List.setIfInBounds_toArray, List.set_cons_zero, List.set_cons_succ]
              refine wpAnyH_take (i := 7) (v := undef) rfl (by kernel_rfl) (by kernel_rfl) (by kernel_rfl) (fun _ _ _ h => h) (Or.inr ⟨by rfl, rfl⟩) (by assumption) ?_
              try simp only [Act.put, List.getElem_toArray, List.getElem_cons_zero, List.getElem_cons_succ, List.setIfInBounds_toArray, List.set_cons_zero, List.set_cons_succ]
              refine wpAnyH_take (i := 8) (v := undef) rfl (by kernel_rfl) (by kernel_rfl) (by kernel_rfl) (fun _ _ _ h => h) (Or.inr ⟨by rfl, rfl⟩) (by assumption) ?_
              try simp only [Act.put, List.getElem_toArray, List.getElem_cons_zero, List.getElem_cons_succ, List.setIfInBounds_toArray, List.set_cons_zero, List.set_cons_succ]
              refine wpAnyH_take (i := 9) (v := undef) rfl (by kernel_rfl) (by kernel_rfl) (by kernel_rfl) (fun _ _ _ h => h) (Or.inr ⟨by rfl, rfl⟩) (by assumption) ?_
              try simp only [Act.put, List.getElem_toArray, List.getElem_cons_zero, List.getElem_cons_succ, List.setIfInBounds_toArray, List.set_cons_zero, List.set_cons_succ]
              refine wpAnyH_take (i := 10) (v := undef) rfl (by kernel_rfl) (by kernel_rfl) (by kernel_rfl) (fun _ _ _ h => h) (Or.inr ⟨by rfl, rfl⟩) (by assumption) ?_
              try simp only [Act.put, List.getElem_toArray, List.getElem_cons_zero, List.getElem_cons_succ, List.setIfInBounds_toArray, List.set_cons_zero, List.set_cons_succ]
              refine wpAnyH_take (i := 11) (v := undef) rfl (by kernel_rfl) (by kernel_rfl) (by kernel_rfl) (fun _ _ _ h => h) (Or.inr ⟨by rfl, rfl⟩) (by assumption) ?_
              try simp only [Act.put, List.getElem_toArray, List.getElem_cons_zero, List.getElem_cons_succ, List.setIfInBounds_toArray, List.set_cons_zero, List.set_cons_succ]
              refine wpAnyH_take (i := 12) (v := undef) rfl (by kernel_rfl) (by kernel_rfl) (by kernel_rfl) (fun _ _ _ h => h) (Or.inr ⟨by rfl, rfl⟩) (by assumption) ?_
              try simp only [Act.put, List.getElem_toArray, List.getElem_cons_zero, List.getElem_cons_succ, List.setIfInBounds_toArray, List.set_cons_zero, List.set_cons_succ]
              refine wpAnyH_take (i := 13) (v := undef) rfl (by kernel_rfl) (by kernel_rfl) (by kernel_rfl) (fun _ _ _ h => h) (Or.inr ⟨by rfl, rfl⟩) (by assumption) ?_
              try simp only [Act.put, List.getElem_toArray, List.getElem_cons_zero, List.getElem_cons_succ, List.setIfInBounds_toArray, List.set_cons_zero, List.set_cons_succ]
              refine wpAnyH_take (i := 14) (v := undef) rfl (by kernel_rfl) (by kernel_rfl) (by kernel_rfl) (fun _ _ _ h => h) (Or.inr ⟨by rfl, rfl⟩) (by assumption) ?_
              try simp only [Act.put, List.getElem_toArray, List.getElem_cons_zero, List.getElem_cons_succ, List.setIfInBounds_toArray, List.set_cons_zero, List.set_cons_succ]
              refine wpAnyH_take (i := 15) (v := undef) rfl (by kernel_rfl) (by kernel_rfl) (by kernel_rfl) (fun _ _ _ h => h) (Or.inr ⟨by rfl, rfl⟩) (by assumption) ?_
              try simp only [Act.put, List.getElem_toArray, List.getElem_cons_zero, List.getElem_cons_succ, List.setIfInBounds_toArray, List.set_cons_zero, List.set_cons_succ]
              refine wpAnyH_take (i := 16) (v := ?va361_16) rfl (by kernel_rfl) (by kernel_rfl) (by kernel_rfl) (fun _ _ _ h => h) (Or.inl ⟨by rfl, fun w hSw => ?ti361_16⟩) (by assumption) ?rest361_16
              case ti361_16 => ((try dsimp only at hSw); go_simp; (first | done | with_reducible rfl))
              try simp only [Act.put, List.getElem_toArray, List.getElem_cons_zero, List.getElem_cons_succ, List.setIfInBounds_toArray, List.set_cons_zero, List.set_cons_succ]
              refine wpAnyH_done (by kernel_rfl) ?_ _
              have X7 := Lib.hid (X6.out.trans Xa.out)
              clear q0_1 q0_2 q0_3
              go_wp2_with fail
              refine (HLv.out _ (XW.out.trans X7.out)).mono ?_
              rintro e w9 ⟨rfl, x⟩
              have X9 := Lib.hid ((XW.out.trans X7.out).trans x)
              clear x
              go_wp2
              go_ret
              exact ⟨rfl, X9.out⟩
      · have hob := of_bad hE
        have hof := HOf.out w1 (XW.out.trans HX.out)
        rw [if_neg (by rw [hob]; exact hE), if_neg (by rw [hob]; exact hE), hob] at hof
        generalize cloads rows = CL at *
        obtain ⟨E, LL⟩ := CL
        simp only [] at hE hof HLd
        have hE' : (E == 0) = false := beq_eq_false_iff_ne.2 hE
        have HOf1 := Lib.hid hof
        clear hE hob hof HOf HN HM
        skip
        go_wp2_with fail
        refine (HOf1.out).mono ?_
        rintro e w2 ⟨v2, k2, rfl, i2, x⟩
        have X2 := Lib.hid (HX.out.trans x)
        obtain ⟨a2, n2, k2', rfl, hn2, rfl, hi2⟩ := i2.out
        obtain rfl : n2 = 0 := hn2
        clear i2 b1 hi2
        have b2 := HBx.out _ X2.out
        clear x
        go_wp2_with fail
        refine (HLd.out _ (XW.out.trans X2.out)).mono ?_
        rintro e w3 ⟨v3, k3, rfl, i3, x⟩
        have X3 := Lib.hid (X2.out.trans x)
        clear i3 b2
        clear x
        go_wp2_with fail
        refine (HLv.out _ (XW.out.trans X3.out)).mono ?_
        rintro e w9 ⟨rfl, x⟩
        have X9 := Lib.hid ((XW.out.trans X3.out).trans x)
        clear x
        go_wp2
        go_ret
        exact ⟨rfl, X9.out⟩
end Go.Proofs.YtinijapkipeamaaDoor
/- Outlines with two steps more, in plain Lean. -/
namespace Go.Proofs.YtinijapkipeamaaDoor
set_option linter.unusedVariables false
set_option linter.unusedSimpArgs false
set_option maxRecDepth 8000
open Go Go.RowKit

/-- A width within its bounds. -/
def clm (x : Int) : Int := if x < 2 then 2 else if 16 < x then 16 else x
/-- The width behind the last one. -/
def nxt (l : List Int) (s : Int) : Int := clm (gi l (l.length - 1) + s % 5 - 2)
def add1 (l : List Int) (s : Int) : List Int := l ++ [nxt l s]
theorem add1_len (l : List Int) (s : Int) : (add1 l s).length = l.length + 1 := by simp [add1]
theorem add1_gi {l : List Int} {s : Int} {i : Nat} (h : i < l.length) : gi (add1 l s) i = gi l i := gi_append_left h
theorem add1_last (l : List Int) (s : Int) : gi (add1 l s) l.length = nxt l s := by unfold add1; rw [gi_append_right (Nat.le_refl _)]; simp [gi]
theorem clm_bd (x : Int) : 2 ≤ clm x ∧ clm x ≤ 16 := by unfold clm; (repeat' split) <;> omega
theorem clm_near {x d : Int} (h : 2 ≤ x ∧ x ≤ 16) (hd : -2 ≤ d ∧ d ≤ 2) : -2 ≤ clm (x + d) - x ∧ clm (x + d) - x ≤ 2 := by unfold clm; (repeat' split) <;> omega
/-- Widths in their bounds whose steps are small. -/
def small (l : List Int) : Prop := (∀ i, i < l.length → 2 ≤ gi l i ∧ gi l i ≤ 16) ∧ ∀ i, i + 1 < l.length → -2 ≤ gi l (i + 1) - gi l i ∧ gi l (i + 1) - gi l i ≤ 2
theorem small_of {l : List Int} (h : oerr l = 0) : small l := ⟨(oerr_zero h).2.2.2.1, (oerr_zero h).2.2.2.2⟩
theorem small_add {l : List Int} (h : small l) (h0 : 0 < l.length) (s : Int) : small (add1 l s) := by
  obtain ⟨h1, h2⟩ := h
  have hl := h1 (l.length - 1) (by omega)
  refine ⟨fun i hi => ?_, fun i hi => ?_⟩
  · rw [add1_len] at hi
    by_cases e : i < l.length
    · rw [add1_gi e]; exact h1 i e
    · obtain rfl : i = l.length := by omega
      rw [add1_last]; exact clm_bd _
  · rw [add1_len] at hi
    by_cases e : i + 1 < l.length
    · rw [add1_gi e, add1_gi (by omega)]; exact h2 i e
    · have : i = l.length - 1 := by omega
      rw [show i + 1 = l.length by omega, add1_last, add1_gi (by omega), this]
      have := clm_near hl (show -2 ≤ s % 5 - 2 ∧ s % 5 - 2 ≤ 2 by omega)
      unfold nxt
      rw [show gi l (l.length - 1) + s % 5 - 2 = gi l (l.length - 1) + (s % 5 - 2) by omega]
      exact this
theorem small_ok {l : List Int} (h : small l) (h1 : l.length ≤ 32) (h2 : l.length % 2 = 0) (h0 : 2 ≤ l.length) : oerr l = 0 := by
  rw [oerr_in (by omega) (by omega) h.1]
  refine jmp_ok fun i hi => ?_
  have := h.2 i hi
  unfold far; simp; omega
theorem area_congr {l m : List Int} : ∀ k : Nat, (∀ i, i < k → gi l i = gi m i) → area l k = area m k
  | 0, _ => rfl
  | k + 1, h => by
    rw [area, area, area_congr k (fun i hi => h i (by omega)), h k (by omega)]
theorem area_add {l : List Int} (s : Int) (h0 : 0 < l.length) : area (add1 l s) (l.length + 1) = area l l.length + nxt l s := by
  rw [area, if_neg (by omega), add1_last, area_congr l.length (fun i hi => add1_gi hi)]
/-- The stitches of the first rows of a chart. -/
def mks (C : List (List St)) : Nat → Int
  | 0 => 0
  | k + 1 => mks C k + rmake (sw C k)
theorem mks_area {l : List Int} {y : Int} (hl : oerr l = 0) (hy : 1 ≤ y ∧ y ≤ 6) : ∀ k, k + 1 ≤ l.length → mks (chartOf l y) k = area l (k + 1)
  | 0, _ => by simp [mks, area]
  | k + 1, h => by
    have e : area l (k + 1 + 1) = area l (k + 1) + gi l (k + 1) := by rw [area, if_neg (by omega)]
    rw [mks, mks_area hl hy k (by omega), e, (chartOf_facts hl hy k (by omega)).2.2.1]
theorem oof_len (f : Int) (st : List Int) : (oof f st).length ≤ 16 ∧ 2 ≤ (oof f st).length ∧ (oof f st).length % 2 = 0 := by
  have h := oerr_zero (oof_ok f st)
  refine ⟨?_, h.2.1, h.2.2.1⟩
  unfold oof
  rw [List.length_append, olist_len]
  have hm : min st.length 15 ≤ 15 := Nat.min_le_right _ _
  split
  · simp; omega
  · simp; omega
end Go.Proofs.YtinijapkipeamaaDoor
/- The law ShapesArea, walked. -/
namespace Go.Proofs.YtinijapkipeamaaDoor
set_option linter.unusedVariables false
set_option linter.unusedSimpArgs false
set_option maxRecDepth 8000
open Go Go.RowKit

set_option maxHeartbeats 8000000 in
theorem ShapesArea_walk (f : Int) (v : Value) (c : Nat) (st : List Int) (s0 s1 : Int) (w : World) (h : IS .u8 w v c st) (hf : 0 ≤ f ∧ f ≤ 255) (hs : ∀ i, i < st.length → 0 ≤ gi st i ∧ gi st i ≤ 255) (hs0 : 0 ≤ s0 ∧ s0 ≤ 255) (hs1 : 0 ≤ s1 ∧ s1 ≤ 255) (hy : Sy w) :
    Calls Tryd.prog 6 #[.agg #[.int .u8 f, v], .agg #[.int .u8 s0, .int .u8 s1]] w fun e w' => e = .returned (.bool true) ∧ Ext w w' := by
  have hof := fun w' (x : Ext w w') => O_calls f v c st w' (h.ext x) hf hs
  obtain ⟨ao, n, c', rfl, hn, rfl, hIS⟩ := h.out
  have hol := oof_len f st
  obtain ⟨l, hl⟩ : ∃ l, l = oof f st := ⟨_, rfl⟩
  have hok : oerr l = 0 := by rw [hl]; exact oof_ok f st
  rw [← hl] at hof hol
  obtain ⟨o1, o2, o3⟩ := hol
  have hsm := small_of hok
  obtain ⟨C, hC⟩ : ∃ C, C = chartOf l 1 := ⟨_, rfl⟩
  have h2 := fun w' v c (hi : IS .i64 w' v c l) => RChart_calls v c l 1 w' hi hok
  rw [← hC] at h2
  have hCl : C.length = l.length - 1 := by rw [hC]; exact chartOf_len l 1
  have hmk := fun k (hk : k + 1 ≤ l.length) => mks_area hok (show (1 : Int) ≤ 1 ∧ (1 : Int) ≤ 6 by omega) k hk
  rw [← hC] at hmk
  have hab := fun (m : List Int) (hm : small m) k (hk : k ≤ m.length) => area_bd (l := m) (fun i hi => by have := hm.1 i hi; omega) k hk
  have h3 := fun w' v c (m : List Int) (hm : small m) (hl : m.length ≤ 100) (hi : IS .i64 w' v c m) => Area_calls v c m w' hi (fun i hi => by have := hm.1 i hi; omega) (by omega)
  obtain ⟨m, hm⟩ : ∃ m, m = add1 (add1 l s0) s1 := ⟨_, rfl⟩
  have hsm1 := small_add hsm (by omega) s0
  have hl1 := add1_len l s0
  have hsm2 := small_add hsm1 (by omega) s1
  have hml : m.length = l.length + 2 := by rw [hm, add1_len, hl1]
  rw [← hm] at hsm2
  have hmok := small_ok hsm2 (by omega) (by omega) (by omega)
  have h4 := fun w' v c (hi : IS .i64 w' v c l) => Centre_calls v c l w' hi
  have h5 := fun w' v c (hi : IS .i64 w' v c m) => Centre_calls v c m w' hi
  rw [hok] at h4; rw [hmok] at h5
  simp only [if_true] at h4 h5
  have h6 := fun w' v c (hi : IS .i64 w' v c l) => RCentre_calls v c l w' hi hok
  have h7 := fun w' v c (hi : IS .i64 w' v c m) => RCentre_calls v c m w' hi hmok
  obtain ⟨N, hN⟩ : ∃ N, N = C.length := ⟨_, rfl⟩
  have hN1 : N + 1 = l.length := by omega
  have hfc := chartOf_facts hok (show (1 : Int) ≤ 1 ∧ (1 : Int) ≤ 6 by omega)
  rw [← hC] at hfc
  have hrl : ∀ k, k < N → (sw C k).length ≤ 16 := fun k hk => by have := (hfc k (by omega)).1; have := hsm.1 (k + 1) (by omega); omega
  have hmb : ∀ k, k ≤ N → 0 ≤ mks C k ∧ mks C k ≤ 17000 := fun k hk => by rw [hmk k (by omega)]; have := hab l hsm (k + 1) (by omega); omega
  have hms : ∀ k, mks C (k + 1) = mks C k + rmake (sw C k) := fun k => rfl
  have har : area l l.length = mks C N := by rw [hmk N (by omega), hN1]
  have hnx0 : nxt l s0 = clm (gi l (l.length - 1) + s0 % 5 - 2) := rfl
  have hArea : area m m.length = mks C N + gi m (m.length - 1) + gi m (m.length - 2) := by
    have a1 := area_add (l := l) s0 (by omega)
    have a2 := area_add (l := add1 l s0) s1 (by omega)
    have g1 : gi m (m.length - 1) = nxt (add1 l s0) s1 := by rw [hm]; have := add1_last (add1 l s0) s1; rw [show (add1 (add1 l s0) s1).length - 1 = (add1 l s0).length by rw [add1_len]; omega]; exact this
    have g2 : gi m (m.length - 2) = nxt l s0 := by
      rw [hm, show (add1 (add1 l s0) s1).length - 2 = l.length by rw [add1_len, hl1]; omega, add1_gi (by omega), add1_last]
    rw [g1, g2, ← har]
    rw [hl1] at a2
    rw [show m.length = l.length + 1 + 1 by omega, hm, a2, a1]; omega
  obtain ⟨L, hL⟩ : ∃ L, L = l.length := ⟨_, rfl⟩
  rw [← hL] at o1 o2 o3 hml hN1 hl1
  have h3l := fun w' v c (hi : IS .i64 w' v c l) => h3 w' v c l hsm (by omega) hi
  have h3m := fun w' v c (hi : IS .i64 w' v c m) => h3 w' v c m hsm2 (by omega) hi
  rw [har] at h3l
  rw [hArea] at h3m
  have hb2 : ∀ i, i < L + 2 → 2 ≤ gi m i ∧ gi m i ≤ 16 := fun i hi => hsm2.1 i (by omega)
  have hg1 : gi m (m.length - 1) = gi m (L + 1) := by rw [hml]; rfl
  have hg2 : gi m (m.length - 2) = gi m L := by rw [hml]; rfl
  rw [hg1, hg2] at h3m
  have HOo := Lib.hid hof; have K2 := Lib.hid h2; have K3l := Lib.hid h3l; have K3m := Lib.hid h3m; have K4 := Lib.hid h4; have K5 := Lib.hid h5; have K6 := Lib.hid h6; have K7 := Lib.hid h7
  have HRl := Lib.hid hrl; have HMb := Lib.hid hmb; have HMs := Lib.hid hms; have HB2 := Lib.hid hb2; have HNn := Lib.hid hN; have HSm := Lib.hid hsm; have HSm1 := Lib.hid hsm1; have HL1 := Lib.hid hl1; have HLl := Lib.hid hL; have HM := Lib.hid hm; have HMl := Lib.hid hml
  have HL := Lib.hid (fun w' (x : Ext w w') => lives_calls w' (hy.ext x))
  obtain ⟨W, hW⟩ : ∃ W, W = (w.alloc (.cells #[.int .u8 f, .slice ao n c'] 44)).alloc (.cells #[.int .u8 s0, .int .u8 s1] 45) := ⟨_, rfl⟩
  have xW : Ext w W := by rw [hW]; exact ((Ext.refl w).alloc _).alloc _
  have hB := (B2.new w (.int .u8 f) (.slice ao n c') 44).alloc (.cells #[.int .u8 s0, .int .u8 s1] 45)
  have hB5 : B2 W (w.heap.size + 1) (.int .u8 s0) (.int .u8 s1) 45 := by rw [hW]; simpa using B2.new (w.alloc (.cells #[.int .u8 f, .slice ao n c'] 44)) (.int .u8 s0) (.int .u8 s1) 45
  have HB5 := Lib.hid hB5
  have c0 := hB.c0; have c1 := hB.c1
  have XW := Lib.hid xW; have HW := Lib.hid hW
  clear hof h2 h3 h3l h3m h4 h5 h6 h7 hCl hfc hmk hab hl hok hC h hIS hn hs hf xW hW hB hy hB5 hsm hsm1 hsm2 hl1 hml hm hmok hN hrl hmb hms har hnx0 hArea hL hb2 hg1 hg2
  go_enter Tryd.func6, Tryd.ntmps6
  go_wp2_with fail
  rw [← HW.out]
  refine (HOo.out _ XW.out).mono ?_
  rintro e w3 ⟨v3, k3, rfl, i3, x3⟩
  have X3 := Lib.hid x3; have I3 := Lib.hid i3
  clear x3 i3 HOo c0 c1
  go_wp2_with fail
  refine (K2.out _ _ _ I3.out).mono ?_
  rintro e w4 ⟨v4, c4, rfl, r4, x4⟩
  obtain ⟨a4, n4, rfl, hn4, _, _, q4⟩ := r4.open
  have hn4' : n4 = N := by rw [hn4, HNn.out]
  clear hn4
  subst hn4'
  obtain ⟨wc, hwc⟩ : ∃ wc, wc = w4.alloc (.cells #[.slice a4 n4 c4] 26) := ⟨_, rfl⟩
  have xc : Ext w4 wc := by rw [hwc]; exact (Ext.refl w4).alloc _
  have p1 : wc.cell? ⟨w4.heap.size, 0, none⟩ = some (.slice a4 n4 c4) := by rw [hwc, World.cell?_alloc_at (hn := rfl)]; rfl
  have Xc := Lib.hid (X3.out.trans (x4.trans xc)); have HQ := Lib.hid q4; have Ic := Lib.hid (I3.out.ext (x4.trans xc)); have X4c := Lib.hid xc
  have HP1 := Lib.hid (fun w' (x : Ext wc w') => x.cell p1)
  have HWc := Lib.hid hwc
  clear x4 xc r4 hwc K2 q4 p1
  go_wp2
  rw [← HWc.out]
  clear HWc
  go_loopw [7, 8, 9] (fun t i _ wr => ∃ k : Nat, k ≤ n4 ∧ i = .int .i64 k ∧ t = .int .i64 (mks C k) ∧ Hid (Ext wc wr)) (fun _ i _ _ => n4 - (intOf i).toNat)
  case atStart => exact ⟨0, Nat.zero_le _, rfl, rfl, Lib.hid (Ext.refl _)⟩
  case round =>
    obtain ⟨k, hk, rfl, rfl, HX⟩ := hrel
    have b1 := HP1.out _ HX.out
    by_cases hlt : k < n4
    · obtain ⟨b, o, a, p, d, rfl, hc0, hr0⟩ := HQ.out k hlt
      have HC0 := Lib.hid (fun w' (x : Ext wc w') => (X4c.out.trans x).cell hc0)
      obtain ⟨_, _, e1, e2, e3, e4, e5⟩ := hr0.open
      simp only [Value.slice.injEq] at e1
      obtain ⟨rfl, rfl, _⟩ := e1
      have hp16 := HRl.out k hlt
      have hmbk := HMb.out k hk
      have hmsk := HMs.out k
      have htk : ∀ j, j < p → rmake ((sw C k).take (j + 1)) = rmake ((sw C k).take j) + St.make (si (sw C k) j) := fun j hj => by rw [take_succ_si (by omega), rmake_snoc]
      have htb : ∀ j, j ≤ p → 0 ≤ rmake ((sw C k).take j) ∧ rmake ((sw C k).take j) ≤ 64 := fun j hj => by have := rmake_bd ((sw C k).take j); rw [List.length_take] at this; omega
      have hta : rmake ((sw C k).take p) = rmake (sw C k) := by rw [e2, List.take_length]
      have ht0 : rmake ((sw C k).take 0) = 0 := by simp [rmake]
      rw [← e2] at hp16
      have HE5 := Lib.hid e5; have HTk := Lib.hid htk; have HTb := Lib.hid htb; have HTa := Lib.hid hta; have HMsk := Lib.hid hmsk
      have HT0 := Lib.hid ht0
      generalize mks C k = T at *
      clear e2 e5 htk htb hta hmsk hr0 hc0 ht0
      go_wp2
      go_loopw [7, 9] (fun t i ws => ∃ j : Nat, j ≤ p ∧ i = .int .i64 j ∧ t = .int .i64 (T + rmake ((sw C k).take j)) ∧ Hid (Ext wc ws)) (fun _ i _ => p - (intOf i).toNat)
      case atStart => exact ⟨0, Nat.zero_le _, rfl, by rw [HT0.out, Int.add_zero], HX⟩
      case round =>
        obtain ⟨j, hj, rfl, rfl, HY⟩ := hrel
        have b1 := HP1.out _ HY.out
        have hc0 := HC0.out _ HY.out
        by_cases hjl : j < p
        · obtain ⟨bb, oo, rfl, e8⟩ := HE5.out j hjl
          obtain ⟨u0, u1, u2, u3, u4⟩ := e8.ext (X4c.out.trans HY.out)
          have hcl := fun w' => SMakes_calls (si (sw C k) j) w'
          have htk := HTk.out j hjl
          have htb := HTb.out j hj
          have hmk := St.make_bd (si (sw C k) j)
          obtain ⟨S, hS⟩ : ∃ S, S = si (sw C k) j := ⟨_, rfl⟩
          rw [← hS] at u0 u1 u2 u3 u4 hcl htk hmk
          unfold St.val at hcl
          generalize S.make = M at *
          obtain ⟨Q, hQ⟩ : ∃ Q, Q = rmake ((sw C k).take j) := ⟨_, rfl⟩
          rw [← hQ] at htk htb ⊢
          have HCl := Lib.hid hcl; have HTj := Lib.hid htk
          have wz : IntKind.i64.wrap (T + Q + M) = T + Q + M := IntWalk.i64_in _ ⟨by omega, by omega⟩
          have j1 : (0 : Int) ≤ (j : Int) := by omega
          clear hcl htk hS hQ e8
          go_wp2_with fail
          refine (HCl.out _).mono ?_
          rintro e w5 ⟨rfl, x5⟩
          have HY2 := Lib.hid (HY.out.trans x5)
          clear x5 u0 u1 u2 u3 u4 hc0 b1 HCl
          go_wp2
          go_roundw
          case rel => exact ⟨j + 1, by omega, by go_num, by rw [HTj.out, Int.add_assoc], HY2⟩
          case measure => simp [intOf]; omega
        · obtain rfl : p = j := by omega
          have htn := HTa.out
          go_wp2
          go_roundw
          case rel => exact ⟨k + 1, by omega, by go_num, by rw [HMsk.out, htn], HY⟩
          case measure => simp [intOf]; omega
    · obtain rfl : n4 = k := by omega
      have hTb := HMb.out n4 hk
      generalize mks C n4 = T at *
      have Iw := Lib.hid (Ic.out.ext HX.out)
      clear hlt
      go_wp2_with fail
      refine (K3l.out _ _ _ Iw.out).mono ?_
      rintro e w5 ⟨rfl, x5⟩
      have X5 := Lib.hid (Xc.out.trans (HX.out.trans x5)); have I5 := Lib.hid (Iw.out.ext x5)
      clear x5 b1 K3l
      go_wp2_with (at_builtin; go_loud (refine app_own eiInt rfl _ _ rfl w5.heap.size _ 0 [] rfl (own0 (blk_at rfl) (Nat.le_refl _)) _ _ (l.map (Value.int .i64)) rfl (I5.out.ext ((Ext.refl w5).alloc _)) (onesI _) ?d1 ?d2 ?d3 ?_))
      case d1 => rw [List.length_map, ← HLl.out]; omega
      case d2 => rw [List.length_map, ← HLl.out]; omega
      case d3 => exact (World.alloc_le _ _)
      intro v6 w6 hown6 hbel6
      obtain ⟨Mo, hMo⟩ : ∃ Mo : Nat → List Int, Mo = fun k => if k = 0 then l else if k = 1 then add1 l s0 else m := ⟨_, rfl⟩
      have hm0 : Mo 0 = l := by rw [hMo]; rfl
      have hm1 : Mo 1 = add1 l s0 := by rw [hMo]; rfl
      have hm2 : Mo 2 = m := by rw [hMo]; rfl
      have HStep := Lib.hid (show ∀ k, k < 2 → ∃ s x : Int, (0 ≤ s ∧ s ≤ 255) ∧ (∀ w', Ext W w' → w'.cell? ⟨w.heap.size + 1, k, none⟩ = some (.int .u8 s)) ∧ gi (Mo k) (L + k - 1) = x ∧ (2 ≤ x ∧ x ≤ 16) ∧ Mo (k + 1) = Mo k ++ [clm (x + s % 5 - 2)] from fun k hk => by
        match k, hk with
        | 0, _ => exact ⟨s0, _, hs0, fun w' x => (HB5.out.ext x).c0, rfl, by rw [hm0]; exact HSm.out.1 _ (by have := HLl.out; omega), by rw [hm0, hm1]; unfold add1 nxt; rw [← HLl.out]; try rfl⟩
        | 1, _ => exact ⟨s1, _, hs1, fun w' x => (HB5.out.ext x).c1, rfl, by rw [hm1]; exact HSm1.out.1 _ (by have := HL1.out; omega), by rw [hm1, hm2, HM.out]; show add1 (add1 l s0) s1 = _; rw [add1]; unfold nxt; rw [HL1.out]; try rfl⟩)
      have H6 := Lib.hid (show w6.ownsRow w5.heap.size 3 1 v6 L ((Mo 0).map (Value.int .i64)) ∧ Ext w5 w6 from ⟨by rw [hm0]; have := hown6; simp only [Nat.zero_add, List.nil_append, List.length_map, ← HLl.out] at this; exact this, Below.trans ((Ext.refl w5).alloc _) hbel6⟩)
      have HM2 := Lib.hid hm2
      clear hown6 hbel6 hMo hm0 hm1 hm2 HB5 HSm HSm1 HL1 HM
      go_wp2
      go_loopw [10, 11, 12] (fun u i _ wr => ∃ k q : Nat, k ≤ 2 ∧ q = L + k ∧ i = .int .i64 k ∧ Hid (wr.ownsRow w5.heap.size 3 1 u q ((Mo k).map (Value.int .i64)) ∧ Ext w5 wr)) (fun _ i _ _ => 2 - (intOf i).toNat)
      case atStart => exact ⟨0, L, by omega, rfl, rfl, H6⟩
      case round =>
        obtain ⟨k, q, hk, hqL, rfl, H⟩ := hrel
        obtain ⟨cI, hI⟩ := IS.of_own (k := .i64) H.out.1
        obtain ⟨aI, nI, cI', hvI, hnI, hcI, hI2⟩ := hI.out
        have hnq : nI = q := by
          have := H.out.1.1
          rw [List.length_map] at this; omega
        rw [hnq] at hvI hI2
        subst hvI
        by_cases hlt : k < 2
        · obtain ⟨s, x, hs, hcell, hx, hxb, hnx⟩ := HStep.out k hlt
          have e0 := hcell wr (X5.out.trans H.out.2)
          obtain ⟨bb, oo, rfl, hc⟩ := hI2.at (show q - 1 < q by omega)
          have e1 := hc (q - 1) (by omega)
          rw [show q - 1 = L + k - 1 by omega, hx] at e1
          rw [show L + k - 1 = q - 1 by omega] at e1
          have HNx := Lib.hid hnx
          have hsz := H.out.2.size
          obtain ⟨z, hz⟩ : ∃ z, z = x + s % 5 - 2 := ⟨_, rfl⟩
          rw [← hz] at HNx
          have q1 : (0 : Int) ≤ (q : Int) - 1 := by omega
          have q2 : ((q : Int) - 1).toNat = q - 1 := by omega
          have q3 : (q : Int) - 1 < q := by omega
          have q4 : IntKind.i64.wrap ((q : Int) - 1) = (q : Int) - 1 := IntWalk.i64_in _ ⟨by omega, by omega⟩
          have q5 : (1 : Int) ≤ q := by omega
          have v1 : IntKind.u8.wrap (s % 5) = s % 5 := IntWalk.u8_in _ ⟨by omega, by omega⟩
          have v2 : IntKind.i64.wrap (s % 5) = s % 5 := IntWalk.i64_in _ ⟨by omega, by omega⟩
          have v3' : IntKind.i64.wrap (x + s % 5) = x + s % 5 := IntWalk.i64_in _ ⟨by omega, by omega⟩
          have v4 : IntKind.i64.wrap (x + s % 5 - 2) = z := by rw [hz]; exact IntWalk.i64_in _ ⟨by omega, by omega⟩
          have k1 : (k : Int) < 2 := by omega
          have k2 : (0 : Int) ≤ k := by omega
          have k3 : k < 2 := hlt
          have HQL := Lib.hid hqL
          have hq18 : q ≤ 18 := by omega
          have zb : -100 ≤ z ∧ z ≤ 100 := by omega
          clear hI hI2 hcell hx hnx hz hc hqL hnI hcI hnq hxb
          go_wp2
          go_quiet (fail)
          have H := Lib.hid (show World.ownsRow (wr.drewN nq) w5.heap.size 3 1 _ q ((Mo k).map (Value.int .i64)) ∧ Ext w5 (wr.drewN nq) from ⟨own_ext H.out.1 ((Ext.refl wr).drewN nq), H.out.2.drewN nq⟩)
          have hqL := HQL.out
          clear e0 e1 q1 q2 q3 q4 q5 v1 v2 v3' v4
          rcases (show z < 2 ∨ (¬ z < 2 ∧ 16 < z) ∨ (¬ z < 2 ∧ ¬ 16 < z) by omega) with z1 | ⟨z1, z2⟩ | ⟨z1, z2⟩
          · have hcl : clm z = 2 := by unfold clm; rw [if_pos z1]
            rw [hcl] at HNx
            have z3 : ¬ 2 < z := by omega
            clear hcl hqL
            go_wp2_with (at_builtin; go_loud (refine app_own eiInt rfl _ _ rfl w5.heap.size _ q _ rfl (own_ext H.out.1 ((Ext.refl _).alloc _)) _ _ _ rfl (VS.one _ _ _) (one1 _) ?f11 ?f12 ?f13 ?_))
            any_goals (first | omega | (simp; done) | (simp only [List.length_cons, List.length_nil]; omega) | (simp; omega))
            intro v' w' hown hbel
            rw [show min (max z 2) 16 = 2 by omega] at hown
            have HO := Lib.hid (show w'.ownsRow w5.heap.size 3 1 v' (q + 1) ((Mo (k + 1)).map (Value.int .i64)) ∧ Ext w5 w' from ⟨by rw [HNx.out, List.map_append]; exact hown, Below.trans (H.out.2.alloc _) hbel⟩)
            have hqL := HQL.out
            clear hown hbel
            go_wp2
            go_roundw
            case rel => exact ⟨k + 1, q + 1, by omega, by omega, by go_num, HO⟩
            case measure => simp [intOf]; omega
          · have hcl : clm z = 16 := by unfold clm; rw [if_neg z1, if_pos z2]
            rw [hcl] at HNx
            have z3 : 2 < z := by omega
            clear hcl hqL
            go_wp2_with (at_builtin; go_loud (refine app_own eiInt rfl _ _ rfl w5.heap.size _ q _ rfl (own_ext H.out.1 ((Ext.refl _).alloc _)) _ _ _ rfl (VS.one _ _ _) (one1 _) ?f21 ?f22 ?f23 ?_))
            any_goals (first | omega | (simp; done) | (simp only [List.length_cons, List.length_nil]; omega) | (simp; omega))
            intro v' w' hown hbel
            rw [show min (max z 2) 16 = 16 by omega] at hown
            have HO := Lib.hid (show w'.ownsRow w5.heap.size 3 1 v' (q + 1) ((Mo (k + 1)).map (Value.int .i64)) ∧ Ext w5 w' from ⟨by rw [HNx.out, List.map_append]; exact hown, Below.trans (H.out.2.alloc _) hbel⟩)
            have hqL := HQL.out
            clear hown hbel
            go_wp2
            go_roundw
            case rel => exact ⟨k + 1, q + 1, by omega, by omega, by go_num, HO⟩
            case measure => simp [intOf]; omega
          · have hcl : clm z = z := by unfold clm; rw [if_neg z1, if_neg z2]
            rw [hcl] at HNx
            have z3 : z ≤ 16 := by omega
            have z4 : 2 ≤ z := by omega
            clear hcl hqL
            go_wp2_with (at_builtin; go_loud (refine app_own eiInt rfl _ _ rfl w5.heap.size _ q _ rfl (own_ext H.out.1 ((Ext.refl _).alloc _)) _ _ _ rfl (VS.one _ _ _) (one1 _) ?f31 ?f32 ?f33 ?_))
            any_goals (first | omega | (simp; done) | (simp only [List.length_cons, List.length_nil]; omega) | (simp; omega))
            intro v' w' hown hbel
            rw [show min (max z 2) 16 = z by omega] at hown
            have HO := Lib.hid (show w'.ownsRow w5.heap.size 3 1 v' (q + 1) ((Mo (k + 1)).map (Value.int .i64)) ∧ Ext w5 w' from ⟨by rw [HNx.out, List.map_append]; exact hown, Below.trans (H.out.2.alloc _) hbel⟩)
            have hqL := HQL.out
            clear hown hbel
            go_wp2
            go_roundw
            case rel => exact ⟨k + 1, q + 1, by omega, by omega, by go_num, HO⟩
            case measure => simp [intOf]; omega
        · skip
          have tk : ¬ ((k : Int) < 2) := by omega
          have hk2 : k = 2 := by omega
          have hq2 : q = L + 2 := by omega
          have IM := Lib.hid (show IS .i64 wr (.slice aI q cI') cI' m from by rw [← HM2.out, ← hk2]; exact hI2)
          obtain ⟨bb, oo, rfl, hc⟩ := IM.out.at (show q - 1 < q by omega)
          have e1 := hc (q - 1) (by omega)
          have e2 := hc (q - 2) (by omega)
          have Il := Lib.hid (I5.out.ext H.out.2)
          have Xr := Lib.hid (X5.out.trans H.out.2)
          have m1 := HB2.out (L + 1) (by omega)
          have m2 := HB2.out L (by omega)
          rw [show q - 1 = L + 1 by omega] at e1
          rw [show q - 2 = L by omega] at e2
          rw [show L + 1 = q - 1 by omega] at e1 m1
          rw [show L = q - 2 by omega] at e2 m2
          have hK3m := K3m.out
          rw [show L + 1 = q - 1 by omega, show L = q - 2 by omega] at hK3m
          obtain ⟨g1, hg1⟩ : ∃ x, x = gi m (q - 1) := ⟨_, rfl⟩
          obtain ⟨g2, hg2⟩ : ∃ x, x = gi m (q - 2) := ⟨_, rfl⟩
          rw [← hg1] at e1 m1 hK3m
          rw [← hg2] at e2 m2 hK3m
          have HK3 := Lib.hid hK3m
          have hq18 : q ≤ 18 ∧ 4 ≤ q := by omega
          obtain ⟨q18, q4'⟩ := hq18
          generalize cent l = cl at K4 K6
          generalize cent m = cm at K5 K7
          clear hI hI2 hnI hcI hnq hqL hk2 hq2 hlt hk hg1 hg2 hK3m hc H HStep H6 K3m HB2 HQ
          go_wp2_with fail
          refine (K4.out _ _ _ Il.out).mono ?_
          rintro e w7 ⟨rfl, x7⟩
          have I7 := Lib.hid (IM.out.ext x7); have X7 := Lib.hid (Xr.out.trans x7); have Il7 := Lib.hid (Il.out.ext x7)
          have d1 := x7.cell e1
          have d2 := x7.cell e2
          clear x7 e1 e2 K4
          go_wp2_with fail
          refine (K5.out _ _ _ I7.out).mono ?_
          rintro e w8 ⟨rfl, x8⟩
          have I8 := Lib.hid (I7.out.ext x8); have X8 := Lib.hid (X7.out.trans x8); have Il8 := Lib.hid (Il7.out.ext x8)
          have e1 := x8.cell d1
          have e2 := x8.cell d2
          clear x8 d1 d2 K5
          have r1 : IntKind.i64.wrap ((q : Int) - 1) = (q : Int) - 1 := IntWalk.i64_in _ ⟨by omega, by omega⟩
          have r2 : IntKind.i64.wrap ((q : Int) - 2) = (q : Int) - 2 := IntWalk.i64_in _ ⟨by omega, by omega⟩
          have r3 : (0 : Int) ≤ (q : Int) - 1 := by omega
          have r4 : (0 : Int) ≤ (q : Int) - 2 := by omega
          have r5 : ((q : Int) - 1).toNat = q - 1 := by omega
          have r6 : ((q : Int) - 2).toNat = q - 2 := by omega
          have r7 : (q : Int) - 1 < q := by omega
          have r8 : (q : Int) - 2 < q := by omega
          have r9 : (1 : Int) ≤ q := by omega
          have ra : (2 : Int) ≤ q := by omega
          have rb : ¬ (32 : Int) < q := by omega
          have rc : IntKind.i64.wrap (T + g1) = T + g1 := IntWalk.i64_in _ ⟨by omega, by omega⟩
          have rd : IntKind.i64.wrap (T + g1 + g2) = T + g1 + g2 := IntWalk.i64_in _ ⟨by omega, by omega⟩
          go_wp2
          go_region_held3 (fun w' => w'.cell? ⟨bb, oo + (q - 1), Option.none⟩ = some (.int .i64 g1) ∧ w'.cell? ⟨bb, oo + (q - 2), Option.none⟩ = some (.int .i64 g2))
            (first | exact ⟨e1, e2⟩ | exact ⟨y1, y2⟩ | exact ⟨y3, y4⟩ | exact ⟨y5, y6⟩ | exact ⟨y7, y8⟩ | go_keep) (first
            | (go_at_call_of 16 v3; (refine (K6.out _ _ _ (Il8.out.ext ?_)).mono ?_); (focus (repeat (first | (with_reducible exact Ext.refl _) | (with_reducible apply Ext.drew) | (with_reducible apply Ext.drewN)))); intro e wa hh; obtain ⟨rfl, xa⟩ := hh; have Xa : Hid (Ext w8 wa) := Lib.hid (Ext.trans (by (repeat (first | (with_reducible exact Ext.refl _) | (with_reducible apply Ext.drew) | (with_reducible apply Ext.drewN)))) xa); have y1 := Xa.out.cell e1; have y2 := Xa.out.cell e2; clear xa)
            | (go_at_call 16; (refine (K7.out _ _ _ (I8.out.ext ?_)).mono ?_); (focus (refine Xa.out.trans ?_; (repeat (first | (with_reducible exact Ext.refl _) | (with_reducible apply Ext.drew) | (with_reducible apply Ext.drewN))))); intro e wb hh; obtain ⟨rfl, xb⟩ := hh; have Xb : Hid (Ext w8 wb) := Lib.hid (Xa.out.trans (Ext.trans (by (repeat (first | (with_reducible exact Ext.refl _) | (with_reducible apply Ext.drew) | (with_reducible apply Ext.drewN)))) xb)); have y3 := Xb.out.cell e1; have y4 := Xb.out.cell e2; clear xb)
            | (go_at_call 23; (refine (HK3.out _ _ _ (I8.out.ext ?_)).mono ?_); (focus (refine Xb.out.trans ?_; (repeat (first | (with_reducible exact Ext.refl _) | (with_reducible apply Ext.drew) | (with_reducible apply Ext.drewN))))); intro e wd hh; obtain ⟨rfl, xd⟩ := hh; have Xd : Hid (Ext w8 wd) := Lib.hid (Xb.out.trans (Ext.trans (by (repeat (first | (with_reducible exact Ext.refl _) | (with_reducible apply Ext.drew) | (with_reducible apply Ext.drewN)))) xd)); have y5 := Xd.out.cell e1; have y6 := Xd.out.cell e2; clear xd)
            | (go_at_call 15; (refine (HL.out _ (XW.out.trans (X8.out.trans (Xd.out.trans ?_)))).mono ?_); (focus (repeat (first | (with_reducible exact Ext.refl _) | (with_reducible apply Ext.drew) | (with_reducible apply Ext.drewN)))); intro e we hh; obtain ⟨rfl, xe⟩ := hh; have Xe : Hid (Ext w8 we) := Lib.hid (Xd.out.trans (Ext.trans (by (repeat (first | (with_reducible exact Ext.refl _) | (with_reducible apply Ext.drew) | (with_reducible apply Ext.drewN)))) xe)); have y7 := Xe.out.cell e1; have y8 := Xe.out.cell e2; clear xe))
          have XF := Lib.hid (XW.out.trans (X8.out.trans Xe.out))
          go_wp2
          go_ret
          exact ⟨rfl, XF.out⟩
end Go.Proofs.YtinijapkipeamaaDoor
