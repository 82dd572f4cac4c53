/- Texts of this claim in one file: libraries and walks. -/
import Derived.Deep.CutBlock
import Derived.Test.YtlhkehfplcclgaaDoorMText0
/- The law FabricsText: the walk. -/
namespace Go.Proofs.YtlhkehfplcclgaaDoor
set_option linter.unusedVariables false
set_option linter.unusedSimpArgs false
set_option maxRecDepth 8000
open Go Go.RowKit Go.Sort

theorem cell_of_blk {w : World} {g o : Nat} {cs : Array Value} {t : TypeId} {v : Value} (h : w.heap[g]? = some (.cells cs t (0, 0))) (hv : cs[o]? = some v) : w.cell? ⟨g, o, none⟩ = some v := by simp [World.cell?, h, hv]
set_option maxHeartbeats 16000000 in
theorem FabricsText_walk (tv hv cv : Value) (fal : Int) (x : FD) (w : World) (ht : PTab w) (h : FDm w tv fal hv cv x) :
    Calls Tryd.prog 6 #[.agg #[tv, .int .u64 fal, hv, cv]] w fun e w' => e = .returned (.bool true) ∧ Ext w w' := by
  have HM := Lib.hid h
  obtain ⟨⟨tc, hT⟩, hfal, ⟨hc, hH⟩, ⟨cc, hC⟩, -⟩ := h
  obtain ⟨ta, tn, rfl, htn, -⟩ := hT.open
  obtain ⟨ha, hn, rfl, -⟩ := hH.atD
  obtain ⟨ca, cn, rfl, hcn, hcc, hc9, -⟩ := hC.open
  obtain ⟨W0, hW0⟩ : ∃ W0, W0 = w.alloc (.cells #[.slice ta tn tc, .int .u64 fal, .slice ha hn hc, .slice ca cn cc] 28) := ⟨_, rfl⟩
  have xW : Ext w W0 := by rw [hW0]; exact (Ext.refl _).alloc _
  have HW0 := Lib.hid hW0; have XW := Lib.hid xW
  have HB := Lib.hid (show B4 W0 w.heap.size (.slice ta tn tc) (.int .u64 fal) (.slice ha hn hc) (.slice ca cn cc) 28 by rw [hW0]; exact B4.new _ _ _ _ _ _)
  have HT := Lib.hid ht; have Hcn := Lib.hid hcn
  obtain ⟨q0, q1, q2, q3⟩ := B4.cells HB.out
  rw [hW0] at q0 q1 q2 q3
  clear hT hfal hH hC htn hcn hcc hc9 hW0 xW ht
  go_enter Tryd.func6, Tryd.ntmps6
  obtain ⟨BIG, hBIG⟩ : ∃ BIG : Bool, BIG = decide (20 < tn ∨ 30 < cn) := ⟨_, rfl⟩
  have HBIG := Lib.hid hBIG
  clear hBIG
  go_upto_region 1 with fail
  rw [← HW0.out]
  clear q0 q1 q2 q3
  obtain ⟨q0, q1, q2, q3⟩ := B4.cells HB.out
  go_cut [21] from 12 to 22 (fun c wx => c = .bool BIG ∧ W0 = wx)
  case first =>
    by_cases h1 : 20 < tn
    · have f1 : (20 : Int) < tn := by omega
      have f2 : decide ((20 : Int) < tn) = true := decide_eq_true f1
      have hb : BIG = true := by rw [HBIG.out]; exact decide_eq_true (.inl h1)
      subst hb
      go_wp2_with fail
      go_meet
      case rel => exact ⟨rfl, rfl⟩
    · have f1 : ¬ (20 : Int) < tn := by omega
      have f2 : decide ((20 : Int) < tn) = false := decide_eq_false f1
      have hb : BIG = decide ((30 : Int) < cn) := by rw [HBIG.out, Bool.eq_iff_iff]; simp; try omega
      have Hb := Lib.hid hb
      clear hb h1
      go_wp2_with fail
      all_goals go_meet
      all_goals (refine ⟨congrArg Value.bool ?_, rfl⟩; rw [Hb.out]; try simp [*])
  case rest =>
    obtain ⟨rfl, rfl⟩ := hcut
    cases BIG with
    | true =>
      go_wp2_with fail
      clear q0 q1 q2 q3
      refine (Lives_calls W0 (HT.out.ext XW.out)).mono ?_
      rintro e w2 ⟨rfl, x2⟩
      have X2 := Lib.hid (XW.out.trans x2)
      clear x2
      go_wp2
      go_ret
      exact ⟨rfl, X2.out⟩
    | false =>
      have hbig := of_decide_eq_false HBIG.out.symm
      have Hbig := Lib.hid hbig
      clear hbig
      go_wp2_with fail
      clear q0 q1 q2 q3
      refine (OfF_calls _ _ _ fal x W0 (HM.out.ext XW.out)).mono ?_
      rintro e w2 hR
      obtain ⟨g0, ka, kn, kc, la, ln, lc, fa, fn, fc, ma, mn, mc, rfl, ⟨hkn, hln, hfn, hmn⟩, hFB, hNL, hx⟩ := hR.open
      have hok := fok x
      have hx30 : x.cross.length ≤ 30 := by rw [← Hcn.out]; have := Hbig.out; omega
      have hbd := hok.bd6 (by omega)
      have hchk := hok.chk (by omega)
      have hOKT := hok.ok
      obtain ⟨f, hf⟩ : ∃ f, f = ofF x := ⟨_, rfl⟩
      rw [← hf] at hkn hln hfn hFB hbd hchk hOKT
      obtain ⟨W2, hW2⟩ : ∃ W2, W2 = w2.alloc (.cells #[.slice (some ⟨g0, 0, none⟩) 6 6, .slice ka kn kc, .slice la ln lc, .slice fa fn fc] 35) := ⟨_, rfl⟩
      have X2 := Lib.hid (show Ext w W2 by rw [hW2]; exact (XW.out.trans hx).alloc _)
      have hFB2 : FB W2 (.slice (some ⟨g0, 0, none⟩) 6 6) (.slice ka kn kc) (.slice la ln lc) (.slice fa fn fc) f := by rw [hW2]; exact hFB.ext ((Ext.refl _).alloc _)
      obtain ⟨gb, hgb⟩ : ∃ gb, gb = w2.heap.size := ⟨_, rfl⟩
      have HB2 := Lib.hid (show B4 W2 gb (.slice (some ⟨g0, 0, none⟩) 6 6) (.slice ka kn kc) (.slice la ln lc) (.slice fa fn fc) 35 by rw [hW2, hgb]; exact B4.new _ _ _ _ _ _)
      have HFB := Lib.hid hFB2; have HW2 := Lib.hid hW2; have HBd := Lib.hid hbd; have Hgb := Lib.hid hgb; have HChk := Lib.hid hchk; have HOKT := Lib.hid hOKT
      have HL := Lib.hid (And.intro hkn (And.intro hln hfn))
      obtain ⟨c1, hT2⟩ := hFB2.t
      have HT2 := Lib.hid hT2
      clear hR hkn hln hfn hmn hFB hNL hx hok hbd hchk hOKT hf hW2 hFB2 hgb hT2 hx30
      go_upto_region 4 with fail
      rw [← HW2.out, ← Hgb.out]
      obtain ⟨q0, q1, q2, q3⟩ := B4.cells HB2.out
      go_wp2_with fail
      clear q0 q1 q2 q3
      go_loopg [5, 6, 7, 8, 9] 6 (fun g sv iv _ _ _ wr => ∃ (y : Nat) (B : ByteArray), g + y = 6 ∧ iv = .int .i64 y ∧ sv = .string B ∧ Hid (Ext W2 wr ∧ B = bst (tabP f.ys y)))
      case atStart => exact ⟨0, bst [], by omega, rfl, rfl, Lib.hid ⟨Ext.refl _, rfl⟩⟩
      case round =>
        obtain ⟨y, B, hgy, rfl, rfl, G⟩ := hrel
        have Hgy := Lib.hid hgy
        by_cases hy : y < 6
        · have e1 : (y : Int) < 6 := by omega
          have e2 : (0 : Int) ≤ y := by omega
          clear hgy
          obtain ⟨ta0, tn0, e, htn, -, -, htt⟩ := HT2.out.open
          cases e
          obtain ⟨b2, o2, ra, rm, rd, e2', hcell, hrm, hLR⟩ := htt y hy
          cases e2'
          obtain ⟨ra', rn', e3, hrn, hrd, hrd9, hrat⟩ := hLR.open
          cases e3
          have Hcell := Lib.hid hcell; have Hrat := Lib.hid hrat; have Hrm := Lib.hid hrm
          have hr1000 : rm ≤ 1000 := by rw [hrm]; exact HBd.out.inn.n5 _ (yi_mem (by rw [HBd.out.l6]; exact hy))
          clear hcell hrat hLR htt htn hrn hrm
          go_wp2_with fail
          obtain ⟨wo, hwo⟩ : ∃ wo, wo = wr := ⟨_, rfl⟩
          subst hwo
          go_loopg [5, 7, 8, 9] rm (fun g2 sv nv _ _ wr => ∃ (n : Nat) (B : ByteArray), g2 + n = rm ∧ nv = .int .i64 n ∧ sv = .string B ∧ Hid (Ext W2 wr ∧ B = bst (tabP f.ys y ++ rowP y (yi f.ys y) n)))
          case atStart => exact ⟨0, B, by omega, rfl, rfl, Lib.hid ⟨G.out.1, by rw [G.out.2]; simp [rowP]⟩⟩
          case round =>
            obtain ⟨n, B, hgn, rfl, rfl, G2⟩ := hrel
            have Hgn := Lib.hid hgn
            obtain ⟨q0, q1, q2, q3⟩ := B4.cells (HB2.out.ext G2.out.1)
            have p0 := G2.out.1.cell Hcell.out
            rw [Nat.zero_add] at p0
            by_cases hnr : n < rm
            · have e3 : (n : Int) < rm := by omega
              have e4 : (0 : Int) ≤ n := by omega
              clear hgn
              obtain ⟨rb, ro, a1, n1, d1, a2, n2, d2, rfl, hAL, hn1, hn2, hNL, hPL⟩ := Hrat.out n hnr
              obtain ⟨l, hl⟩ : ∃ l, l = li (yi f.ys y) n := ⟨_, rfl⟩
              rw [← hl] at hAL hn1 hn2 hNL hPL
              obtain ⟨p1, p2, p3, p4⟩ := hAL.ext G2.out.1
              have hym := yi_mem (l := f.ys) (i := y) (by rw [HBd.out.l6]; exact hy)
              have hlm : l ∈ yi f.ys y := by rw [hl]; exact li_mem (by rw [← Hrm.out]; exact hnr)
              have HlI := Lib.hid (And.intro (HBd.out.inn.ys _ hym _ hlm) (And.intro (HBd.out.inn.n6 _ hym _ hlm) (HBd.out.ln _ hym _ hlm)))
              have HNL := Lib.hid hNL; have HPL := Lib.hid hPL; have Hl := Lib.hid hl; have Hn12 := Lib.hid (And.intro hn1 hn2)
              have hB9 : B.size ≤ 1000000000 := by
                rw [G2.out.2, bst_size, List.length_append]
                have h1 := tabP_len HBd.out y (by omega)
                have h2 := rowP_len HBd.out hy n (by rw [← Hrm.out]; omega)
                omega
              clear hAL hn1 hn2 hNL hPL hl hym hlm
              go_upto_region 12 with fail
              obtain ⟨WB, hWB⟩ : ∃ WB, WB = wr.alloc (.cells #[.int .u8 l.bed, .bool l.new, .slice a1 n1 d1, .slice a2 n2 d2] 46) := ⟨_, rfl⟩
              obtain ⟨gl, hgl⟩ : ∃ gl, gl = wr.heap.size := ⟨_, rfl⟩
              rw [← hWB, ← hgl]
              have XB := Lib.hid (show Ext W2 WB by rw [hWB]; exact G2.out.1.trans ((Ext.refl _).alloc _))
              have HBl := Lib.hid (show B4 WB gl (.int .u8 l.bed) (.bool l.new) (.slice a1 n1 d1) (.slice a2 n2 d2) 46 by rw [hWB, hgl]; exact B4.new _ _ _ _ _ _)
              clear hWB hgl p0 p1 p2 p3 p4 q0 q1 q2 q3
              obtain ⟨q0, q1, q2, q3⟩ := B4.cells HBl.out
              have HidI := Lib.hid (yid_in (y := y) (n := n) hy (by omega))
              obtain ⟨S1, hS1⟩ : ∃ S1, S1 = bst (nameT ⟨(y : Int) + 1, (n : Nat)⟩) := ⟨_, rfl⟩
              have HNm := Lib.hid (show ∀ w', Calls Tryd.prog 18 #[.agg #[.int .u8 ((y : Int) + 1), .int .i64 (n : Int)]] w' fun e w'' => e = .returned (.string S1) ∧ Ext w' w'' from fun w' => by rw [hS1]; exact LName_calls ⟨(y : Int) + 1, (n : Nat)⟩ w' HidI.out (by dsimp only; omega))
              have z1 : S1.size ≤ 43 := by rw [hS1, bst_size]; exact nameT_len HidI.out
              have HS1 := Lib.hid hS1; have HB0 := Lib.hid G2.out.2
              have y1 : ¬ 9223372036854775807 < S1.size + 6 := by omega
              have y2 : ¬ 9223372036854775807 < S1.size + 5 := by omega
              have y3 : ¬ 9223372036854775807 < B.size + (S1.size + 6) := by omega
              have y4 : ¬ 9223372036854775807 < B.size + (S1.size + 5) := by omega
              have t1 : IntKind.i64.wrap ((y : Int) + 1) = (y : Int) + 1 := IntWalk.i64_in _ ⟨by omega, by omega⟩
              have t2 : IntKind.u8.wrap ((y : Int) + 1) = (y : Int) + 1 := IntWalk.u8_in _ ⟨by omega, by omega⟩
              clear hS1
              go_cut [5] from 32 to 120 (fun sv wx => ∃ B', sv = .string B' ∧ Hid (Ext WB wx ∧ B' = bst (tabP f.ys y ++ rowP y (yi f.ys y) n ++ P1 ⟨(y : Int) + 1, (n : Nat)⟩ l)))
              case first =>
                rcases HlI.out.2.2.1 with hbed | hbed
                · skip
                  have q0_1 : WB.cell? ⟨gl, 0, none⟩ = some (.int .u8 0) := by rw [← hbed]; exact q0
                  have HE12 := Lib.hid (show bst (tabP f.ys y ++ rowP y (yi f.ys y) n) ++ (bst (nameT ⟨(y : Int) + 1, (n : Nat)⟩) ++ bst [32, 102, 114, 111, 110, 116]) = bst (tabP f.ys y ++ rowP y (yi f.ys y) n ++ P1 ⟨(y : Int) + 1, (n : Nat)⟩ l) by rw [bst_app, bst_app]; unfold P1; rw [hbed]; rfl)
                  clear q0 q1 q2 q3 hbed
                  refine wp_region_held_drew (S := fun w' => w'.cell? ⟨gl, 0, Option.none⟩ = some (.int .u8 0)) (by kernel_rfl) ?_ (fun hHeld => ?_)
                  · exact q0_1
                  refine wpAnyH_take (i := 0) (v := ?va173_0) rfl (by kernel_rfl) (by kernel_rfl) (by kernel_rfl) (fun _ _ _ h => h) (Or.inl ⟨by rfl, fun w hSw => ?ti173_0⟩) (by assumption) ?rest173_0
                  case ti173_0 => ((try dsimp only at hSw); go_simp; (first | done | with_reducible rfl))
                  try simp only [Act.put, List.getElem_toArray, List.getElem_cons_zero, List.getElem_cons_succ, List.setIfInBounds_toArray, List.set_cons_zero, List.set_cons_succ]
                  refine wpAnyH_take (i := 1) (v := ?va176_1) rfl (by kernel_rfl) (by kernel_rfl) (by kernel_rfl) (fun _ _ _ h => h) (Or.inl ⟨by rfl, fun w hSw => ?ti176_1⟩) (by assumption) ?rest176_1
                  case ti176_1 => ((try dsimp only at hSw); go_simp; (first | done | with_reducible rfl))
                  try simp only [Act.put, List.getElem_toArray, List.getElem_cons_zero, List.getElem_cons_succ, List.setIfInBounds_toArray, List.set_cons_zero, List.set_cons_succ]
                  refine wpAnyH_take (i := 2) (v := ?va179_2) rfl (by kernel_rfl) (by kernel_rfl) (by kernel_rfl) (fun _ _ _ h => h) (Or.inl ⟨by rfl, fun w hSw => ?ti179_2⟩) (by assumption) ?rest179_2
                  case ti179_2 => ((try dsimp only at hSw); go_simp; (first | done | with_reducible rfl))
                  try simp only [Act.put, List.getElem_toArray, List.getElem_cons_zero, List.getElem_cons_succ, List.setIfInBounds_toArray, List.set_cons_zero, List.set_cons_succ]
                  refine wpAnyH_take (i := 3) (v := ?va182_3) rfl (by kernel_rfl) (by kernel_rfl) (by kernel_rfl) (fun _ _ _ h => h) (Or.inl ⟨by rfl, fun w hSw => ?ti182_3⟩) (by assumption) ?rest182_3
                  case ti182_3 => ((try dsimp only at hSw); go_simp; (first | done | with_reducible rfl))
                  try simp only [Act.put, List.getElem_toArray, List.getElem_cons_zero, List.getElem_cons_succ, List.setIfInBounds_toArray, List.set_cons_zero, List.set_cons_succ]
                  refine wpAnyH_take (i := 4) (v := ?va185_4) rfl (by kernel_rfl) (by kernel_rfl) (by kernel_rfl) (fun _ _ _ h => h) (Or.inl ⟨by rfl, fun w hSw => ?ti185_4⟩) (by assumption) ?rest185_4
                  case ti185_4 => ((try dsimp only at hSw); go_simp; (first | done | with_reducible rfl))
                  try simp only [Act.put, List.getElem_toArray, List.getElem_cons_zero, List.getElem_cons_succ, List.setIfInBounds_toArray, List.set_cons_zero, List.set_cons_succ]
                  refine wpAnyH_take (i := 5) (v := ?va188_5) rfl (by kernel_rfl) (by kernel_rfl) (by kernel_rfl) (fun _ _ _ h => h) (Or.inl ⟨by rfl, fun w hSw => ?ti188_5⟩) (by assumption) ?rest188_5
                  case ti188_5 => ((try dsimp only at hSw); go_simp; (first | done | with_reducible rfl))
                  try simp only [Act.put, List.getElem_toArray, List.getElem_cons_zero, List.getElem_cons_succ, List.setIfInBounds_toArray, List.set_cons_zero, List.set_cons_succ]
                  refine wpAnyH_take (i := 8) (v := ?va191_8) rfl (by kernel_rfl) (by kernel_rfl) (by kernel_rfl) (fun _ _ _ h => h) (Or.inl ⟨by rfl, fun w hSw => ?ti191_8⟩) (by assumption) ?rest191_8
                  case ti191_8 => ((try dsimp only at hSw); go_simp; (first | done | with_reducible rfl))
                  try simp only [Act.put, List.getElem_toArray, List.getElem_cons_zero, List.getElem_cons_succ, List.setIfInBounds_toArray, List.set_cons_zero, List.set_cons_succ]
                  refine wpAnyH_take (i := 9) (v := ?va194_9) rfl (by kernel_rfl) (by kernel_rfl) (by kernel_rfl) (fun _ _ _ h => h) (Or.inl ⟨by rfl, fun w hSw => ?ti194_9⟩) (by assumption) ?rest194_9
                  case ti194_9 => ((try dsimp only at hSw); go_simp; (first | done | with_reducible rfl))
                  try simp only [Act.put, List.getElem_toArray, List.getElem_cons_zero, List.getElem_cons_succ, List.setIfInBounds_toArray, List.set_cons_zero, List.set_cons_succ]
                  refine wpAnyH_ready (rs := [6, 7]) (by kernel_rfl) (by simp) ?_
                  refine AllReadyH.cons rfl (fun K hK => ?_) (AllReadyH.cons rfl (fun K hK => ?_) AllReadyH.nil)
                  · as_aux_lemma =>
                    go_simp
                    refine (HNm.out _).mono ?_
                    rintro e w3 ⟨rfl, x⟩
                    have X3 : Hid (Ext WB w3) := Lib.hid (Ext.trans (by (focus (repeat (first | (with_reducible exact Ext.refl _) | (with_reducible apply Ext.drew) | (with_reducible apply Ext.drewN) | (with_reducible apply Ext.alloc))))) x)
                    clear x
                    go_simp
                    refine hK.out _ _ (Ext.cell (Ext.trans X3.out (by (focus (repeat (first | (with_reducible exact Ext.refl _) | (with_reducible apply Ext.drew) | (with_reducible apply Ext.drewN) | (with_reducible apply Ext.alloc)))))) q0_1) (fun hHeld => ?_)
                    clear hK K; try simp only [Act.put, List.getElem_toArray, List.getElem_cons_zero, List.getElem_cons_succ, List.setIfInBounds_toArray, List.set_cons_zero, List.set_cons_succ]
                    refine wpAnyH_ready (rs := [7]) (by kernel_rfl) (by simp) ?_
                    refine AllReadyH.cons rfl (fun K hK => ?_) AllReadyH.nil
                    go_simp
                    refine hK.out _ _ (Ext.cell (Ext.trans X3.out (by (focus (repeat (first | (with_reducible exact Ext.refl _) | (with_reducible apply Ext.drew) | (with_reducible apply Ext.drewN) | (with_reducible apply Ext.alloc)))))) q0_1) (fun hHeld => ?_)
                    clear hK K; try simp only [Act.put, List.getElem_toArray, List.getElem_cons_zero, List.getElem_cons_succ, List.setIfInBounds_toArray, List.set_cons_zero, List.set_cons_succ]
                    refine wpAnyH_ready (rs := [10]) (by kernel_rfl) (by simp) ?_
                    refine AllReadyH.cons rfl (fun K hK => ?_) AllReadyH.nil
                    go_simp
                    refine hK.out _ _ (Ext.cell (Ext.trans X3.out (by (focus (repeat (first | (with_reducible exact Ext.refl _) | (with_reducible apply Ext.drew) | (with_reducible apply Ext.drewN) | (with_reducible apply Ext.alloc)))))) q0_1) (fun hHeld => ?_)
                    clear hK K; try simp only [Act.put, List.getElem_toArray, List.getElem_cons_zero, List.getElem_cons_succ, List.setIfInBounds_toArray, List.set_cons_zero, List.set_cons_succ]
                    refine wpAnyH_ready (rs := [11]) (by kernel_rfl) (by simp) ?_
                    refine AllReadyH.cons rfl (fun K hK => ?_) AllReadyH.nil
                    go_simp
                    refine hK.out _ _ (Ext.cell (Ext.trans X3.out (by (focus (repeat (first | (with_reducible exact Ext.refl _) | (with_reducible apply Ext.drew) | (with_reducible apply Ext.drewN) | (with_reducible apply Ext.alloc)))))) q0_1) (fun hHeld => ?_)
                    clear hK K; try simp only [Act.put, List.getElem_toArray, List.getElem_cons_zero, List.getElem_cons_succ, List.setIfInBounds_toArray, List.set_cons_zero, List.set_cons_succ]
                    refine wpAnyH_ready (rs := [12]) (by kernel_rfl) (by simp) ?_
                    refine AllReadyH.cons rfl (fun K hK => ?_) AllReadyH.nil
                    go_simp
                    refine hK.out _ _ (Ext.cell (Ext.trans X3.out (by (focus (repeat (first | (with_reducible exact Ext.refl _) | (with_reducible apply Ext.drew) | (with_reducible apply Ext.drewN) | (with_reducible apply Ext.alloc)))))) q0_1) (fun hHeld => ?_)
                    clear hK K; try simp only [Act.put, List.getElem_toArray, List.getElem_cons_zero, List.getElem_cons_succ, List.setIfInBounds_toArray, List.set_cons_zero, List.set_cons_succ]
                    refine wpAnyH_ready (rs := [13]) (by kernel_rfl) (by simp) ?_
                    refine AllReadyH.cons rfl (fun K hK => ?_) AllReadyH.nil
                    go_simp
                    refine hK.out _ _ (Ext.cell (Ext.trans X3.out (by (focus (repeat (first | (with_reducible exact Ext.refl _) | (with_reducible apply Ext.drew) | (with_reducible apply Ext.drewN) | (with_reducible apply Ext.alloc)))))) q0_1) (fun hHeld => ?_)
                    clear hK K; try simp only [Act.put, List.getElem_toArray, List.getElem_cons_zero, List.getElem_cons_succ, List.setIfInBounds_toArray, List.set_cons_zero, List.set_cons_succ]
                    refine wpAnyH_ready (rs := [14]) (by kernel_rfl) (by simp) ?_
                    refine AllReadyH.cons rfl (fun K hK => ?_) AllReadyH.nil
                    go_simp
                    refine hK.out _ _ (Ext.cell (Ext.trans X3.out (by (focus (repeat (first | (with_reducible exact Ext.refl _) | (with_reducible apply Ext.drew) | (with_reducible apply Ext.drewN) | (with_reducible apply Ext.alloc)))))) q0_1) (fun hHeld => ?_)
                    clear hK K; try simp only [Act.put, List.getElem_toArray, List.getElem_cons_zero, List.getElem_cons_succ, List.setIfInBounds_toArray, List.set_cons_zero, List.set_cons_succ]
                    refine wpAnyH_done (by kernel_rfl) ?_ _
                    go_wp2_with fail
                    go_meet
                    case rel => exact ⟨_, rfl, Lib.hid ⟨Ext.trans X3.out (by (focus (repeat (first | (with_reducible exact Ext.refl _) | (with_reducible apply Ext.drew) | (with_reducible apply Ext.drewN) | (with_reducible apply Ext.alloc))))), by rw [HB0.out, HS1.out]; exact HE12.out⟩⟩
                  · as_aux_lemma =>
                    go_simp
                    refine hK.out _ _ (Ext.cell (by (focus (repeat (first | (with_reducible exact Ext.refl _) | (with_reducible apply Ext.drew) | (with_reducible apply Ext.drewN) | (with_reducible apply Ext.alloc))))) q0_1) (fun hHeld => ?_)
                    clear hK K; try simp only [Act.put, List.getElem_toArray, List.getElem_cons_zero, List.getElem_cons_succ, List.setIfInBounds_toArray, List.set_cons_zero, List.set_cons_succ]
                    refine wpAnyH_take (i := 10) (v := ?vb1) rfl (by kernel_rfl) (by kernel_rfl) (by kernel_rfl) (fun _ _ _ h => h) (Or.inl ⟨by rfl, fun w hSw => ?tj1⟩) (by assumption) ?rs1
                    case tj1 => ((try dsimp only at hSw); go_simp; (first | done | with_reducible rfl))
                    try simp only [Act.put, List.getElem_toArray, List.getElem_cons_zero, List.getElem_cons_succ, List.setIfInBounds_toArray, List.set_cons_zero, List.set_cons_succ]
                    refine wpAnyH_ready (rs := [6, 11]) (by kernel_rfl) (by simp) ?_
                    refine AllReadyH.cons rfl (fun K hK => ?_) (AllReadyH.cons rfl (fun K hK => ?_) AllReadyH.nil)
                    · as_aux_lemma =>
                      go_simp
                      refine (HNm.out _).mono ?_
                      rintro e w3 ⟨rfl, x⟩
                      have X3 : Hid (Ext WB w3) := Lib.hid (Ext.trans (by (focus (repeat (first | (with_reducible exact Ext.refl _) | (with_reducible apply Ext.drew) | (with_reducible apply Ext.drewN) | (with_reducible apply Ext.alloc))))) x)
                      have hcl : w3.cell? ⟨WB.heap.size, 0, none⟩ = some (.string ⟨#[32, 102, 114, 111, 110, 116]⟩) := Ext.cell x (show ((WB).alloc (.cells #[.string ⟨#[32, 102, 114, 111, 110, 116]⟩, .string ⟨#[32, 98, 97, 99, 107]⟩] 9)).drew.cell? ⟨WB.heap.size, 0, none⟩ = some (.string ⟨#[32, 102, 114, 111, 110, 116]⟩) from cell_of_blk (show ((WB).alloc (.cells #[.string ⟨#[32, 102, 114, 111, 110, 116]⟩, .string ⟨#[32, 98, 97, 99, 107]⟩] 9)).drew.heap[WB.heap.size]? = some (Obj.cells #[.string ⟨#[32, 102, 114, 111, 110, 116]⟩, .string ⟨#[32, 98, 97, 99, 107]⟩] 9 (0, 0)) from Deep.blk_alloc_new _ _) rfl)
                      clear x
                      go_simp
                      refine hK.out _ _ (Ext.cell (Ext.trans X3.out (by (focus (repeat (first | (with_reducible exact Ext.refl _) | (with_reducible apply Ext.drew) | (with_reducible apply Ext.drewN) | (with_reducible apply Ext.alloc)))))) q0_1) (fun hHeld => ?_)
                      clear hK K; try simp only [Act.put, List.getElem_toArray, List.getElem_cons_zero, List.getElem_cons_succ, List.setIfInBounds_toArray, List.set_cons_zero, List.set_cons_succ]
                      refine wpAnyH_ready (rs := [11]) (by kernel_rfl) (by simp) ?_
                      refine AllReadyH.cons rfl (fun K hK => ?_) AllReadyH.nil
                      go_simp
                      clear hcl
                      refine hK.out _ _ (Ext.cell (Ext.trans X3.out (by (focus (repeat (first | (with_reducible exact Ext.refl _) | (with_reducible apply Ext.drew) | (with_reducible apply Ext.drewN) | (with_reducible apply Ext.alloc)))))) q0_1) (fun hHeld => ?_)
                      clear hK K; try simp only [Act.put, List.getElem_toArray, List.getElem_cons_zero, List.getElem_cons_succ, List.setIfInBounds_toArray, List.set_cons_zero, List.set_cons_succ]
                      refine wpAnyH_ready (rs := [12]) (by kernel_rfl) (by simp) ?_
                      refine AllReadyH.cons rfl (fun K hK => ?_) AllReadyH.nil
                      go_simp
                      refine hK.out _ _ (Ext.cell (Ext.trans X3.out (by (focus (repeat (first | (with_reducible exact Ext.refl _) | (with_reducible apply Ext.drew) | (with_reducible apply Ext.drewN) | (with_reducible apply Ext.alloc)))))) q0_1) (fun hHeld => ?_)
                      clear hK K; try simp only [Act.put, List.getElem_toArray, List.getElem_cons_zero, List.getElem_cons_succ, List.setIfInBounds_toArray, List.set_cons_zero, List.set_cons_succ]
                      refine wpAnyH_ready (rs := [13]) (by kernel_rfl) (by simp) ?_
                      refine AllReadyH.cons rfl (fun K hK => ?_) AllReadyH.nil
                      go_simp
                      refine hK.out _ _ (Ext.cell (Ext.trans X3.out (by (focus (repeat (first | (with_reducible exact Ext.refl _) | (with_reducible apply Ext.drew) | (with_reducible apply Ext.drewN) | (with_reducible apply Ext.alloc)))))) q0_1) (fun hHeld => ?_)
                      clear hK K; try simp only [Act.put, List.getElem_toArray, List.getElem_cons_zero, List.getElem_cons_succ, List.setIfInBounds_toArray, List.set_cons_zero, List.set_cons_succ]
                      refine wpAnyH_ready (rs := [14]) (by kernel_rfl) (by simp) ?_
                      refine AllReadyH.cons rfl (fun K hK => ?_) AllReadyH.nil
                      go_simp
                      refine hK.out _ _ (Ext.cell (Ext.trans X3.out (by (focus (repeat (first | (with_reducible exact Ext.refl _) | (with_reducible apply Ext.drew) | (with_reducible apply Ext.drewN) | (with_reducible apply Ext.alloc)))))) q0_1) (fun hHeld => ?_)
                      clear hK K; try simp only [Act.put, List.getElem_toArray, List.getElem_cons_zero, List.getElem_cons_succ, List.setIfInBounds_toArray, List.set_cons_zero, List.set_cons_succ]
                      refine wpAnyH_done (by kernel_rfl) ?_ _
                      go_wp2_with fail
                      go_meet
                      case rel => exact ⟨_, rfl, Lib.hid ⟨Ext.trans X3.out (by (focus (repeat (first | (with_reducible exact Ext.refl _) | (with_reducible apply Ext.drew) | (with_reducible apply Ext.drewN) | (with_reducible apply Ext.alloc))))), by rw [HB0.out, HS1.out]; exact HE12.out⟩⟩
                    · as_aux_lemma =>
                      go_simp
                      refine hK.out _ _ (Ext.cell (by (focus (repeat (first | (with_reducible exact Ext.refl _) | (with_reducible apply Ext.drew) | (with_reducible apply Ext.drewN) | (with_reducible apply Ext.alloc))))) q0_1) (fun hHeld => ?_)
                      clear hK K; try simp only [Act.put, List.getElem_toArray, List.getElem_cons_zero, List.getElem_cons_succ, List.setIfInBounds_toArray, List.set_cons_zero, List.set_cons_succ]
                      refine wpAnyH_ready (rs := [6]) (by kernel_rfl) (by simp) ?_
                      refine AllReadyH.cons rfl (fun K hK => ?_) AllReadyH.nil
                      go_simp
                      refine (HNm.out _).mono ?_
                      rintro e w3 ⟨rfl, x⟩
                      have X3 : Hid (Ext WB w3) := Lib.hid (Ext.trans (by (focus (repeat (first | (with_reducible exact Ext.refl _) | (with_reducible apply Ext.drew) | (with_reducible apply Ext.drewN) | (with_reducible apply Ext.alloc))))) x)
                      clear x
                      go_simp
                      refine hK.out _ _ (Ext.cell (Ext.trans X3.out (by (focus (repeat (first | (with_reducible exact Ext.refl _) | (with_reducible apply Ext.drew) | (with_reducible apply Ext.drewN) | (with_reducible apply Ext.alloc)))))) q0_1) (fun hHeld => ?_)
                      clear hK K; try simp only [Act.put, List.getElem_toArray, List.getElem_cons_zero, List.getElem_cons_succ, List.setIfInBounds_toArray, List.set_cons_zero, List.set_cons_succ]
                      refine wpAnyH_ready (rs := [12]) (by kernel_rfl) (by simp) ?_
                      refine AllReadyH.cons rfl (fun K hK => ?_) AllReadyH.nil
                      go_simp
                      refine hK.out _ _ (Ext.cell (Ext.trans X3.out (by (focus (repeat (first | (with_reducible exact Ext.refl _) | (with_reducible apply Ext.drew) | (with_reducible apply Ext.drewN) | (with_reducible apply Ext.alloc)))))) q0_1) (fun hHeld => ?_)
                      clear hK K; try simp only [Act.put, List.getElem_toArray, List.getElem_cons_zero, List.getElem_cons_succ, List.setIfInBounds_toArray, List.set_cons_zero, List.set_cons_succ]
                      refine wpAnyH_ready (rs := [13]) (by kernel_rfl) (by simp) ?_
                      refine AllReadyH.cons rfl (fun K hK => ?_) AllReadyH.nil
                      go_simp
                      refine hK.out _ _ (Ext.cell (Ext.trans X3.out (by (focus (repeat (first | (with_reducible exact Ext.refl _) | (with_reducible apply Ext.drew) | (with_reducible apply Ext.drewN) | (with_reducible apply Ext.alloc)))))) q0_1) (fun hHeld => ?_)
                      clear hK K; try simp only [Act.put, List.getElem_toArray, List.getElem_cons_zero, List.getElem_cons_succ, List.setIfInBounds_toArray, List.set_cons_zero, List.set_cons_succ]
                      refine wpAnyH_ready (rs := [14]) (by kernel_rfl) (by simp) ?_
                      refine AllReadyH.cons rfl (fun K hK => ?_) AllReadyH.nil
                      go_simp
                      refine hK.out _ _ (Ext.cell (Ext.trans X3.out (by (focus (repeat (first | (with_reducible exact Ext.refl _) | (with_reducible apply Ext.drew) | (with_reducible apply Ext.drewN) | (with_reducible apply Ext.alloc)))))) q0_1) (fun hHeld => ?_)
                      clear hK K; try simp only [Act.put, List.getElem_toArray, List.getElem_cons_zero, List.getElem_cons_succ, List.setIfInBounds_toArray, List.set_cons_zero, List.set_cons_succ]
                      refine wpAnyH_done (by kernel_rfl) ?_ _
                      go_wp2_with fail
                      go_meet
                      case rel => exact ⟨_, rfl, Lib.hid ⟨Ext.trans X3.out (by (focus (repeat (first | (with_reducible exact Ext.refl _) | (with_reducible apply Ext.drew) | (with_reducible apply Ext.drewN) | (with_reducible apply Ext.alloc))))), by rw [HB0.out, HS1.out]; exact HE12.out⟩⟩
                · skip
                  have q0_1 : WB.cell? ⟨gl, 0, none⟩ = some (.int .u8 1) := by rw [← hbed]; exact q0
                  have HE12 := Lib.hid (show bst (tabP f.ys y ++ rowP y (yi f.ys y) n) ++ (bst (nameT ⟨(y : Int) + 1, (n : Nat)⟩) ++ bst [32, 98, 97, 99, 107]) = bst (tabP f.ys y ++ rowP y (yi f.ys y) n ++ P1 ⟨(y : Int) + 1, (n : Nat)⟩ l) by rw [bst_app, bst_app]; unfold P1; rw [hbed]; rfl)
                  clear q0 q1 q2 q3 hbed
                  refine wp_region_held_drew (S := fun w' => w'.cell? ⟨gl, 0, Option.none⟩ = some (.int .u8 1)) (by kernel_rfl) ?_ (fun hHeld => ?_)
                  · exact q0_1
                  refine wpAnyH_take (i := 0) (v := ?va325_0) rfl (by kernel_rfl) (by kernel_rfl) (by kernel_rfl) (fun _ _ _ h => h) (Or.inl ⟨by rfl, fun w hSw => ?ti325_0⟩) (by assumption) ?rest325_0
                  case ti325_0 => ((try dsimp only at hSw); go_simp; (first | done | with_reducible rfl))
                  try simp only [Act.put, List.getElem_toArray, List.getElem_cons_zero, List.getElem_cons_succ, List.setIfInBounds_toArray, List.set_cons_zero, List.set_cons_succ]
                  refine wpAnyH_take (i := 1) (v := ?va328_1) rfl (by kernel_rfl) (by kernel_rfl) (by kernel_rfl) (fun _ _ _ h => h) (Or.inl ⟨by rfl, fun w hSw => ?ti328_1⟩) (by assumption) ?rest328_1
                  case ti328_1 => ((try dsimp only at hSw); go_simp; (first | done | with_reducible rfl))
                  try simp only [Act.put, List.getElem_toArray, List.getElem_cons_zero, List.getElem_cons_succ, List.setIfInBounds_toArray, List.set_cons_zero, List.set_cons_succ]
                  refine wpAnyH_take (i := 2) (v := ?va331_2) rfl (by kernel_rfl) (by kernel_rfl) (by kernel_rfl) (fun _ _ _ h => h) (Or.inl ⟨by rfl, fun w hSw => ?ti331_2⟩) (by assumption) ?rest331_2
                  case ti331_2 => ((try dsimp only at hSw); go_simp; (first | done | with_reducible rfl))
                  try simp only [Act.put, List.getElem_toArray, List.getElem_cons_zero, List.getElem_cons_succ, List.setIfInBounds_toArray, List.set_cons_zero, List.set_cons_succ]
                  refine wpAnyH_take (i := 3) (v := ?va334_3) rfl (by kernel_rfl) (by kernel_rfl) (by kernel_rfl) (fun _ _ _ h => h) (Or.inl ⟨by rfl, fun w hSw => ?ti334_3⟩) (by assumption) ?rest334_3
                  case ti334_3 => ((try dsimp only at hSw); go_simp; (first | done | with_reducible rfl))
                  try simp only [Act.put, List.getElem_toArray, List.getElem_cons_zero, List.getElem_cons_succ, List.setIfInBounds_toArray, List.set_cons_zero, List.set_cons_succ]
                  refine wpAnyH_take (i := 4) (v := ?va337_4) rfl (by kernel_rfl) (by kernel_rfl) (by kernel_rfl) (fun _ _ _ h => h) (Or.inl ⟨by rfl, fun w hSw => ?ti337_4⟩) (by assumption) ?rest337_4
                  case ti337_4 => ((try dsimp only at hSw); go_simp; (first | done | with_reducible rfl))
                  try simp only [Act.put, List.getElem_toArray, List.getElem_cons_zero, List.getElem_cons_succ, List.setIfInBounds_toArray, List.set_cons_zero, List.set_cons_succ]
                  refine wpAnyH_take (i := 5) (v := ?va340_5) rfl (by kernel_rfl) (by kernel_rfl) (by kernel_rfl) (fun _ _ _ h => h) (Or.inl ⟨by rfl, fun w hSw => ?ti340_5⟩) (by assumption) ?rest340_5
                  case ti340_5 => ((try dsimp only at hSw); go_simp; (first | done | with_reducible rfl))
                  try simp only [Act.put, List.getElem_toArray, List.getElem_cons_zero, List.getElem_cons_succ, List.setIfInBounds_toArray, List.set_cons_zero, List.set_cons_succ]
                  refine wpAnyH_take (i := 8) (v := ?va343_8) rfl (by kernel_rfl) (by kernel_rfl) (by kernel_rfl) (fun _ _ _ h => h) (Or.inl ⟨by rfl, fun w hSw => ?ti343_8⟩) (by assumption) ?rest343_8
                  case ti343_8 => ((try dsimp only at hSw); go_simp; (first | done | with_reducible rfl))
                  try simp only [Act.put, List.getElem_toArray, List.getElem_cons_zero, List.getElem_cons_succ, List.setIfInBounds_toArray, List.set_cons_zero, List.set_cons_succ]
                  refine wpAnyH_take (i := 9) (v := ?va346_9) rfl (by kernel_rfl) (by kernel_rfl) (by kernel_rfl) (fun _ _ _ h => h) (Or.inl ⟨by rfl, fun w hSw => ?ti346_9⟩) (by assumption) ?rest346_9
                  case ti346_9 => ((try dsimp only at hSw); go_simp; (first | done | with_reducible rfl))
                  try simp only [Act.put, List.getElem_toArray, List.getElem_cons_zero, List.getElem_cons_succ, List.setIfInBounds_toArray, List.set_cons_zero, List.set_cons_succ]
                  refine wpAnyH_ready (rs := [6, 7]) (by kernel_rfl) (by simp) ?_
                  refine AllReadyH.cons rfl (fun K hK => ?_) (AllReadyH.cons rfl (fun K hK => ?_) AllReadyH.nil)
                  · as_aux_lemma =>
                    go_simp
                    refine (HNm.out _).mono ?_
                    rintro e w3 ⟨rfl, x⟩
                    have X3 : Hid (Ext WB w3) := Lib.hid (Ext.trans (by (focus (repeat (first | (with_reducible exact Ext.refl _) | (with_reducible apply Ext.drew) | (with_reducible apply Ext.drewN) | (with_reducible apply Ext.alloc))))) x)
                    clear x
                    go_simp
                    refine hK.out _ _ (Ext.cell (Ext.trans X3.out (by (focus (repeat (first | (with_reducible exact Ext.refl _) | (with_reducible apply Ext.drew) | (with_reducible apply Ext.drewN) | (with_reducible apply Ext.alloc)))))) q0_1) (fun hHeld => ?_)
                    clear hK K; try simp only [Act.put, List.getElem_toArray, List.getElem_cons_zero, List.getElem_cons_succ, List.setIfInBounds_toArray, List.set_cons_zero, List.set_cons_succ]
                    refine wpAnyH_ready (rs := [7]) (by kernel_rfl) (by simp) ?_
                    refine AllReadyH.cons rfl (fun K hK => ?_) AllReadyH.nil
                    go_simp
                    refine hK.out _ _ (Ext.cell (Ext.trans X3.out (by (focus (repeat (first | (with_reducible exact Ext.refl _) | (with_reducible apply Ext.drew) | (with_reducible apply Ext.drewN) | (with_reducible apply Ext.alloc)))))) q0_1) (fun hHeld => ?_)
                    clear hK K; try simp only [Act.put, List.getElem_toArray, List.getElem_cons_zero, List.getElem_cons_succ, List.setIfInBounds_toArray, List.set_cons_zero, List.set_cons_succ]
                    refine wpAnyH_ready (rs := [10]) (by kernel_rfl) (by simp) ?_
                    refine AllReadyH.cons rfl (fun K hK => ?_) AllReadyH.nil
                    go_simp
                    refine hK.out _ _ (Ext.cell (Ext.trans X3.out (by (focus (repeat (first | (with_reducible exact Ext.refl _) | (with_reducible apply Ext.drew) | (with_reducible apply Ext.drewN) | (with_reducible apply Ext.alloc)))))) q0_1) (fun hHeld => ?_)
                    clear hK K; try simp only [Act.put, List.getElem_toArray, List.getElem_cons_zero, List.getElem_cons_succ, List.setIfInBounds_toArray, List.set_cons_zero, List.set_cons_succ]
                    refine wpAnyH_ready (rs := [11]) (by kernel_rfl) (by simp) ?_
                    refine AllReadyH.cons rfl (fun K hK => ?_) AllReadyH.nil
                    go_simp
                    refine hK.out _ _ (Ext.cell (Ext.trans X3.out (by (focus (repeat (first | (with_reducible exact Ext.refl _) | (with_reducible apply Ext.drew) | (with_reducible apply Ext.drewN) | (with_reducible apply Ext.alloc)))))) q0_1) (fun hHeld => ?_)
                    clear hK K; try simp only [Act.put, List.getElem_toArray, List.getElem_cons_zero, List.getElem_cons_succ, List.setIfInBounds_toArray, List.set_cons_zero, List.set_cons_succ]
                    refine wpAnyH_ready (rs := [12]) (by kernel_rfl) (by simp) ?_
                    refine AllReadyH.cons rfl (fun K hK => ?_) AllReadyH.nil
                    go_simp
                    refine hK.out _ _ (Ext.cell (Ext.trans X3.out (by (focus (repeat (first | (with_reducible exact Ext.refl _) | (with_reducible apply Ext.drew) | (with_reducible apply Ext.drewN) | (with_reducible apply Ext.alloc)))))) q0_1) (fun hHeld => ?_)
                    clear hK K; try simp only [Act.put, List.getElem_toArray, List.getElem_cons_zero, List.getElem_cons_succ, List.setIfInBounds_toArray, List.set_cons_zero, List.set_cons_succ]
                    refine wpAnyH_ready (rs := [13]) (by kernel_rfl) (by simp) ?_
                    refine AllReadyH.cons rfl (fun K hK => ?_) AllReadyH.nil
                    go_simp
                    refine hK.out _ _ (Ext.cell (Ext.trans X3.out (by (focus (repeat (first | (with_reducible exact Ext.refl _) | (with_reducible apply Ext.drew) | (with_reducible apply Ext.drewN) | (with_reducible apply Ext.alloc)))))) q0_1) (fun hHeld => ?_)
                    clear hK K; try simp only [Act.put, List.getElem_toArray, List.getElem_cons_zero, List.getElem_cons_succ, List.setIfInBounds_toArray, List.set_cons_zero, List.set_cons_succ]
                    refine wpAnyH_ready (rs := [14]) (by kernel_rfl) (by simp) ?_
                    refine AllReadyH.cons rfl (fun K hK => ?_) AllReadyH.nil
                    go_simp
                    refine hK.out _ _ (Ext.cell (Ext.trans X3.out (by (focus (repeat (first | (with_reducible exact Ext.refl _) | (with_reducible apply Ext.drew) | (with_reducible apply Ext.drewN) | (with_reducible apply Ext.alloc)))))) q0_1) (fun hHeld => ?_)
                    clear hK K; try simp only [Act.put, List.getElem_toArray, List.getElem_cons_zero, List.getElem_cons_succ, List.setIfInBounds_toArray, List.set_cons_zero, List.set_cons_succ]
                    refine wpAnyH_done (by kernel_rfl) ?_ _
                    go_wp2_with fail
                    go_meet
                    case rel => exact ⟨_, rfl, Lib.hid ⟨Ext.trans X3.out (by (focus (repeat (first | (with_reducible exact Ext.refl _) | (with_reducible apply Ext.drew) | (with_reducible apply Ext.drewN) | (with_reducible apply Ext.alloc))))), by rw [HB0.out, HS1.out]; exact HE12.out⟩⟩
                  · as_aux_lemma =>
                    go_simp
                    refine hK.out _ _ (Ext.cell (by (focus (repeat (first | (with_reducible exact Ext.refl _) | (with_reducible apply Ext.drew) | (with_reducible apply Ext.drewN) | (with_reducible apply Ext.alloc))))) q0_1) (fun hHeld => ?_)
                    clear hK K; try simp only [Act.put, List.getElem_toArray, List.getElem_cons_zero, List.getElem_cons_succ, List.setIfInBounds_toArray, List.set_cons_zero, List.set_cons_succ]
                    refine wpAnyH_take (i := 10) (v := ?vb2) rfl (by kernel_rfl) (by kernel_rfl) (by kernel_rfl) (fun _ _ _ h => h) (Or.inl ⟨by rfl, fun w hSw => ?tj2⟩) (by assumption) ?rs2
                    case tj2 => ((try dsimp only at hSw); go_simp; (first | done | with_reducible rfl))
                    try simp only [Act.put, List.getElem_toArray, List.getElem_cons_zero, List.getElem_cons_succ, List.setIfInBounds_toArray, List.set_cons_zero, List.set_cons_succ]
                    refine wpAnyH_ready (rs := [6, 11]) (by kernel_rfl) (by simp) ?_
                    refine AllReadyH.cons rfl (fun K hK => ?_) (AllReadyH.cons rfl (fun K hK => ?_) AllReadyH.nil)
                    · as_aux_lemma =>
                      go_simp
                      refine (HNm.out _).mono ?_
                      rintro e w3 ⟨rfl, x⟩
                      have X3 : Hid (Ext WB w3) := Lib.hid (Ext.trans (by (focus (repeat (first | (with_reducible exact Ext.refl _) | (with_reducible apply Ext.drew) | (with_reducible apply Ext.drewN) | (with_reducible apply Ext.alloc))))) x)
                      have hcl : w3.cell? ⟨WB.heap.size, 1, none⟩ = some (.string ⟨#[32, 98, 97, 99, 107]⟩) := Ext.cell x (show ((WB).alloc (.cells #[.string ⟨#[32, 102, 114, 111, 110, 116]⟩, .string ⟨#[32, 98, 97, 99, 107]⟩] 9)).drew.cell? ⟨WB.heap.size, 1, none⟩ = some (.string ⟨#[32, 98, 97, 99, 107]⟩) from cell_of_blk (show ((WB).alloc (.cells #[.string ⟨#[32, 102, 114, 111, 110, 116]⟩, .string ⟨#[32, 98, 97, 99, 107]⟩] 9)).drew.heap[WB.heap.size]? = some (Obj.cells #[.string ⟨#[32, 102, 114, 111, 110, 116]⟩, .string ⟨#[32, 98, 97, 99, 107]⟩] 9 (0, 0)) from Deep.blk_alloc_new _ _) rfl)
                      clear x
                      go_simp
                      refine hK.out _ _ (Ext.cell (Ext.trans X3.out (by (focus (repeat (first | (with_reducible exact Ext.refl _) | (with_reducible apply Ext.drew) | (with_reducible apply Ext.drewN) | (with_reducible apply Ext.alloc)))))) q0_1) (fun hHeld => ?_)
                      clear hK K; try simp only [Act.put, List.getElem_toArray, List.getElem_cons_zero, List.getElem_cons_succ, List.setIfInBounds_toArray, List.set_cons_zero, List.set_cons_succ]
                      refine wpAnyH_ready (rs := [11]) (by kernel_rfl) (by simp) ?_
                      refine AllReadyH.cons rfl (fun K hK => ?_) AllReadyH.nil
                      go_simp
                      clear hcl
                      refine hK.out _ _ (Ext.cell (Ext.trans X3.out (by (focus (repeat (first | (with_reducible exact Ext.refl _) | (with_reducible apply Ext.drew) | (with_reducible apply Ext.drewN) | (with_reducible apply Ext.alloc)))))) q0_1) (fun hHeld => ?_)
                      clear hK K; try simp only [Act.put, List.getElem_toArray, List.getElem_cons_zero, List.getElem_cons_succ, List.setIfInBounds_toArray, List.set_cons_zero, List.set_cons_succ]
                      refine wpAnyH_ready (rs := [12]) (by kernel_rfl) (by simp) ?_
                      refine AllReadyH.cons rfl (fun K hK => ?_) AllReadyH.nil
                      go_simp
                      refine hK.out _ _ (Ext.cell (Ext.trans X3.out (by (focus (repeat (first | (with_reducible exact Ext.refl _) | (with_reducible apply Ext.drew) | (with_reducible apply Ext.drewN) | (with_reducible apply Ext.alloc)))))) q0_1) (fun hHeld => ?_)
                      clear hK K; try simp only [Act.put, List.getElem_toArray, List.getElem_cons_zero, List.getElem_cons_succ, List.setIfInBounds_toArray, List.set_cons_zero, List.set_cons_succ]
                      refine wpAnyH_ready (rs := [13]) (by kernel_rfl) (by simp) ?_
                      refine AllReadyH.cons rfl (fun K hK => ?_) AllReadyH.nil
                      go_simp
                      refine hK.out _ _ (Ext.cell (Ext.trans X3.out (by (focus (repeat (first | (with_reducible exact Ext.refl _) | (with_reducible apply Ext.drew) | (with_reducible apply Ext.drewN) | (with_reducible apply Ext.alloc)))))) q0_1) (fun hHeld => ?_)
                      clear hK K; try simp only [Act.put, List.getElem_toArray, List.getElem_cons_zero, List.getElem_cons_succ, List.setIfInBounds_toArray, List.set_cons_zero, List.set_cons_succ]
                      refine wpAnyH_ready (rs := [14]) (by kernel_rfl) (by simp) ?_
                      refine AllReadyH.cons rfl (fun K hK => ?_) AllReadyH.nil
                      go_simp
                      refine hK.out _ _ (Ext.cell (Ext.trans X3.out (by (focus (repeat (first | (with_reducible exact Ext.refl _) | (with_reducible apply Ext.drew) | (with_reducible apply Ext.drewN) | (with_reducible apply Ext.alloc)))))) q0_1) (fun hHeld => ?_)
                      clear hK K; try simp only [Act.put, List.getElem_toArray, List.getElem_cons_zero, List.getElem_cons_succ, List.setIfInBounds_toArray, List.set_cons_zero, List.set_cons_succ]
                      refine wpAnyH_done (by kernel_rfl) ?_ _
                      go_wp2_with fail
                      go_meet
                      case rel => exact ⟨_, rfl, Lib.hid ⟨Ext.trans X3.out (by (focus (repeat (first | (with_reducible exact Ext.refl _) | (with_reducible apply Ext.drew) | (with_reducible apply Ext.drewN) | (with_reducible apply Ext.alloc))))), by rw [HB0.out, HS1.out]; exact HE12.out⟩⟩
                    · as_aux_lemma =>
                      go_simp
                      refine hK.out _ _ (Ext.cell (by (focus (repeat (first | (with_reducible exact Ext.refl _) | (with_reducible apply Ext.drew) | (with_reducible apply Ext.drewN) | (with_reducible apply Ext.alloc))))) q0_1) (fun hHeld => ?_)
                      clear hK K; try simp only [Act.put, List.getElem_toArray, List.getElem_cons_zero, List.getElem_cons_succ, List.setIfInBounds_toArray, List.set_cons_zero, List.set_cons_succ]
                      refine wpAnyH_ready (rs := [6]) (by kernel_rfl) (by simp) ?_
                      refine AllReadyH.cons rfl (fun K hK => ?_) AllReadyH.nil
                      go_simp
                      refine (HNm.out _).mono ?_
                      rintro e w3 ⟨rfl, x⟩
                      have X3 : Hid (Ext WB w3) := Lib.hid (Ext.trans (by (focus (repeat (first | (with_reducible exact Ext.refl _) | (with_reducible apply Ext.drew) | (with_reducible apply Ext.drewN) | (with_reducible apply Ext.alloc))))) x)
                      clear x
                      go_simp
                      refine hK.out _ _ (Ext.cell (Ext.trans X3.out (by (focus (repeat (first | (with_reducible exact Ext.refl _) | (with_reducible apply Ext.drew) | (with_reducible apply Ext.drewN) | (with_reducible apply Ext.alloc)))))) q0_1) (fun hHeld => ?_)
                      clear hK K; try simp only [Act.put, List.getElem_toArray, List.getElem_cons_zero, List.getElem_cons_succ, List.setIfInBounds_toArray, List.set_cons_zero, List.set_cons_succ]
                      refine wpAnyH_ready (rs := [12]) (by kernel_rfl) (by simp) ?_
                      refine AllReadyH.cons rfl (fun K hK => ?_) AllReadyH.nil
                      go_simp
                      refine hK.out _ _ (Ext.cell (Ext.trans X3.out (by (focus (repeat (first | (with_reducible exact Ext.refl _) | (with_reducible apply Ext.drew) | (with_reducible apply Ext.drewN) | (with_reducible apply Ext.alloc)))))) q0_1) (fun hHeld => ?_)
                      clear hK K; try simp only [Act.put, List.getElem_toArray, List.getElem_cons_zero, List.getElem_cons_succ, List.setIfInBounds_toArray, List.set_cons_zero, List.set_cons_succ]
                      refine wpAnyH_ready (rs := [13]) (by kernel_rfl) (by simp) ?_
                      refine AllReadyH.cons rfl (fun K hK => ?_) AllReadyH.nil
                      go_simp
                      refine hK.out _ _ (Ext.cell (Ext.trans X3.out (by (focus (repeat (first | (with_reducible exact Ext.refl _) | (with_reducible apply Ext.drew) | (with_reducible apply Ext.drewN) | (with_reducible apply Ext.alloc)))))) q0_1) (fun hHeld => ?_)
                      clear hK K; try simp only [Act.put, List.getElem_toArray, List.getElem_cons_zero, List.getElem_cons_succ, List.setIfInBounds_toArray, List.set_cons_zero, List.set_cons_succ]
                      refine wpAnyH_ready (rs := [14]) (by kernel_rfl) (by simp) ?_
                      refine AllReadyH.cons rfl (fun K hK => ?_) AllReadyH.nil
                      go_simp
                      refine hK.out _ _ (Ext.cell (Ext.trans X3.out (by (focus (repeat (first | (with_reducible exact Ext.refl _) | (with_reducible apply Ext.drew) | (with_reducible apply Ext.drewN) | (with_reducible apply Ext.alloc)))))) q0_1) (fun hHeld => ?_)
                      clear hK K; try simp only [Act.put, List.getElem_toArray, List.getElem_cons_zero, List.getElem_cons_succ, List.setIfInBounds_toArray, List.set_cons_zero, List.set_cons_succ]
                      refine wpAnyH_done (by kernel_rfl) ?_ _
                      go_wp2_with fail
                      go_meet
                      case rel => exact ⟨_, rfl, Lib.hid ⟨Ext.trans X3.out (by (focus (repeat (first | (with_reducible exact Ext.refl _) | (with_reducible apply Ext.drew) | (with_reducible apply Ext.drewN) | (with_reducible apply Ext.alloc))))), by rw [HB0.out, HS1.out]; exact HE12.out⟩⟩
              case rest =>
                obtain ⟨B1, rfl, G3⟩ := hcut
                obtain ⟨w3, hw3⟩ : ∃ w3, w3 = wc := ⟨_, rfl⟩
                subst hw3
                obtain ⟨A1, hA1⟩ : ∃ A1, A1 = tabP f.ys y ++ rowP y (yi f.ys y) n ++ P1 ⟨(y : Int) + 1, (n : Nat)⟩ l := ⟨_, rfl⟩
                rw [← hA1] at G3
                have hA1s : A1.length ≤ 1000000100 := by
                  have h1 := congrArg ByteArray.size HB0.out
                  rw [bst_size] at h1
                  have h2 := nameT_len HidI.out
                  rw [hA1, List.length_append, ← h1]
                  unfold P1
                  rw [List.length_append, List.length_cons]
                  have h3 : (if l.bed = 1 then backT else frontT).length ≤ 5 := by split <;> decide
                  omega
                have HA1 := Lib.hid hA1
                clear hA1 y1 y2 y3 y4 t1 t2 z1 hB9
                obtain ⟨q0, q1, q2, q3⟩ := B4.cells (HBl.out.ext G3.out.1)
                go_upto_if 65 with fail
                go_cut [5] from 32 to 120 (fun sv wx => w3 = wx ∧ ∃ B', sv = .string B' ∧ Hid (B' = bst (A1 ++ P2 l)))
                case first =>
                  have hz : B1.size ≤ 1000000100 := by rw [G3.out.2, bst_size]; exact hA1s
                  have y1 : ¬ 9223372036854775807 < B1.size + 4 := by omega
                  cases hnew : l.new with
                  | true =>
                    have HN := Lib.hid (show B1 ++ bst [32, 110, 101, 119] = bst (A1 ++ P2 l) by rw [G3.out.2, bst_app]; unfold P2; rw [hnew]; rfl)
                    rw [hnew] at q1
                    clear hnew
                    go_wp2_with fail
                    go_meet
                    case rel => exact ⟨rfl, _, rfl, HN⟩
                  | false =>
                    have HN := Lib.hid (show B1 = bst (A1 ++ P2 l) by rw [G3.out.2]; unfold P2; rw [hnew]; simp)
                    rw [hnew] at q1
                    clear hnew
                    go_wp2_with fail
                    go_meet
                    case rel => exact ⟨rfl, _, rfl, HN⟩
                case rest =>
                  obtain ⟨rfl, B2, rfl, G4⟩ := hcut
                  obtain ⟨A2, hA2⟩ : ∃ A2, A2 = A1 ++ P2 l := ⟨_, rfl⟩
                  rw [← hA2] at G4
                  have hA2s : A2.length ≤ 1000000110 := by
                    rw [hA2, List.length_append]
                    have h3 : (P2 l).length ≤ 4 := by unfold P2; split <;> decide
                    omega
                  have HA2 := Lib.hid hA2
                  clear hA2 hA1s
                  go_upto_if 71 with fail
                  go_cut [5] from 32 to 120 (fun sv wx => ∃ B', sv = .string B' ∧ Hid (Ext w3 wx ∧ B' = bst (A2 ++ P3 l)))
                  case first =>
                    have hz : B2.size ≤ 1000000110 := by rw [G4.out, bst_size]; exact hA2s
                    by_cases h0 : 0 < n1
                    · have f1 : (0 : Int) < n1 := by omega
                      obtain ⟨N, hN⟩ : ∃ N, N = bst (sp (l.thr.map nameT)) := ⟨_, rfl⟩
                      have hNs : N.size ≤ 44000 := by
                        rw [hN, bst_size]
                        have := nms_len (l := l.thr) HlI.out.1.2.1 (by have := HlI.out.2.1.1; omega) l.thr.length
                        rwa [List.take_length] at this
                      have HC := Lib.hid (show Calls Tryd.prog 19 #[.slice a1 n1 d1] w3 fun e w' => e = .returned (.string N) ∧ Ext w3 w' from by
                        rw [hN]
                        exact LNames_calls _ d1 l.thr w3 (HNL.out.ext (XB.out.trans G3.out.1)) (fun a ha => ⟨HlI.out.1.2.1 a ha, HlI.out.2.2.2.1 a ha⟩) (by have := HlI.out.2.1.1; omega))
                      have y1 : ¬ 9223372036854775807 < 8 + N.size := by omega
                      have y2 : ¬ 9223372036854775807 < B2.size + (8 + N.size) := by omega
                      have HN := Lib.hid (show B2 ++ (bst [32, 116, 104, 114, 111, 117, 103, 104] ++ N) = bst (A2 ++ P3 l) by
                        rw [G4.out, hN, bst_app, bst_app]; unfold P3
                        rw [if_neg (fun e => by have := Hn12.out.1; rw [e] at this; simp at this; omega)]; rfl)
                      clear hN h0
                      go_wp2_with fail
                      refine HC.out.mono ?_
                      rintro e w4 ⟨rfl, x4⟩
                      have X4 := Lib.hid x4
                      clear x4 q0 q1 q2 q3
                      go_wp2_with fail
                      go_meet
                      case rel => exact ⟨_, rfl, Lib.hid ⟨X4.out, HN.out⟩⟩
                    · have f1 : ¬ (0 : Int) < n1 := by omega
                      have HN := Lib.hid (show B2 = bst (A2 ++ P3 l) by
                        rw [G4.out]; unfold P3
                        rw [if_pos (List.eq_nil_of_length_eq_zero (by have := Hn12.out.1; omega))]; simp)
                      clear h0
                      go_wp2_with fail
                      go_meet
                      case rel => exact ⟨_, rfl, Lib.hid ⟨Ext.refl _, HN.out⟩⟩
                  case rest =>
                    obtain ⟨B3, rfl, G5⟩ := hcut
                    obtain ⟨w5, hw5⟩ : ∃ w5, w5 = wc := ⟨_, rfl⟩
                    subst hw5
                    obtain ⟨A3, hA3⟩ : ∃ A3, A3 = A2 ++ P3 l := ⟨_, rfl⟩
                    rw [← hA3] at G5
                    have hA3s : A3.length ≤ 1000050000 := by
                      rw [hA3, List.length_append]
                      have h3 : (P3 l).length ≤ 44010 := by
                        unfold P3; split
                        · simp
                        · have := nms_len (l := l.thr) HlI.out.1.2.1 (by have := HlI.out.2.1.1; omega) l.thr.length
                          rw [List.take_length] at this
                          have h8 : (32 :: throughT).length = 8 := by decide
                          rw [List.length_append, h8]; omega
                      omega
                    have HA3 := Lib.hid hA3
                    clear hA3 hA2s q0 q1 q2 q3
                    have X5 := Lib.hid (G3.out.1.trans G5.out.1)
                    obtain ⟨q0, q1, q2, q3⟩ := B4.cells (HBl.out.ext X5.out)
                    go_upto_if 81 with fail
                    go_cut [5] from 32 to 120 (fun sv wx => w5 = wx ∧ ∃ B', sv = .string B' ∧ Hid (B' = bst (A3 ++ P4 l)))
                    case first =>
                      have hz : B3.size ≤ 1000050000 := by rw [G5.out.2, bst_size]; exact hA3s
                      have y1 : ¬ 9223372036854775807 < B3.size + 5 := by omega
                      by_cases h0 : 0 < n2
                      · have f1 : (0 : Int) < n2 := by omega
                        have HN := Lib.hid (show B3 ++ bst [32, 112, 97, 115, 116] = bst (A3 ++ P4 l) by
                          rw [G5.out.2, bst_app]; unfold P4
                          rw [if_neg (fun e => by have := Hn12.out.2; rw [e] at this; simp at this; omega)]; rfl)
                        clear h0
                        go_wp2_with fail
                        go_meet
                        case rel => exact ⟨rfl, _, rfl, HN⟩
                      · have f1 : ¬ (0 : Int) < n2 := by omega
                        have HN := Lib.hid (show B3 = bst (A3 ++ P4 l) by
                          rw [G5.out.2]; unfold P4
                          rw [if_pos (List.eq_nil_of_length_eq_zero (by have := Hn12.out.2; omega))]; simp)
                        clear h0
                        go_wp2_with fail
                        go_meet
                        case rel => exact ⟨rfl, _, rfl, HN⟩
                    case rest =>
                      obtain ⟨rfl, B4', rfl, G6⟩ := hcut
                      obtain ⟨A4, hA4⟩ : ∃ A4, A4 = A3 ++ P4 l := ⟨_, rfl⟩
                      rw [← hA4] at G6
                      have hA4s : A4.length ≤ 1000050010 := by
                        rw [hA4, List.length_append]
                        have h3 : (P4 l).length ≤ 5 := by unfold P4; split <;> decide
                        omega
                      have HA4 := Lib.hid hA4
                      clear hA4 hA3s q0 q1 q2 q3
                      have hn2 : n2 ≤ 1000 := by have h1 := HlI.out.2.1.2; have h2 := Hn12.out.2; omega
                      go_wp2_with fail
                      go_loopg [5, 9] n2 (fun g3 sv kv wr => ∃ (k : Nat) (B : ByteArray), g3 + k = n2 ∧ kv = .int .i64 k ∧ sv = .string B ∧ Hid (Ext WB wr ∧ B = bst (A4 ++ P5 l k)))
                      case atStart => exact ⟨0, B4', by omega, rfl, rfl, Lib.hid ⟨X5.out, by rw [G6.out]; simp [P5, sp]⟩⟩
                      case round =>
                        obtain ⟨k, B, hgk, rfl, rfl, G7⟩ := hrel
                        have Hgk := Lib.hid hgk
                        obtain ⟨wp, hwp⟩ : ∃ wp, wp = wr := ⟨_, rfl⟩
                        subst hwp
                        obtain ⟨q0, q1, q2, q3⟩ := B4.cells (HBl.out.ext G7.out.1)
                        have hkn : k ≤ n2 := by omega
                        have hBs : B.size ≤ 1000100000 := by
                          rw [G7.out.2, bst_size, List.length_append]
                          have := P5_len HlI.out.1 k (by omega)
                          omega
                        by_cases hk : k < n2
                        · have e5 : (k : Int) < n2 := by omega
                          have e6 : (0 : Int) ≤ k := by omega
                          clear hgk
                          obtain ⟨pa', pn', e, hpn, -, hd29, hPat⟩ := HPL.out.open
                          cases e
                          obtain ⟨pb, po, rfl, hP⟩ := hPat k hk
                          obtain ⟨p, hp⟩ : ∃ p, p = qi l.past k := ⟨_, rfl⟩
                          rw [← hp] at hP
                          have hpm : p ∈ l.past := by rw [hp]; exact qi_mem (by rw [← Hn12.out.2]; exact hk)
                          have HpI := Lib.hid (And.intro (HlI.out.1.2.2 p hpm) (HlI.out.2.2.2.2 p hpm))
                          have HPs := Lib.hid (show P5 l (k + 1) = P5 l k ++ ([32] ++ passT p) by rw [hp]; exact P5_succ (by rw [← Hn12.out.2]; exact hk))
                          have HPc := Lib.hid (show ∀ w', Ext WB w' → At4 w' pb (po + k * 4) p from fun w' x' => hP.ext (XB.out.trans x'))
                          obtain ⟨c0, c1, c2, c3⟩ := HPc.out _ G7.out.1
                          obtain ⟨S2, hS2⟩ : ∃ S2, S2 = bst (nameT p.id) := ⟨_, rfl⟩
                          have HNp := Lib.hid (show ∀ w', Calls Tryd.prog 18 #[.agg #[.int .u8 p.id.y, .int .i64 p.id.n]] w' fun e w'' => e = .returned (.string S2) ∧ Ext w' w'' from fun w' => by rw [hS2]; exact LName_calls p.id w' HpI.out.1.1 HpI.out.2.1)
                          have z1 : S2.size ≤ 43 := by rw [hS2, bst_size]; exact nameT_len HpI.out.1.1
                          have HS2 := Lib.hid hS2; have HBk := Lib.hid G7.out.2
                          have y1 : ¬ 9223372036854775807 < 1 + S2.size := by omega
                          have y2 : ¬ 9223372036854775807 < 1 + S2.size + 1 := by omega
                          have y3 : ¬ 9223372036854775807 < B.size + (1 + S2.size + 1) := by omega
                          clear hS2 hP hpm hp hPat hpn
                          go_upto_region 22 with fail
                          go_cut [5] from 84 to 118 (fun sv wx => ∃ B', sv = .string B' ∧ Hid (Ext wp wx ∧ B' = bst (A4 ++ (P5 l k ++ ([32] ++ (nameT p.id ++ (if p.d = 1 then [62] else [60])))))))
                          case first =>
                            rcases HpI.out.2.2 with hd | hd
                            · skip
                              have q0_1 := q3
                              have q0_2 := c0
                              have q0_3 := c1
                              have q0_4 : wp.cell? ⟨pb, po + k * 4 + 3, none⟩ = some (.int .u8 0) := by rw [← hd]; exact c3
                              have HE22 := Lib.hid (show bst (A4 ++ P5 l k) ++ (bst [32] ++ bst (nameT p.id) ++ bst [60]) = bst (A4 ++ (P5 l k ++ ([32] ++ (nameT p.id ++ (if p.d = 1 then [62] else [60]))))) by rw [hd, bst_app, bst_app, bst_app]; simp)
                              clear q0 q1 q2 q3 c0 c1 c2 c3 hd
                              refine wp_region_held_drew (S := fun w' => w'.cell? ⟨gl, 3, Option.none⟩ = some (.slice (some ⟨pb, po, none⟩) n2 d2) ∧ w'.cell? ⟨pb, po + k * 4, Option.none⟩ = some (.int .u8 p.id.y) ∧ w'.cell? ⟨pb, po + k * 4 + 1, Option.none⟩ = some (.int .i64 p.id.n) ∧ w'.cell? ⟨pb, po + k * 4 + 3, Option.none⟩ = some (.int .u8 0)) (by kernel_rfl) ?_ (fun hHeld => ?_)
                              · exact ⟨q0_1, q0_2, q0_3, q0_4⟩
                              refine wpAnyH_take (i := 0) (v := ?va657_0) rfl (by kernel_rfl) (by kernel_rfl) (by kernel_rfl) (fun _ _ _ h => h) (Or.inl ⟨by rfl, fun w hSw => ?ti657_0⟩) (by assumption) ?rest657_0
                              case ti657_0 => ((try dsimp only at hSw); go_simp; (first | done | with_reducible rfl))
                              try simp only [Act.put, List.getElem_toArray, List.getElem_cons_zero, List.getElem_cons_succ, List.setIfInBounds_toArray, List.set_cons_zero, List.set_cons_succ]
                              refine wpAnyH_take (i := 1) (v := ?va660_1) rfl (by kernel_rfl) (by kernel_rfl) (by kernel_rfl) (fun _ _ _ h => h) (Or.inl ⟨by rfl, fun w hSw => ?ti660_1⟩) (by assumption) ?rest660_1
                              case ti660_1 => ((try dsimp only at hSw); go_simp; (first | done | with_reducible rfl))
                              try simp only [Act.put, List.getElem_toArray, List.getElem_cons_zero, List.getElem_cons_succ, List.setIfInBounds_toArray, List.set_cons_zero, List.set_cons_succ]
                              refine wpAnyH_take (i := 2) (v := ?va663_2) rfl (by kernel_rfl) (by kernel_rfl) (by kernel_rfl) (fun _ _ _ h => h) (Or.inl ⟨by rfl, fun w hSw => ?ti663_2⟩) (by assumption) ?rest663_2
                              case ti663_2 => ((try dsimp only at hSw); go_simp; (first | done | with_reducible rfl))
                              try simp only [Act.put, List.getElem_toArray, List.getElem_cons_zero, List.getElem_cons_succ, List.setIfInBounds_toArray, List.set_cons_zero, List.set_cons_succ]
                              refine wpAnyH_take (i := 3) (v := ?va666_3) rfl (by kernel_rfl) (by kernel_rfl) (by kernel_rfl) (fun _ _ _ h => h) (Or.inl ⟨by rfl, fun w hSw => ?ti666_3⟩) (by assumption) ?rest666_3
                              case ti666_3 => ((try dsimp only at hSw); go_simp; (first | done | with_reducible rfl))
                              try simp only [Act.put, List.getElem_toArray, List.getElem_cons_zero, List.getElem_cons_succ, List.setIfInBounds_toArray, List.set_cons_zero, List.set_cons_succ]
                              refine wpAnyH_take (i := 4) (v := ?va669_4) rfl (by kernel_rfl) (by kernel_rfl) (by kernel_rfl) (fun _ _ _ h => h) (Or.inl ⟨by rfl, fun w hSw => ?ti669_4⟩) (by assumption) ?rest669_4
                              case ti669_4 => ((try dsimp only at hSw); go_simp; (first | done | with_reducible rfl))
                              try simp only [Act.put, List.getElem_toArray, List.getElem_cons_zero, List.getElem_cons_succ, List.setIfInBounds_toArray, List.set_cons_zero, List.set_cons_succ]
                              refine wpAnyH_take (i := 5) (v := ?va672_5) rfl (by kernel_rfl) (by kernel_rfl) (by kernel_rfl) (fun _ _ _ h => h) (Or.inl ⟨by rfl, fun w hSw => ?ti672_5⟩) (by assumption) ?rest672_5
                              case ti672_5 => ((try dsimp only at hSw); go_simp; (first | done | with_reducible rfl))
                              try simp only [Act.put, List.getElem_toArray, List.getElem_cons_zero, List.getElem_cons_succ, List.setIfInBounds_toArray, List.set_cons_zero, List.set_cons_succ]
                              refine wpAnyH_take (i := 6) (v := ?va675_6) rfl (by kernel_rfl) (by kernel_rfl) (by kernel_rfl) (fun _ _ _ h => h) (Or.inl ⟨by rfl, fun w hSw => ?ti675_6⟩) (by assumption) ?rest675_6
                              case ti675_6 => ((try dsimp only at hSw); go_simp; (first | done | with_reducible rfl))
                              try simp only [Act.put, List.getElem_toArray, List.getElem_cons_zero, List.getElem_cons_succ, List.setIfInBounds_toArray, List.set_cons_zero, List.set_cons_succ]
                              refine wpAnyH_take (i := 10) (v := ?va678_10) rfl (by kernel_rfl) (by kernel_rfl) (by kernel_rfl) (fun _ _ _ h => h) (Or.inl ⟨by rfl, fun w hSw => ?ti678_10⟩) (by assumption) ?rest678_10
                              case ti678_10 => ((try dsimp only at hSw); go_simp; (first | done | with_reducible rfl))
                              try simp only [Act.put, List.getElem_toArray, List.getElem_cons_zero, List.getElem_cons_succ, List.setIfInBounds_toArray, List.set_cons_zero, List.set_cons_succ]
                              refine wpAnyH_take (i := 11) (v := ?va681_11) rfl (by kernel_rfl) (by kernel_rfl) (by kernel_rfl) (fun _ _ _ h => h) (Or.inl ⟨by rfl, fun w hSw => ?ti681_11⟩) (by assumption) ?rest681_11
                              case ti681_11 => ((try dsimp only at hSw); go_simp; (first | done | with_reducible rfl))
                              try simp only [Act.put, List.getElem_toArray, List.getElem_cons_zero, List.getElem_cons_succ, List.setIfInBounds_toArray, List.set_cons_zero, List.set_cons_succ]
                              refine wpAnyH_take (i := 12) (v := ?va684_12) rfl (by kernel_rfl) (by kernel_rfl) (by kernel_rfl) (fun _ _ _ h => h) (Or.inl ⟨by rfl, fun w hSw => ?ti684_12⟩) (by assumption) ?rest684_12
                              case ti684_12 => ((try dsimp only at hSw); go_simp; (first | done | with_reducible rfl))
                              try simp only [Act.put, List.getElem_toArray, List.getElem_cons_zero, List.getElem_cons_succ, List.setIfInBounds_toArray, List.set_cons_zero, List.set_cons_succ]
                              refine wpAnyH_take (i := 13) (v := ?va687_13) rfl (by kernel_rfl) (by kernel_rfl) (by kernel_rfl) (fun _ _ _ h => h) (Or.inl ⟨by rfl, fun w hSw => ?ti687_13⟩) (by assumption) ?rest687_13
                              case ti687_13 => ((try dsimp only at hSw); go_simp; (first | done | with_reducible rfl))
                              try simp only [Act.put, List.getElem_toArray, List.getElem_cons_zero, List.getElem_cons_succ, List.setIfInBounds_toArray, List.set_cons_zero, List.set_cons_succ]
                              refine wpAnyH_take (i := 14) (v := ?va690_14) rfl (by kernel_rfl) (by kernel_rfl) (by kernel_rfl) (fun _ _ _ h => h) (Or.inl ⟨by rfl, fun w hSw => ?ti690_14⟩) (by assumption) ?rest690_14
                              case ti690_14 => ((try dsimp only at hSw); go_simp; (first | done | with_reducible rfl))
                              try simp only [Act.put, List.getElem_toArray, List.getElem_cons_zero, List.getElem_cons_succ, List.setIfInBounds_toArray, List.set_cons_zero, List.set_cons_succ]
                              refine wpAnyH_take (i := 15) (v := ?va693_15) rfl (by kernel_rfl) (by kernel_rfl) (by kernel_rfl) (fun _ _ _ h => h) (Or.inl ⟨by rfl, fun w hSw => ?ti693_15⟩) (by assumption) ?rest693_15
                              case ti693_15 => ((try dsimp only at hSw); go_simp; (first | done | with_reducible rfl))
                              try simp only [Act.put, List.getElem_toArray, List.getElem_cons_zero, List.getElem_cons_succ, List.setIfInBounds_toArray, List.set_cons_zero, List.set_cons_succ]
                              refine wpAnyH_ready (rs := [7, 9]) (by kernel_rfl) (by simp) ?_
                              refine AllReadyH.cons rfl (fun K hK => ?_) (AllReadyH.cons rfl (fun K hK => ?_) AllReadyH.nil)
                              · as_aux_lemma =>
                                go_simp
                                refine (HNp.out _).mono ?_
                                rintro e w3 ⟨rfl, x⟩
                                have X3 : Hid (Ext wp w3) := Lib.hid (Ext.trans (by (focus (repeat (first | (with_reducible exact Ext.refl _) | (with_reducible apply Ext.drew) | (with_reducible apply Ext.drewN) | (with_reducible apply Ext.alloc))))) x)
                                clear x
                                go_simp
                                refine hK.out _ _ ⟨Ext.cell (Ext.trans X3.out (by (focus (repeat (first | (with_reducible exact Ext.refl _) | (with_reducible apply Ext.drew) | (with_reducible apply Ext.drewN) | (with_reducible apply Ext.alloc)))))) q0_1, Ext.cell (Ext.trans X3.out (by (focus (repeat (first | (with_reducible exact Ext.refl _) | (with_reducible apply Ext.drew) | (with_reducible apply Ext.drewN) | (with_reducible apply Ext.alloc)))))) q0_2, Ext.cell (Ext.trans X3.out (by (focus (repeat (first | (with_reducible exact Ext.refl _) | (with_reducible apply Ext.drew) | (with_reducible apply Ext.drewN) | (with_reducible apply Ext.alloc)))))) q0_3, Ext.cell (Ext.trans X3.out (by (focus (repeat (first | (with_reducible exact Ext.refl _) | (with_reducible apply Ext.drew) | (with_reducible apply Ext.drewN) | (with_reducible apply Ext.alloc)))))) q0_4⟩ (fun hHeld => ?_)
                                clear hK K; try simp only [Act.put, List.getElem_toArray, List.getElem_cons_zero, List.getElem_cons_succ, List.setIfInBounds_toArray, List.set_cons_zero, List.set_cons_succ]
                                refine wpAnyH_take (i := 8) (v := ?vb201) rfl (by kernel_rfl) (by kernel_rfl) (by kernel_rfl) (fun _ _ _ h => h) (Or.inl ⟨by rfl, fun w hSw => ?tj201⟩) (by assumption) ?rs201
                                case tj201 => ((try dsimp only at hSw); go_simp; (first | done | with_reducible rfl))
                                try simp only [Act.put, List.getElem_toArray, List.getElem_cons_zero, List.getElem_cons_succ, List.setIfInBounds_toArray, List.set_cons_zero, List.set_cons_succ]
                                refine wpAnyH_ready (rs := [9]) (by kernel_rfl) (by simp) ?_
                                refine AllReadyH.cons rfl (fun K hK => ?_) AllReadyH.nil
                                go_simp
                                refine hK.out _ _ ⟨Ext.cell (Ext.trans X3.out (by (focus (repeat (first | (with_reducible exact Ext.refl _) | (with_reducible apply Ext.drew) | (with_reducible apply Ext.drewN) | (with_reducible apply Ext.alloc)))))) q0_1, Ext.cell (Ext.trans X3.out (by (focus (repeat (first | (with_reducible exact Ext.refl _) | (with_reducible apply Ext.drew) | (with_reducible apply Ext.drewN) | (with_reducible apply Ext.alloc)))))) q0_2, Ext.cell (Ext.trans X3.out (by (focus (repeat (first | (with_reducible exact Ext.refl _) | (with_reducible apply Ext.drew) | (with_reducible apply Ext.drewN) | (with_reducible apply Ext.alloc)))))) q0_3, Ext.cell (Ext.trans X3.out (by (focus (repeat (first | (with_reducible exact Ext.refl _) | (with_reducible apply Ext.drew) | (with_reducible apply Ext.drewN) | (with_reducible apply Ext.alloc)))))) q0_4⟩ (fun hHeld => ?_)
                                clear hK K; try simp only [Act.put, List.getElem_toArray, List.getElem_cons_zero, List.getElem_cons_succ, List.setIfInBounds_toArray, List.set_cons_zero, List.set_cons_succ]
                                refine wpAnyH_ready (rs := [16]) (by kernel_rfl) (by simp) ?_
                                refine AllReadyH.cons rfl (fun K hK => ?_) AllReadyH.nil
                                go_simp
                                refine hK.out _ _ ⟨Ext.cell (Ext.trans X3.out (by (focus (repeat (first | (with_reducible exact Ext.refl _) | (with_reducible apply Ext.drew) | (with_reducible apply Ext.drewN) | (with_reducible apply Ext.alloc)))))) q0_1, Ext.cell (Ext.trans X3.out (by (focus (repeat (first | (with_reducible exact Ext.refl _) | (with_reducible apply Ext.drew) | (with_reducible apply Ext.drewN) | (with_reducible apply Ext.alloc)))))) q0_2, Ext.cell (Ext.trans X3.out (by (focus (repeat (first | (with_reducible exact Ext.refl _) | (with_reducible apply Ext.drew) | (with_reducible apply Ext.drewN) | (with_reducible apply Ext.alloc)))))) q0_3, Ext.cell (Ext.trans X3.out (by (focus (repeat (first | (with_reducible exact Ext.refl _) | (with_reducible apply Ext.drew) | (with_reducible apply Ext.drewN) | (with_reducible apply Ext.alloc)))))) q0_4⟩ (fun hHeld => ?_)
                                clear hK K; try simp only [Act.put, List.getElem_toArray, List.getElem_cons_zero, List.getElem_cons_succ, List.setIfInBounds_toArray, List.set_cons_zero, List.set_cons_succ]
                                refine wpAnyH_ready (rs := [17]) (by kernel_rfl) (by simp) ?_
                                refine AllReadyH.cons rfl (fun K hK => ?_) AllReadyH.nil
                                go_simp
                                refine hK.out _ _ ⟨Ext.cell (Ext.trans X3.out (by (focus (repeat (first | (with_reducible exact Ext.refl _) | (with_reducible apply Ext.drew) | (with_reducible apply Ext.drewN) | (with_reducible apply Ext.alloc)))))) q0_1, Ext.cell (Ext.trans X3.out (by (focus (repeat (first | (with_reducible exact Ext.refl _) | (with_reducible apply Ext.drew) | (with_reducible apply Ext.drewN) | (with_reducible apply Ext.alloc)))))) q0_2, Ext.cell (Ext.trans X3.out (by (focus (repeat (first | (with_reducible exact Ext.refl _) | (with_reducible apply Ext.drew) | (with_reducible apply Ext.drewN) | (with_reducible apply Ext.alloc)))))) q0_3, Ext.cell (Ext.trans X3.out (by (focus (repeat (first | (with_reducible exact Ext.refl _) | (with_reducible apply Ext.drew) | (with_reducible apply Ext.drewN) | (with_reducible apply Ext.alloc)))))) q0_4⟩ (fun hHeld => ?_)
                                clear hK K; try simp only [Act.put, List.getElem_toArray, List.getElem_cons_zero, List.getElem_cons_succ, List.setIfInBounds_toArray, List.set_cons_zero, List.set_cons_succ]
                                refine wpAnyH_ready (rs := [18]) (by kernel_rfl) (by simp) ?_
                                refine AllReadyH.cons rfl (fun K hK => ?_) AllReadyH.nil
                                go_simp
                                refine hK.out _ _ ⟨Ext.cell (Ext.trans X3.out (by (focus (repeat (first | (with_reducible exact Ext.refl _) | (with_reducible apply Ext.drew) | (with_reducible apply Ext.drewN) | (with_reducible apply Ext.alloc)))))) q0_1, Ext.cell (Ext.trans X3.out (by (focus (repeat (first | (with_reducible exact Ext.refl _) | (with_reducible apply Ext.drew) | (with_reducible apply Ext.drewN) | (with_reducible apply Ext.alloc)))))) q0_2, Ext.cell (Ext.trans X3.out (by (focus (repeat (first | (with_reducible exact Ext.refl _) | (with_reducible apply Ext.drew) | (with_reducible apply Ext.drewN) | (with_reducible apply Ext.alloc)))))) q0_3, Ext.cell (Ext.trans X3.out (by (focus (repeat (first | (with_reducible exact Ext.refl _) | (with_reducible apply Ext.drew) | (with_reducible apply Ext.drewN) | (with_reducible apply Ext.alloc)))))) q0_4⟩ (fun hHeld => ?_)
                                clear hK K; try simp only [Act.put, List.getElem_toArray, List.getElem_cons_zero, List.getElem_cons_succ, List.setIfInBounds_toArray, List.set_cons_zero, List.set_cons_succ]
                                refine wpAnyH_ready (rs := [19]) (by kernel_rfl) (by simp) ?_
                                refine AllReadyH.cons rfl (fun K hK => ?_) AllReadyH.nil
                                go_simp
                                refine hK.out _ _ ⟨Ext.cell (Ext.trans X3.out (by (focus (repeat (first | (with_reducible exact Ext.refl _) | (with_reducible apply Ext.drew) | (with_reducible apply Ext.drewN) | (with_reducible apply Ext.alloc)))))) q0_1, Ext.cell (Ext.trans X3.out (by (focus (repeat (first | (with_reducible exact Ext.refl _) | (with_reducible apply Ext.drew) | (with_reducible apply Ext.drewN) | (with_reducible apply Ext.alloc)))))) q0_2, Ext.cell (Ext.trans X3.out (by (focus (repeat (first | (with_reducible exact Ext.refl _) | (with_reducible apply Ext.drew) | (with_reducible apply Ext.drewN) | (with_reducible apply Ext.alloc)))))) q0_3, Ext.cell (Ext.trans X3.out (by (focus (repeat (first | (with_reducible exact Ext.refl _) | (with_reducible apply Ext.drew) | (with_reducible apply Ext.drewN) | (with_reducible apply Ext.alloc)))))) q0_4⟩ (fun hHeld => ?_)
                                clear hK K; try simp only [Act.put, List.getElem_toArray, List.getElem_cons_zero, List.getElem_cons_succ, List.setIfInBounds_toArray, List.set_cons_zero, List.set_cons_succ]
                                refine wpAnyH_ready (rs := [20]) (by kernel_rfl) (by simp) ?_
                                refine AllReadyH.cons rfl (fun K hK => ?_) AllReadyH.nil
                                go_simp
                                refine hK.out _ _ ⟨Ext.cell (Ext.trans X3.out (by (focus (repeat (first | (with_reducible exact Ext.refl _) | (with_reducible apply Ext.drew) | (with_reducible apply Ext.drewN) | (with_reducible apply Ext.alloc)))))) q0_1, Ext.cell (Ext.trans X3.out (by (focus (repeat (first | (with_reducible exact Ext.refl _) | (with_reducible apply Ext.drew) | (with_reducible apply Ext.drewN) | (with_reducible apply Ext.alloc)))))) q0_2, Ext.cell (Ext.trans X3.out (by (focus (repeat (first | (with_reducible exact Ext.refl _) | (with_reducible apply Ext.drew) | (with_reducible apply Ext.drewN) | (with_reducible apply Ext.alloc)))))) q0_3, Ext.cell (Ext.trans X3.out (by (focus (repeat (first | (with_reducible exact Ext.refl _) | (with_reducible apply Ext.drew) | (with_reducible apply Ext.drewN) | (with_reducible apply Ext.alloc)))))) q0_4⟩ (fun hHeld => ?_)
                                clear hK K; try simp only [Act.put, List.getElem_toArray, List.getElem_cons_zero, List.getElem_cons_succ, List.setIfInBounds_toArray, List.set_cons_zero, List.set_cons_succ]
                                refine wpAnyH_done (by kernel_rfl) ?_ _
                                go_wp2_with fail
                                go_meet
                                case rel => exact ⟨_, rfl, Lib.hid ⟨Ext.trans X3.out (by (focus (repeat (first | (with_reducible exact Ext.refl _) | (with_reducible apply Ext.drew) | (with_reducible apply Ext.drewN) | (with_reducible apply Ext.alloc))))), by rw [HBk.out, HS2.out]; exact HE22.out⟩⟩
                              · as_aux_lemma =>
                                go_simp
                                refine hK.out _ _ ⟨Ext.cell (by (focus (repeat (first | (with_reducible exact Ext.refl _) | (with_reducible apply Ext.drew) | (with_reducible apply Ext.drewN) | (with_reducible apply Ext.alloc))))) q0_1, Ext.cell (by (focus (repeat (first | (with_reducible exact Ext.refl _) | (with_reducible apply Ext.drew) | (with_reducible apply Ext.drewN) | (with_reducible apply Ext.alloc))))) q0_2, Ext.cell (by (focus (repeat (first | (with_reducible exact Ext.refl _) | (with_reducible apply Ext.drew) | (with_reducible apply Ext.drewN) | (with_reducible apply Ext.alloc))))) q0_3, Ext.cell (by (focus (repeat (first | (with_reducible exact Ext.refl _) | (with_reducible apply Ext.drew) | (with_reducible apply Ext.drewN) | (with_reducible apply Ext.alloc))))) q0_4⟩ (fun hHeld => ?_)
                                clear hK K; try simp only [Act.put, List.getElem_toArray, List.getElem_cons_zero, List.getElem_cons_succ, List.setIfInBounds_toArray, List.set_cons_zero, List.set_cons_succ]
                                refine wpAnyH_take (i := 16) (v := ?vb202) rfl (by kernel_rfl) (by kernel_rfl) (by kernel_rfl) (fun _ _ _ h => h) (Or.inl ⟨by rfl, fun w hSw => ?tj202⟩) (by assumption) ?rs202
                                case tj202 => ((try dsimp only at hSw); go_simp; (first | done | with_reducible rfl))
                                try simp only [Act.put, List.getElem_toArray, List.getElem_cons_zero, List.getElem_cons_succ, List.setIfInBounds_toArray, List.set_cons_zero, List.set_cons_succ]
                                refine wpAnyH_ready (rs := [7, 17]) (by kernel_rfl) (by simp) ?_
                                refine AllReadyH.cons rfl (fun K hK => ?_) (AllReadyH.cons rfl (fun K hK => ?_) AllReadyH.nil)
                                · as_aux_lemma =>
                                  go_simp
                                  refine (HNp.out _).mono ?_
                                  rintro e w3 ⟨rfl, x⟩
                                  have X3 : Hid (Ext wp w3) := Lib.hid (Ext.trans (by (focus (repeat (first | (with_reducible exact Ext.refl _) | (with_reducible apply Ext.drew) | (with_reducible apply Ext.drewN) | (with_reducible apply Ext.alloc))))) x)
                                  have hcl : w3.cell? ⟨wp.heap.size, 0, none⟩ = some (.string ⟨#[60]⟩) := Ext.cell x (show ((wp).alloc (.cells #[.string ⟨#[60]⟩, .string ⟨#[62]⟩] 9)).drew.cell? ⟨wp.heap.size, 0, none⟩ = some (.string ⟨#[60]⟩) from cell_of_blk (show ((wp).alloc (.cells #[.string ⟨#[60]⟩, .string ⟨#[62]⟩] 9)).drew.heap[wp.heap.size]? = some (Obj.cells #[.string ⟨#[60]⟩, .string ⟨#[62]⟩] 9 (0, 0)) from Deep.blk_alloc_new _ _) rfl)
                                  clear x
                                  go_simp
                                  refine hK.out _ _ ⟨Ext.cell (Ext.trans X3.out (by (focus (repeat (first | (with_reducible exact Ext.refl _) | (with_reducible apply Ext.drew) | (with_reducible apply Ext.drewN) | (with_reducible apply Ext.alloc)))))) q0_1, Ext.cell (Ext.trans X3.out (by (focus (repeat (first | (with_reducible exact Ext.refl _) | (with_reducible apply Ext.drew) | (with_reducible apply Ext.drewN) | (with_reducible apply Ext.alloc)))))) q0_2, Ext.cell (Ext.trans X3.out (by (focus (repeat (first | (with_reducible exact Ext.refl _) | (with_reducible apply Ext.drew) | (with_reducible apply Ext.drewN) | (with_reducible apply Ext.alloc)))))) q0_3, Ext.cell (Ext.trans X3.out (by (focus (repeat (first | (with_reducible exact Ext.refl _) | (with_reducible apply Ext.drew) | (with_reducible apply Ext.drewN) | (with_reducible apply Ext.alloc)))))) q0_4⟩ (fun hHeld => ?_)
                                  clear hK K; try simp only [Act.put, List.getElem_toArray, List.getElem_cons_zero, List.getElem_cons_succ, List.setIfInBounds_toArray, List.set_cons_zero, List.set_cons_succ]
                                  refine wpAnyH_take (i := 8) (v := ?vb203) rfl (by kernel_rfl) (by kernel_rfl) (by kernel_rfl) (fun _ _ _ h => h) (Or.inl ⟨by rfl, fun w hSw => ?tj203⟩) (by assumption) ?rs203
                                  case tj203 => ((try dsimp only at hSw); go_simp; (first | done | with_reducible rfl))
                                  try simp only [Act.put, List.getElem_toArray, List.getElem_cons_zero, List.getElem_cons_succ, List.setIfInBounds_toArray, List.set_cons_zero, List.set_cons_succ]
                                  refine wpAnyH_ready (rs := [17]) (by kernel_rfl) (by simp) ?_
                                  refine AllReadyH.cons rfl (fun K hK => ?_) AllReadyH.nil
                                  go_simp
                                  clear hcl
                                  refine hK.out _ _ ⟨Ext.cell (Ext.trans X3.out (by (focus (repeat (first | (with_reducible exact Ext.refl _) | (with_reducible apply Ext.drew) | (with_reducible apply Ext.drewN) | (with_reducible apply Ext.alloc)))))) q0_1, Ext.cell (Ext.trans X3.out (by (focus (repeat (first | (with_reducible exact Ext.refl _) | (with_reducible apply Ext.drew) | (with_reducible apply Ext.drewN) | (with_reducible apply Ext.alloc)))))) q0_2, Ext.cell (Ext.trans X3.out (by (focus (repeat (first | (with_reducible exact Ext.refl _) | (with_reducible apply Ext.drew) | (with_reducible apply Ext.drewN) | (with_reducible apply Ext.alloc)))))) q0_3, Ext.cell (Ext.trans X3.out (by (focus (repeat (first | (with_reducible exact Ext.refl _) | (with_reducible apply Ext.drew) | (with_reducible apply Ext.drewN) | (with_reducible apply Ext.alloc)))))) q0_4⟩ (fun hHeld => ?_)
                                  clear hK K; try simp only [Act.put, List.getElem_toArray, List.getElem_cons_zero, List.getElem_cons_succ, List.setIfInBounds_toArray, List.set_cons_zero, List.set_cons_succ]
                                  refine wpAnyH_ready (rs := [18]) (by kernel_rfl) (by simp) ?_
                                  refine AllReadyH.cons rfl (fun K hK => ?_) AllReadyH.nil
                                  go_simp
                                  refine hK.out _ _ ⟨Ext.cell (Ext.trans X3.out (by (focus (repeat (first | (with_reducible exact Ext.refl _) | (with_reducible apply Ext.drew) | (with_reducible apply Ext.drewN) | (with_reducible apply Ext.alloc)))))) q0_1, Ext.cell (Ext.trans X3.out (by (focus (repeat (first | (with_reducible exact Ext.refl _) | (with_reducible apply Ext.drew) | (with_reducible apply Ext.drewN) | (with_reducible apply Ext.alloc)))))) q0_2, Ext.cell (Ext.trans X3.out (by (focus (repeat (first | (with_reducible exact Ext.refl _) | (with_reducible apply Ext.drew) | (with_reducible apply Ext.drewN) | (with_reducible apply Ext.alloc)))))) q0_3, Ext.cell (Ext.trans X3.out (by (focus (repeat (first | (with_reducible exact Ext.refl _) | (with_reducible apply Ext.drew) | (with_reducible apply Ext.drewN) | (with_reducible apply Ext.alloc)))))) q0_4⟩ (fun hHeld => ?_)
                                  clear hK K; try simp only [Act.put, List.getElem_toArray, List.getElem_cons_zero, List.getElem_cons_succ, List.setIfInBounds_toArray, List.set_cons_zero, List.set_cons_succ]
                                  refine wpAnyH_ready (rs := [19]) (by kernel_rfl) (by simp) ?_
                                  refine AllReadyH.cons rfl (fun K hK => ?_) AllReadyH.nil
                                  go_simp
                                  refine hK.out _ _ ⟨Ext.cell (Ext.trans X3.out (by (focus (repeat (first | (with_reducible exact Ext.refl _) | (with_reducible apply Ext.drew) | (with_reducible apply Ext.drewN) | (with_reducible apply Ext.alloc)))))) q0_1, Ext.cell (Ext.trans X3.out (by (focus (repeat (first | (with_reducible exact Ext.refl _) | (with_reducible apply Ext.drew) | (with_reducible apply Ext.drewN) | (with_reducible apply Ext.alloc)))))) q0_2, Ext.cell (Ext.trans X3.out (by (focus (repeat (first | (with_reducible exact Ext.refl _) | (with_reducible apply Ext.drew) | (with_reducible apply Ext.drewN) | (with_reducible apply Ext.alloc)))))) q0_3, Ext.cell (Ext.trans X3.out (by (focus (repeat (first | (with_reducible exact Ext.refl _) | (with_reducible apply Ext.drew) | (with_reducible apply Ext.drewN) | (with_reducible apply Ext.alloc)))))) q0_4⟩ (fun hHeld => ?_)
                                  clear hK K; try simp only [Act.put, List.getElem_toArray, List.getElem_cons_zero, List.getElem_cons_succ, List.setIfInBounds_toArray, List.set_cons_zero, List.set_cons_succ]
                                  refine wpAnyH_ready (rs := [20]) (by kernel_rfl) (by simp) ?_
                                  refine AllReadyH.cons rfl (fun K hK => ?_) AllReadyH.nil
                                  go_simp
                                  refine hK.out _ _ ⟨Ext.cell (Ext.trans X3.out (by (focus (repeat (first | (with_reducible exact Ext.refl _) | (with_reducible apply Ext.drew) | (with_reducible apply Ext.drewN) | (with_reducible apply Ext.alloc)))))) q0_1, Ext.cell (Ext.trans X3.out (by (focus (repeat (first | (with_reducible exact Ext.refl _) | (with_reducible apply Ext.drew) | (with_reducible apply Ext.drewN) | (with_reducible apply Ext.alloc)))))) q0_2, Ext.cell (Ext.trans X3.out (by (focus (repeat (first | (with_reducible exact Ext.refl _) | (with_reducible apply Ext.drew) | (with_reducible apply Ext.drewN) | (with_reducible apply Ext.alloc)))))) q0_3, Ext.cell (Ext.trans X3.out (by (focus (repeat (first | (with_reducible exact Ext.refl _) | (with_reducible apply Ext.drew) | (with_reducible apply Ext.drewN) | (with_reducible apply Ext.alloc)))))) q0_4⟩ (fun hHeld => ?_)
                                  clear hK K; try simp only [Act.put, List.getElem_toArray, List.getElem_cons_zero, List.getElem_cons_succ, List.setIfInBounds_toArray, List.set_cons_zero, List.set_cons_succ]
                                  refine wpAnyH_done (by kernel_rfl) ?_ _
                                  go_wp2_with fail
                                  go_meet
                                  case rel => exact ⟨_, rfl, Lib.hid ⟨Ext.trans X3.out (by (focus (repeat (first | (with_reducible exact Ext.refl _) | (with_reducible apply Ext.drew) | (with_reducible apply Ext.drewN) | (with_reducible apply Ext.alloc))))), by rw [HBk.out, HS2.out]; exact HE22.out⟩⟩
                                · as_aux_lemma =>
                                  go_simp
                                  refine hK.out _ _ ⟨Ext.cell (by (focus (repeat (first | (with_reducible exact Ext.refl _) | (with_reducible apply Ext.drew) | (with_reducible apply Ext.drewN) | (with_reducible apply Ext.alloc))))) q0_1, Ext.cell (by (focus (repeat (first | (with_reducible exact Ext.refl _) | (with_reducible apply Ext.drew) | (with_reducible apply Ext.drewN) | (with_reducible apply Ext.alloc))))) q0_2, Ext.cell (by (focus (repeat (first | (with_reducible exact Ext.refl _) | (with_reducible apply Ext.drew) | (with_reducible apply Ext.drewN) | (with_reducible apply Ext.alloc))))) q0_3, Ext.cell (by (focus (repeat (first | (with_reducible exact Ext.refl _) | (with_reducible apply Ext.drew) | (with_reducible apply Ext.drewN) | (with_reducible apply Ext.alloc))))) q0_4⟩ (fun hHeld => ?_)
                                  clear hK K; try simp only [Act.put, List.getElem_toArray, List.getElem_cons_zero, List.getElem_cons_succ, List.setIfInBounds_toArray, List.set_cons_zero, List.set_cons_succ]
                                  refine wpAnyH_ready (rs := [7]) (by kernel_rfl) (by simp) ?_
                                  refine AllReadyH.cons rfl (fun K hK => ?_) AllReadyH.nil
                                  go_simp
                                  refine (HNp.out _).mono ?_
                                  rintro e w3 ⟨rfl, x⟩
                                  have X3 : Hid (Ext wp w3) := Lib.hid (Ext.trans (by (focus (repeat (first | (with_reducible exact Ext.refl _) | (with_reducible apply Ext.drew) | (with_reducible apply Ext.drewN) | (with_reducible apply Ext.alloc))))) x)
                                  clear x
                                  go_simp
                                  refine hK.out _ _ ⟨Ext.cell (Ext.trans X3.out (by (focus (repeat (first | (with_reducible exact Ext.refl _) | (with_reducible apply Ext.drew) | (with_reducible apply Ext.drewN) | (with_reducible apply Ext.alloc)))))) q0_1, Ext.cell (Ext.trans X3.out (by (focus (repeat (first | (with_reducible exact Ext.refl _) | (with_reducible apply Ext.drew) | (with_reducible apply Ext.drewN) | (with_reducible apply Ext.alloc)))))) q0_2, Ext.cell (Ext.trans X3.out (by (focus (repeat (first | (with_reducible exact Ext.refl _) | (with_reducible apply Ext.drew) | (with_reducible apply Ext.drewN) | (with_reducible apply Ext.alloc)))))) q0_3, Ext.cell (Ext.trans X3.out (by (focus (repeat (first | (with_reducible exact Ext.refl _) | (with_reducible apply Ext.drew) | (with_reducible apply Ext.drewN) | (with_reducible apply Ext.alloc)))))) q0_4⟩ (fun hHeld => ?_)
                                  clear hK K; try simp only [Act.put, List.getElem_toArray, List.getElem_cons_zero, List.getElem_cons_succ, List.setIfInBounds_toArray, List.set_cons_zero, List.set_cons_succ]
                                  refine wpAnyH_take (i := 8) (v := ?vb204) rfl (by kernel_rfl) (by kernel_rfl) (by kernel_rfl) (fun _ _ _ h => h) (Or.inl ⟨by rfl, fun w hSw => ?tj204⟩) (by assumption) ?rs204
                                  case tj204 => ((try dsimp only at hSw); go_simp; (first | done | with_reducible rfl))
                                  try simp only [Act.put, List.getElem_toArray, List.getElem_cons_zero, List.getElem_cons_succ, List.setIfInBounds_toArray, List.set_cons_zero, List.set_cons_succ]
                                  refine wpAnyH_ready (rs := [18]) (by kernel_rfl) (by simp) ?_
                                  refine AllReadyH.cons rfl (fun K hK => ?_) AllReadyH.nil
                                  go_simp
                                  refine hK.out _ _ ⟨Ext.cell (Ext.trans X3.out (by (focus (repeat (first | (with_reducible exact Ext.refl _) | (with_reducible apply Ext.drew) | (with_reducible apply Ext.drewN) | (with_reducible apply Ext.alloc)))))) q0_1, Ext.cell (Ext.trans X3.out (by (focus (repeat (first | (with_reducible exact Ext.refl _) | (with_reducible apply Ext.drew) | (with_reducible apply Ext.drewN) | (with_reducible apply Ext.alloc)))))) q0_2, Ext.cell (Ext.trans X3.out (by (focus (repeat (first | (with_reducible exact Ext.refl _) | (with_reducible apply Ext.drew) | (with_reducible apply Ext.drewN) | (with_reducible apply Ext.alloc)))))) q0_3, Ext.cell (Ext.trans X3.out (by (focus (repeat (first | (with_reducible exact Ext.refl _) | (with_reducible apply Ext.drew) | (with_reducible apply Ext.drewN) | (with_reducible apply Ext.alloc)))))) q0_4⟩ (fun hHeld => ?_)
                                  clear hK K; try simp only [Act.put, List.getElem_toArray, List.getElem_cons_zero, List.getElem_cons_succ, List.setIfInBounds_toArray, List.set_cons_zero, List.set_cons_succ]
                                  refine wpAnyH_ready (rs := [19]) (by kernel_rfl) (by simp) ?_
                                  refine AllReadyH.cons rfl (fun K hK => ?_) AllReadyH.nil
                                  go_simp
                                  refine hK.out _ _ ⟨Ext.cell (Ext.trans X3.out (by (focus (repeat (first | (with_reducible exact Ext.refl _) | (with_reducible apply Ext.drew) | (with_reducible apply Ext.drewN) | (with_reducible apply Ext.alloc)))))) q0_1, Ext.cell (Ext.trans X3.out (by (focus (repeat (first | (with_reducible exact Ext.refl _) | (with_reducible apply Ext.drew) | (with_reducible apply Ext.drewN) | (with_reducible apply Ext.alloc)))))) q0_2, Ext.cell (Ext.trans X3.out (by (focus (repeat (first | (with_reducible exact Ext.refl _) | (with_reducible apply Ext.drew) | (with_reducible apply Ext.drewN) | (with_reducible apply Ext.alloc)))))) q0_3, Ext.cell (Ext.trans X3.out (by (focus (repeat (first | (with_reducible exact Ext.refl _) | (with_reducible apply Ext.drew) | (with_reducible apply Ext.drewN) | (with_reducible apply Ext.alloc)))))) q0_4⟩ (fun hHeld => ?_)
                                  clear hK K; try simp only [Act.put, List.getElem_toArray, List.getElem_cons_zero, List.getElem_cons_succ, List.setIfInBounds_toArray, List.set_cons_zero, List.set_cons_succ]
                                  refine wpAnyH_ready (rs := [20]) (by kernel_rfl) (by simp) ?_
                                  refine AllReadyH.cons rfl (fun K hK => ?_) AllReadyH.nil
                                  go_simp
                                  refine hK.out _ _ ⟨Ext.cell (Ext.trans X3.out (by (focus (repeat (first | (with_reducible exact Ext.refl _) | (with_reducible apply Ext.drew) | (with_reducible apply Ext.drewN) | (with_reducible apply Ext.alloc)))))) q0_1, Ext.cell (Ext.trans X3.out (by (focus (repeat (first | (with_reducible exact Ext.refl _) | (with_reducible apply Ext.drew) | (with_reducible apply Ext.drewN) | (with_reducible apply Ext.alloc)))))) q0_2, Ext.cell (Ext.trans X3.out (by (focus (repeat (first | (with_reducible exact Ext.refl _) | (with_reducible apply Ext.drew) | (with_reducible apply Ext.drewN) | (with_reducible apply Ext.alloc)))))) q0_3, Ext.cell (Ext.trans X3.out (by (focus (repeat (first | (with_reducible exact Ext.refl _) | (with_reducible apply Ext.drew) | (with_reducible apply Ext.drewN) | (with_reducible apply Ext.alloc)))))) q0_4⟩ (fun hHeld => ?_)
                                  clear hK K; try simp only [Act.put, List.getElem_toArray, List.getElem_cons_zero, List.getElem_cons_succ, List.setIfInBounds_toArray, List.set_cons_zero, List.set_cons_succ]
                                  refine wpAnyH_done (by kernel_rfl) ?_ _
                                  go_wp2_with fail
                                  go_meet
                                  case rel => exact ⟨_, rfl, Lib.hid ⟨Ext.trans X3.out (by (focus (repeat (first | (with_reducible exact Ext.refl _) | (with_reducible apply Ext.drew) | (with_reducible apply Ext.drewN) | (with_reducible apply Ext.alloc))))), by rw [HBk.out, HS2.out]; exact HE22.out⟩⟩
                            · skip
                              have q0_1 := q3
                              have q0_2 := c0
                              have q0_3 := c1
                              have q0_4 : wp.cell? ⟨pb, po + k * 4 + 3, none⟩ = some (.int .u8 1) := by rw [← hd]; exact c3
                              have HE22 := Lib.hid (show bst (A4 ++ P5 l k) ++ (bst [32] ++ bst (nameT p.id) ++ bst [62]) = bst (A4 ++ (P5 l k ++ ([32] ++ (nameT p.id ++ (if p.d = 1 then [62] else [60]))))) by rw [hd, bst_app, bst_app, bst_app]; simp)
                              clear q0 q1 q2 q3 c0 c1 c2 c3 hd
                              refine wp_region_held_drew (S := fun w' => w'.cell? ⟨gl, 3, Option.none⟩ = some (.slice (some ⟨pb, po, none⟩) n2 d2) ∧ w'.cell? ⟨pb, po + k * 4, Option.none⟩ = some (.int .u8 p.id.y) ∧ w'.cell? ⟨pb, po + k * 4 + 1, Option.none⟩ = some (.int .i64 p.id.n) ∧ w'.cell? ⟨pb, po + k * 4 + 3, Option.none⟩ = some (.int .u8 1)) (by kernel_rfl) ?_ (fun hHeld => ?_)
                              · exact ⟨q0_1, q0_2, q0_3, q0_4⟩
                              refine wpAnyH_take (i := 0) (v := ?va836_0) rfl (by kernel_rfl) (by kernel_rfl) (by kernel_rfl) (fun _ _ _ h => h) (Or.inl ⟨by rfl, fun w hSw => ?ti836_0⟩) (by assumption) ?rest836_0
                              case ti836_0 => ((try dsimp only at hSw); go_simp; (first | done | with_reducible rfl))
                              try simp only [Act.put, List.getElem_toArray, List.getElem_cons_zero, List.getElem_cons_succ, List.setIfInBounds_toArray, List.set_cons_zero, List.set_cons_succ]
                              refine wpAnyH_take (i := 1) (v := ?va839_1) rfl (by kernel_rfl) (by kernel_rfl) (by kernel_rfl) (fun _ _ _ h => h) (Or.inl ⟨by rfl, fun w hSw => ?ti839_1⟩) (by assumption) ?rest839_1
                              case ti839_1 => ((try dsimp only at hSw); go_simp; (first | done | with_reducible rfl))
                              try simp only [Act.put, List.getElem_toArray, List.getElem_cons_zero, List.getElem_cons_succ, List.setIfInBounds_toArray, List.set_cons_zero, List.set_cons_succ]
                              refine wpAnyH_take (i := 2) (v := ?va842_2) rfl (by kernel_rfl) (by kernel_rfl) (by kernel_rfl) (fun _ _ _ h => h) (Or.inl ⟨by rfl, fun w hSw => ?ti842_2⟩) (by assumption) ?rest842_2
                              case ti842_2 => ((try dsimp only at hSw); go_simp; (first | done | with_reducible rfl))
                              try simp only [Act.put, List.getElem_toArray, List.getElem_cons_zero, List.getElem_cons_succ, List.setIfInBounds_toArray, List.set_cons_zero, List.set_cons_succ]
                              refine wpAnyH_take (i := 3) (v := ?va845_3) rfl (by kernel_rfl) (by kernel_rfl) (by kernel_rfl) (fun _ _ _ h => h) (Or.inl ⟨by rfl, fun w hSw => ?ti845_3⟩) (by assumption) ?rest845_3
                              case ti845_3 => ((try dsimp only at hSw); go_simp; (first | done | with_reducible rfl))
                              try simp only [Act.put, List.getElem_toArray, List.getElem_cons_zero, List.getElem_cons_succ, List.setIfInBounds_toArray, List.set_cons_zero, List.set_cons_succ]
                              refine wpAnyH_take (i := 4) (v := ?va848_4) rfl (by kernel_rfl) (by kernel_rfl) (by kernel_rfl) (fun _ _ _ h => h) (Or.inl ⟨by rfl, fun w hSw => ?ti848_4⟩) (by assumption) ?rest848_4
                              case ti848_4 => ((try dsimp only at hSw); go_simp; (first | done | with_reducible rfl))
                              try simp only [Act.put, List.getElem_toArray, List.getElem_cons_zero, List.getElem_cons_succ, List.setIfInBounds_toArray, List.set_cons_zero, List.set_cons_succ]
                              refine wpAnyH_take (i := 5) (v := ?va851_5) rfl (by kernel_rfl) (by kernel_rfl) (by kernel_rfl) (fun _ _ _ h => h) (Or.inl ⟨by rfl, fun w hSw => ?ti851_5⟩) (by assumption) ?rest851_5
                              case ti851_5 => ((try dsimp only at hSw); go_simp; (first | done | with_reducible rfl))
                              try simp only [Act.put, List.getElem_toArray, List.getElem_cons_zero, List.getElem_cons_succ, List.setIfInBounds_toArray, List.set_cons_zero, List.set_cons_succ]
                              refine wpAnyH_take (i := 6) (v := ?va854_6) rfl (by kernel_rfl) (by kernel_rfl) (by kernel_rfl) (fun _ _ _ h => h) (Or.inl ⟨by rfl, fun w hSw => ?ti854_6⟩) (by assumption) ?rest854_6
                              case ti854_6 => ((try dsimp only at hSw); go_simp; (first | done | with_reducible rfl))
                              try simp only [Act.put, List.getElem_toArray, List.getElem_cons_zero, List.getElem_cons_succ, List.setIfInBounds_toArray, List.set_cons_zero, List.set_cons_succ]
                              refine wpAnyH_take (i := 10) (v := ?va857_10) rfl (by kernel_rfl) (by kernel_rfl) (by kernel_rfl) (fun _ _ _ h => h) (Or.inl ⟨by rfl, fun w hSw => ?ti857_10⟩) (by assumption) ?rest857_10
                              case ti857_10 => ((try dsimp only at hSw); go_simp; (first | done | with_reducible rfl))
                              try simp only [Act.put, List.getElem_toArray, List.getElem_cons_zero, List.getElem_cons_succ, List.setIfInBounds_toArray, List.set_cons_zero, List.set_cons_succ]
                              refine wpAnyH_take (i := 11) (v := ?va860_11) rfl (by kernel_rfl) (by kernel_rfl) (by kernel_rfl) (fun _ _ _ h => h) (Or.inl ⟨by rfl, fun w hSw => ?ti860_11⟩) (by assumption) ?rest860_11
                              case ti860_11 => ((try dsimp only at hSw); go_simp; (first | done | with_reducible rfl))
                              try simp only [Act.put, List.getElem_toArray, List.getElem_cons_zero, List.getElem_cons_succ, List.setIfInBounds_toArray, List.set_cons_zero, List.set_cons_succ]
                              refine wpAnyH_take (i := 12) (v := ?va863_12) rfl (by kernel_rfl) (by kernel_rfl) (by kernel_rfl) (fun _ _ _ h => h) (Or.inl ⟨by rfl, fun w hSw => ?ti863_12⟩) (by assumption) ?rest863_12
                              case ti863_12 => ((try dsimp only at hSw); go_simp; (first | done | with_reducible rfl))
                              try simp only [Act.put, List.getElem_toArray, List.getElem_cons_zero, List.getElem_cons_succ, List.setIfInBounds_toArray, List.set_cons_zero, List.set_cons_succ]
                              refine wpAnyH_take (i := 13) (v := ?va866_13) rfl (by kernel_rfl) (by kernel_rfl) (by kernel_rfl) (fun _ _ _ h => h) (Or.inl ⟨by rfl, fun w hSw => ?ti866_13⟩) (by assumption) ?rest866_13
                              case ti866_13 => ((try dsimp only at hSw); go_simp; (first | done | with_reducible rfl))
                              try simp only [Act.put, List.getElem_toArray, List.getElem_cons_zero, List.getElem_cons_succ, List.setIfInBounds_toArray, List.set_cons_zero, List.set_cons_succ]
                              refine wpAnyH_take (i := 14) (v := ?va869_14) rfl (by kernel_rfl) (by kernel_rfl) (by kernel_rfl) (fun _ _ _ h => h) (Or.inl ⟨by rfl, fun w hSw => ?ti869_14⟩) (by assumption) ?rest869_14
                              case ti869_14 => ((try dsimp only at hSw); go_simp; (first | done | with_reducible rfl))
                              try simp only [Act.put, List.getElem_toArray, List.getElem_cons_zero, List.getElem_cons_succ, List.setIfInBounds_toArray, List.set_cons_zero, List.set_cons_succ]
                              refine wpAnyH_take (i := 15) (v := ?va872_15) rfl (by kernel_rfl) (by kernel_rfl) (by kernel_rfl) (fun _ _ _ h => h) (Or.inl ⟨by rfl, fun w hSw => ?ti872_15⟩) (by assumption) ?rest872_15
                              case ti872_15 => ((try dsimp only at hSw); go_simp; (first | done | with_reducible rfl))
                              try simp only [Act.put, List.getElem_toArray, List.getElem_cons_zero, List.getElem_cons_succ, List.setIfInBounds_toArray, List.set_cons_zero, List.set_cons_succ]
                              refine wpAnyH_ready (rs := [7, 9]) (by kernel_rfl) (by simp) ?_
                              refine AllReadyH.cons rfl (fun K hK => ?_) (AllReadyH.cons rfl (fun K hK => ?_) AllReadyH.nil)
                              · as_aux_lemma =>
                                go_simp
                                refine (HNp.out _).mono ?_
                                rintro e w3 ⟨rfl, x⟩
                                have X3 : Hid (Ext wp w3) := Lib.hid (Ext.trans (by (focus (repeat (first | (with_reducible exact Ext.refl _) | (with_reducible apply Ext.drew) | (with_reducible apply Ext.drewN) | (with_reducible apply Ext.alloc))))) x)
                                clear x
                                go_simp
                                refine hK.out _ _ ⟨Ext.cell (Ext.trans X3.out (by (focus (repeat (first | (with_reducible exact Ext.refl _) | (with_reducible apply Ext.drew) | (with_reducible apply Ext.drewN) | (with_reducible apply Ext.alloc)))))) q0_1, Ext.cell (Ext.trans X3.out (by (focus (repeat (first | (with_reducible exact Ext.refl _) | (with_reducible apply Ext.drew) | (with_reducible apply Ext.drewN) | (with_reducible apply Ext.alloc)))))) q0_2, Ext.cell (Ext.trans X3.out (by (focus (repeat (first | (with_reducible exact Ext.refl _) | (with_reducible apply Ext.drew) | (with_reducible apply Ext.drewN) | (with_reducible apply Ext.alloc)))))) q0_3, Ext.cell (Ext.trans X3.out (by (focus (repeat (first | (with_reducible exact Ext.refl _) | (with_reducible apply Ext.drew) | (with_reducible apply Ext.drewN) | (with_reducible apply Ext.alloc)))))) q0_4⟩ (fun hHeld => ?_)
                                clear hK K; try simp only [Act.put, List.getElem_toArray, List.getElem_cons_zero, List.getElem_cons_succ, List.setIfInBounds_toArray, List.set_cons_zero, List.set_cons_succ]
                                refine wpAnyH_take (i := 8) (v := ?vb205) rfl (by kernel_rfl) (by kernel_rfl) (by kernel_rfl) (fun _ _ _ h => h) (Or.inl ⟨by rfl, fun w hSw => ?tj205⟩) (by assumption) ?rs205
                                case tj205 => ((try dsimp only at hSw); go_simp; (first | done | with_reducible rfl))
                                try simp only [Act.put, List.getElem_toArray, List.getElem_cons_zero, List.getElem_cons_succ, List.setIfInBounds_toArray, List.set_cons_zero, List.set_cons_succ]
                                refine wpAnyH_ready (rs := [9]) (by kernel_rfl) (by simp) ?_
                                refine AllReadyH.cons rfl (fun K hK => ?_) AllReadyH.nil
                                go_simp
                                refine hK.out _ _ ⟨Ext.cell (Ext.trans X3.out (by (focus (repeat (first | (with_reducible exact Ext.refl _) | (with_reducible apply Ext.drew) | (with_reducible apply Ext.drewN) | (with_reducible apply Ext.alloc)))))) q0_1, Ext.cell (Ext.trans X3.out (by (focus (repeat (first | (with_reducible exact Ext.refl _) | (with_reducible apply Ext.drew) | (with_reducible apply Ext.drewN) | (with_reducible apply Ext.alloc)))))) q0_2, Ext.cell (Ext.trans X3.out (by (focus (repeat (first | (with_reducible exact Ext.refl _) | (with_reducible apply Ext.drew) | (with_reducible apply Ext.drewN) | (with_reducible apply Ext.alloc)))))) q0_3, Ext.cell (Ext.trans X3.out (by (focus (repeat (first | (with_reducible exact Ext.refl _) | (with_reducible apply Ext.drew) | (with_reducible apply Ext.drewN) | (with_reducible apply Ext.alloc)))))) q0_4⟩ (fun hHeld => ?_)
                                clear hK K; try simp only [Act.put, List.getElem_toArray, List.getElem_cons_zero, List.getElem_cons_succ, List.setIfInBounds_toArray, List.set_cons_zero, List.set_cons_succ]
                                refine wpAnyH_ready (rs := [16]) (by kernel_rfl) (by simp) ?_
                                refine AllReadyH.cons rfl (fun K hK => ?_) AllReadyH.nil
                                go_simp
                                refine hK.out _ _ ⟨Ext.cell (Ext.trans X3.out (by (focus (repeat (first | (with_reducible exact Ext.refl _) | (with_reducible apply Ext.drew) | (with_reducible apply Ext.drewN) | (with_reducible apply Ext.alloc)))))) q0_1, Ext.cell (Ext.trans X3.out (by (focus (repeat (first | (with_reducible exact Ext.refl _) | (with_reducible apply Ext.drew) | (with_reducible apply Ext.drewN) | (with_reducible apply Ext.alloc)))))) q0_2, Ext.cell (Ext.trans X3.out (by (focus (repeat (first | (with_reducible exact Ext.refl _) | (with_reducible apply Ext.drew) | (with_reducible apply Ext.drewN) | (with_reducible apply Ext.alloc)))))) q0_3, Ext.cell (Ext.trans X3.out (by (focus (repeat (first | (with_reducible exact Ext.refl _) | (with_reducible apply Ext.drew) | (with_reducible apply Ext.drewN) | (with_reducible apply Ext.alloc)))))) q0_4⟩ (fun hHeld => ?_)
                                clear hK K; try simp only [Act.put, List.getElem_toArray, List.getElem_cons_zero, List.getElem_cons_succ, List.setIfInBounds_toArray, List.set_cons_zero, List.set_cons_succ]
                                refine wpAnyH_ready (rs := [17]) (by kernel_rfl) (by simp) ?_
                                refine AllReadyH.cons rfl (fun K hK => ?_) AllReadyH.nil
                                go_simp
                                refine hK.out _ _ ⟨Ext.cell (Ext.trans X3.out (by (focus (repeat (first | (with_reducible exact Ext.refl _) | (with_reducible apply Ext.drew) | (with_reducible apply Ext.drewN) | (with_reducible apply Ext.alloc)))))) q0_1, Ext.cell (Ext.trans X3.out (by (focus (repeat (first | (with_reducible exact Ext.refl _) | (with_reducible apply Ext.drew) | (with_reducible apply Ext.drewN) | (with_reducible apply Ext.alloc)))))) q0_2, Ext.cell (Ext.trans X3.out (by (focus (repeat (first | (with_reducible exact Ext.refl _) | (with_reducible apply Ext.drew) | (with_reducible apply Ext.drewN) | (with_reducible apply Ext.alloc)))))) q0_3, Ext.cell (Ext.trans X3.out (by (focus (repeat (first | (with_reducible exact Ext.refl _) | (with_reducible apply Ext.drew) | (with_reducible apply Ext.drewN) | (with_reducible apply Ext.alloc)))))) q0_4⟩ (fun hHeld => ?_)
                                clear hK K; try simp only [Act.put, List.getElem_toArray, List.getElem_cons_zero, List.getElem_cons_succ, List.setIfInBounds_toArray, List.set_cons_zero, List.set_cons_succ]
                                refine wpAnyH_ready (rs := [18]) (by kernel_rfl) (by simp) ?_
                                refine AllReadyH.cons rfl (fun K hK => ?_) AllReadyH.nil
                                go_simp
                                refine hK.out _ _ ⟨Ext.cell (Ext.trans X3.out (by (focus (repeat (first | (with_reducible exact Ext.refl _) | (with_reducible apply Ext.drew) | (with_reducible apply Ext.drewN) | (with_reducible apply Ext.alloc)))))) q0_1, Ext.cell (Ext.trans X3.out (by (focus (repeat (first | (with_reducible exact Ext.refl _) | (with_reducible apply Ext.drew) | (with_reducible apply Ext.drewN) | (with_reducible apply Ext.alloc)))))) q0_2, Ext.cell (Ext.trans X3.out (by (focus (repeat (first | (with_reducible exact Ext.refl _) | (with_reducible apply Ext.drew) | (with_reducible apply Ext.drewN) | (with_reducible apply Ext.alloc)))))) q0_3, Ext.cell (Ext.trans X3.out (by (focus (repeat (first | (with_reducible exact Ext.refl _) | (with_reducible apply Ext.drew) | (with_reducible apply Ext.drewN) | (with_reducible apply Ext.alloc)))))) q0_4⟩ (fun hHeld => ?_)
                                clear hK K; try simp only [Act.put, List.getElem_toArray, List.getElem_cons_zero, List.getElem_cons_succ, List.setIfInBounds_toArray, List.set_cons_zero, List.set_cons_succ]
                                refine wpAnyH_ready (rs := [19]) (by kernel_rfl) (by simp) ?_
                                refine AllReadyH.cons rfl (fun K hK => ?_) AllReadyH.nil
                                go_simp
                                refine hK.out _ _ ⟨Ext.cell (Ext.trans X3.out (by (focus (repeat (first | (with_reducible exact Ext.refl _) | (with_reducible apply Ext.drew) | (with_reducible apply Ext.drewN) | (with_reducible apply Ext.alloc)))))) q0_1, Ext.cell (Ext.trans X3.out (by (focus (repeat (first | (with_reducible exact Ext.refl _) | (with_reducible apply Ext.drew) | (with_reducible apply Ext.drewN) | (with_reducible apply Ext.alloc)))))) q0_2, Ext.cell (Ext.trans X3.out (by (focus (repeat (first | (with_reducible exact Ext.refl _) | (with_reducible apply Ext.drew) | (with_reducible apply Ext.drewN) | (with_reducible apply Ext.alloc)))))) q0_3, Ext.cell (Ext.trans X3.out (by (focus (repeat (first | (with_reducible exact Ext.refl _) | (with_reducible apply Ext.drew) | (with_reducible apply Ext.drewN) | (with_reducible apply Ext.alloc)))))) q0_4⟩ (fun hHeld => ?_)
                                clear hK K; try simp only [Act.put, List.getElem_toArray, List.getElem_cons_zero, List.getElem_cons_succ, List.setIfInBounds_toArray, List.set_cons_zero, List.set_cons_succ]
                                refine wpAnyH_ready (rs := [20]) (by kernel_rfl) (by simp) ?_
                                refine AllReadyH.cons rfl (fun K hK => ?_) AllReadyH.nil
                                go_simp
                                refine hK.out _ _ ⟨Ext.cell (Ext.trans X3.out (by (focus (repeat (first | (with_reducible exact Ext.refl _) | (with_reducible apply Ext.drew) | (with_reducible apply Ext.drewN) | (with_reducible apply Ext.alloc)))))) q0_1, Ext.cell (Ext.trans X3.out (by (focus (repeat (first | (with_reducible exact Ext.refl _) | (with_reducible apply Ext.drew) | (with_reducible apply Ext.drewN) | (with_reducible apply Ext.alloc)))))) q0_2, Ext.cell (Ext.trans X3.out (by (focus (repeat (first | (with_reducible exact Ext.refl _) | (with_reducible apply Ext.drew) | (with_reducible apply Ext.drewN) | (with_reducible apply Ext.alloc)))))) q0_3, Ext.cell (Ext.trans X3.out (by (focus (repeat (first | (with_reducible exact Ext.refl _) | (with_reducible apply Ext.drew) | (with_reducible apply Ext.drewN) | (with_reducible apply Ext.alloc)))))) q0_4⟩ (fun hHeld => ?_)
                                clear hK K; try simp only [Act.put, List.getElem_toArray, List.getElem_cons_zero, List.getElem_cons_succ, List.setIfInBounds_toArray, List.set_cons_zero, List.set_cons_succ]
                                refine wpAnyH_done (by kernel_rfl) ?_ _
                                go_wp2_with fail
                                go_meet
                                case rel => exact ⟨_, rfl, Lib.hid ⟨Ext.trans X3.out (by (focus (repeat (first | (with_reducible exact Ext.refl _) | (with_reducible apply Ext.drew) | (with_reducible apply Ext.drewN) | (with_reducible apply Ext.alloc))))), by rw [HBk.out, HS2.out]; exact HE22.out⟩⟩
                              · as_aux_lemma =>
                                go_simp
                                refine hK.out _ _ ⟨Ext.cell (by (focus (repeat (first | (with_reducible exact Ext.refl _) | (with_reducible apply Ext.drew) | (with_reducible apply Ext.drewN) | (with_reducible apply Ext.alloc))))) q0_1, Ext.cell (by (focus (repeat (first | (with_reducible exact Ext.refl _) | (with_reducible apply Ext.drew) | (with_reducible apply Ext.drewN) | (with_reducible apply Ext.alloc))))) q0_2, Ext.cell (by (focus (repeat (first | (with_reducible exact Ext.refl _) | (with_reducible apply Ext.drew) | (with_reducible apply Ext.drewN) | (with_reducible apply Ext.alloc))))) q0_3, Ext.cell (by (focus (repeat (first | (with_reducible exact Ext.refl _) | (with_reducible apply Ext.drew) | (with_reducible apply Ext.drewN) | (with_reducible apply Ext.alloc))))) q0_4⟩ (fun hHeld => ?_)
                                clear hK K; try simp only [Act.put, List.getElem_toArray, List.getElem_cons_zero, List.getElem_cons_succ, List.setIfInBounds_toArray, List.set_cons_zero, List.set_cons_succ]
                                refine wpAnyH_take (i := 16) (v := ?vb206) rfl (by kernel_rfl) (by kernel_rfl) (by kernel_rfl) (fun _ _ _ h => h) (Or.inl ⟨by rfl, fun w hSw => ?tj206⟩) (by assumption) ?rs206
                                case tj206 => ((try dsimp only at hSw); go_simp; (first | done | with_reducible rfl))
                                try simp only [Act.put, List.getElem_toArray, List.getElem_cons_zero, List.getElem_cons_succ, List.setIfInBounds_toArray, List.set_cons_zero, List.set_cons_succ]
                                refine wpAnyH_ready (rs := [7, 17]) (by kernel_rfl) (by simp) ?_
                                refine AllReadyH.cons rfl (fun K hK => ?_) (AllReadyH.cons rfl (fun K hK => ?_) AllReadyH.nil)
                                · as_aux_lemma =>
                                  go_simp
                                  refine (HNp.out _).mono ?_
                                  rintro e w3 ⟨rfl, x⟩
                                  have X3 : Hid (Ext wp w3) := Lib.hid (Ext.trans (by (focus (repeat (first | (with_reducible exact Ext.refl _) | (with_reducible apply Ext.drew) | (with_reducible apply Ext.drewN) | (with_reducible apply Ext.alloc))))) x)
                                  have hcl : w3.cell? ⟨wp.heap.size, 1, none⟩ = some (.string ⟨#[62]⟩) := Ext.cell x (show ((wp).alloc (.cells #[.string ⟨#[60]⟩, .string ⟨#[62]⟩] 9)).drew.cell? ⟨wp.heap.size, 1, none⟩ = some (.string ⟨#[62]⟩) from cell_of_blk (show ((wp).alloc (.cells #[.string ⟨#[60]⟩, .string ⟨#[62]⟩] 9)).drew.heap[wp.heap.size]? = some (Obj.cells #[.string ⟨#[60]⟩, .string ⟨#[62]⟩] 9 (0, 0)) from Deep.blk_alloc_new _ _) rfl)
                                  clear x
                                  go_simp
                                  refine hK.out _ _ ⟨Ext.cell (Ext.trans X3.out (by (focus (repeat (first | (with_reducible exact Ext.refl _) | (with_reducible apply Ext.drew) | (with_reducible apply Ext.drewN) | (with_reducible apply Ext.alloc)))))) q0_1, Ext.cell (Ext.trans X3.out (by (focus (repeat (first | (with_reducible exact Ext.refl _) | (with_reducible apply Ext.drew) | (with_reducible apply Ext.drewN) | (with_reducible apply Ext.alloc)))))) q0_2, Ext.cell (Ext.trans X3.out (by (focus (repeat (first | (with_reducible exact Ext.refl _) | (with_reducible apply Ext.drew) | (with_reducible apply Ext.drewN) | (with_reducible apply Ext.alloc)))))) q0_3, Ext.cell (Ext.trans X3.out (by (focus (repeat (first | (with_reducible exact Ext.refl _) | (with_reducible apply Ext.drew) | (with_reducible apply Ext.drewN) | (with_reducible apply Ext.alloc)))))) q0_4⟩ (fun hHeld => ?_)
                                  clear hK K; try simp only [Act.put, List.getElem_toArray, List.getElem_cons_zero, List.getElem_cons_succ, List.setIfInBounds_toArray, List.set_cons_zero, List.set_cons_succ]
                                  refine wpAnyH_take (i := 8) (v := ?vb207) rfl (by kernel_rfl) (by kernel_rfl) (by kernel_rfl) (fun _ _ _ h => h) (Or.inl ⟨by rfl, fun w hSw => ?tj207⟩) (by assumption) ?rs207
                                  case tj207 => ((try dsimp only at hSw); go_simp; (first | done | with_reducible rfl))
                                  try simp only [Act.put, List.getElem_toArray, List.getElem_cons_zero, List.getElem_cons_succ, List.setIfInBounds_toArray, List.set_cons_zero, List.set_cons_succ]
                                  refine wpAnyH_ready (rs := [17]) (by kernel_rfl) (by simp) ?_
                                  refine AllReadyH.cons rfl (fun K hK => ?_) AllReadyH.nil
                                  go_simp
                                  clear hcl
                                  refine hK.out _ _ ⟨Ext.cell (Ext.trans X3.out (by (focus (repeat (first | (with_reducible exact Ext.refl _) | (with_reducible apply Ext.drew) | (with_reducible apply Ext.drewN) | (with_reducible apply Ext.alloc)))))) q0_1, Ext.cell (Ext.trans X3.out (by (focus (repeat (first | (with_reducible exact Ext.refl _) | (with_reducible apply Ext.drew) | (with_reducible apply Ext.drewN) | (with_reducible apply Ext.alloc)))))) q0_2, Ext.cell (Ext.trans X3.out (by (focus (repeat (first | (with_reducible exact Ext.refl _) | (with_reducible apply Ext.drew) | (with_reducible apply Ext.drewN) | (with_reducible apply Ext.alloc)))))) q0_3, Ext.cell (Ext.trans X3.out (by (focus (repeat (first | (with_reducible exact Ext.refl _) | (with_reducible apply Ext.drew) | (with_reducible apply Ext.drewN) | (with_reducible apply Ext.alloc)))))) q0_4⟩ (fun hHeld => ?_)
                                  clear hK K; try simp only [Act.put, List.getElem_toArray, List.getElem_cons_zero, List.getElem_cons_succ, List.setIfInBounds_toArray, List.set_cons_zero, List.set_cons_succ]
                                  refine wpAnyH_ready (rs := [18]) (by kernel_rfl) (by simp) ?_
                                  refine AllReadyH.cons rfl (fun K hK => ?_) AllReadyH.nil
                                  go_simp
                                  refine hK.out _ _ ⟨Ext.cell (Ext.trans X3.out (by (focus (repeat (first | (with_reducible exact Ext.refl _) | (with_reducible apply Ext.drew) | (with_reducible apply Ext.drewN) | (with_reducible apply Ext.alloc)))))) q0_1, Ext.cell (Ext.trans X3.out (by (focus (repeat (first | (with_reducible exact Ext.refl _) | (with_reducible apply Ext.drew) | (with_reducible apply Ext.drewN) | (with_reducible apply Ext.alloc)))))) q0_2, Ext.cell (Ext.trans X3.out (by (focus (repeat (first | (with_reducible exact Ext.refl _) | (with_reducible apply Ext.drew) | (with_reducible apply Ext.drewN) | (with_reducible apply Ext.alloc)))))) q0_3, Ext.cell (Ext.trans X3.out (by (focus (repeat (first | (with_reducible exact Ext.refl _) | (with_reducible apply Ext.drew) | (with_reducible apply Ext.drewN) | (with_reducible apply Ext.alloc)))))) q0_4⟩ (fun hHeld => ?_)
                                  clear hK K; try simp only [Act.put, List.getElem_toArray, List.getElem_cons_zero, List.getElem_cons_succ, List.setIfInBounds_toArray, List.set_cons_zero, List.set_cons_succ]
                                  refine wpAnyH_ready (rs := [19]) (by kernel_rfl) (by simp) ?_
                                  refine AllReadyH.cons rfl (fun K hK => ?_) AllReadyH.nil
                                  go_simp
                                  refine hK.out _ _ ⟨Ext.cell (Ext.trans X3.out (by (focus (repeat (first | (with_reducible exact Ext.refl _) | (with_reducible apply Ext.drew) | (with_reducible apply Ext.drewN) | (with_reducible apply Ext.alloc)))))) q0_1, Ext.cell (Ext.trans X3.out (by (focus (repeat (first | (with_reducible exact Ext.refl _) | (with_reducible apply Ext.drew) | (with_reducible apply Ext.drewN) | (with_reducible apply Ext.alloc)))))) q0_2, Ext.cell (Ext.trans X3.out (by (focus (repeat (first | (with_reducible exact Ext.refl _) | (with_reducible apply Ext.drew) | (with_reducible apply Ext.drewN) | (with_reducible apply Ext.alloc)))))) q0_3, Ext.cell (Ext.trans X3.out (by (focus (repeat (first | (with_reducible exact Ext.refl _) | (with_reducible apply Ext.drew) | (with_reducible apply Ext.drewN) | (with_reducible apply Ext.alloc)))))) q0_4⟩ (fun hHeld => ?_)
                                  clear hK K; try simp only [Act.put, List.getElem_toArray, List.getElem_cons_zero, List.getElem_cons_succ, List.setIfInBounds_toArray, List.set_cons_zero, List.set_cons_succ]
                                  refine wpAnyH_ready (rs := [20]) (by kernel_rfl) (by simp) ?_
                                  refine AllReadyH.cons rfl (fun K hK => ?_) AllReadyH.nil
                                  go_simp
                                  refine hK.out _ _ ⟨Ext.cell (Ext.trans X3.out (by (focus (repeat (first | (with_reducible exact Ext.refl _) | (with_reducible apply Ext.drew) | (with_reducible apply Ext.drewN) | (with_reducible apply Ext.alloc)))))) q0_1, Ext.cell (Ext.trans X3.out (by (focus (repeat (first | (with_reducible exact Ext.refl _) | (with_reducible apply Ext.drew) | (with_reducible apply Ext.drewN) | (with_reducible apply Ext.alloc)))))) q0_2, Ext.cell (Ext.trans X3.out (by (focus (repeat (first | (with_reducible exact Ext.refl _) | (with_reducible apply Ext.drew) | (with_reducible apply Ext.drewN) | (with_reducible apply Ext.alloc)))))) q0_3, Ext.cell (Ext.trans X3.out (by (focus (repeat (first | (with_reducible exact Ext.refl _) | (with_reducible apply Ext.drew) | (with_reducible apply Ext.drewN) | (with_reducible apply Ext.alloc)))))) q0_4⟩ (fun hHeld => ?_)
                                  clear hK K; try simp only [Act.put, List.getElem_toArray, List.getElem_cons_zero, List.getElem_cons_succ, List.setIfInBounds_toArray, List.set_cons_zero, List.set_cons_succ]
                                  refine wpAnyH_done (by kernel_rfl) ?_ _
                                  go_wp2_with fail
                                  go_meet
                                  case rel => exact ⟨_, rfl, Lib.hid ⟨Ext.trans X3.out (by (focus (repeat (first | (with_reducible exact Ext.refl _) | (with_reducible apply Ext.drew) | (with_reducible apply Ext.drewN) | (with_reducible apply Ext.alloc))))), by rw [HBk.out, HS2.out]; exact HE22.out⟩⟩
                                · as_aux_lemma =>
                                  go_simp
                                  refine hK.out _ _ ⟨Ext.cell (by (focus (repeat (first | (with_reducible exact Ext.refl _) | (with_reducible apply Ext.drew) | (with_reducible apply Ext.drewN) | (with_reducible apply Ext.alloc))))) q0_1, Ext.cell (by (focus (repeat (first | (with_reducible exact Ext.refl _) | (with_reducible apply Ext.drew) | (with_reducible apply Ext.drewN) | (with_reducible apply Ext.alloc))))) q0_2, Ext.cell (by (focus (repeat (first | (with_reducible exact Ext.refl _) | (with_reducible apply Ext.drew) | (with_reducible apply Ext.drewN) | (with_reducible apply Ext.alloc))))) q0_3, Ext.cell (by (focus (repeat (first | (with_reducible exact Ext.refl _) | (with_reducible apply Ext.drew) | (with_reducible apply Ext.drewN) | (with_reducible apply Ext.alloc))))) q0_4⟩ (fun hHeld => ?_)
                                  clear hK K; try simp only [Act.put, List.getElem_toArray, List.getElem_cons_zero, List.getElem_cons_succ, List.setIfInBounds_toArray, List.set_cons_zero, List.set_cons_succ]
                                  refine wpAnyH_ready (rs := [7]) (by kernel_rfl) (by simp) ?_
                                  refine AllReadyH.cons rfl (fun K hK => ?_) AllReadyH.nil
                                  go_simp
                                  refine (HNp.out _).mono ?_
                                  rintro e w3 ⟨rfl, x⟩
                                  have X3 : Hid (Ext wp w3) := Lib.hid (Ext.trans (by (focus (repeat (first | (with_reducible exact Ext.refl _) | (with_reducible apply Ext.drew) | (with_reducible apply Ext.drewN) | (with_reducible apply Ext.alloc))))) x)
                                  clear x
                                  go_simp
                                  refine hK.out _ _ ⟨Ext.cell (Ext.trans X3.out (by (focus (repeat (first | (with_reducible exact Ext.refl _) | (with_reducible apply Ext.drew) | (with_reducible apply Ext.drewN) | (with_reducible apply Ext.alloc)))))) q0_1, Ext.cell (Ext.trans X3.out (by (focus (repeat (first | (with_reducible exact Ext.refl _) | (with_reducible apply Ext.drew) | (with_reducible apply Ext.drewN) | (with_reducible apply Ext.alloc)))))) q0_2, Ext.cell (Ext.trans X3.out (by (focus (repeat (first | (with_reducible exact Ext.refl _) | (with_reducible apply Ext.drew) | (with_reducible apply Ext.drewN) | (with_reducible apply Ext.alloc)))))) q0_3, Ext.cell (Ext.trans X3.out (by (focus (repeat (first | (with_reducible exact Ext.refl _) | (with_reducible apply Ext.drew) | (with_reducible apply Ext.drewN) | (with_reducible apply Ext.alloc)))))) q0_4⟩ (fun hHeld => ?_)
                                  clear hK K; try simp only [Act.put, List.getElem_toArray, List.getElem_cons_zero, List.getElem_cons_succ, List.setIfInBounds_toArray, List.set_cons_zero, List.set_cons_succ]
                                  refine wpAnyH_take (i := 8) (v := ?vb208) rfl (by kernel_rfl) (by kernel_rfl) (by kernel_rfl) (fun _ _ _ h => h) (Or.inl ⟨by rfl, fun w hSw => ?tj208⟩) (by assumption) ?rs208
                                  case tj208 => ((try dsimp only at hSw); go_simp; (first | done | with_reducible rfl))
                                  try simp only [Act.put, List.getElem_toArray, List.getElem_cons_zero, List.getElem_cons_succ, List.setIfInBounds_toArray, List.set_cons_zero, List.set_cons_succ]
                                  refine wpAnyH_ready (rs := [18]) (by kernel_rfl) (by simp) ?_
                                  refine AllReadyH.cons rfl (fun K hK => ?_) AllReadyH.nil
                                  go_simp
                                  refine hK.out _ _ ⟨Ext.cell (Ext.trans X3.out (by (focus (repeat (first | (with_reducible exact Ext.refl _) | (with_reducible apply Ext.drew) | (with_reducible apply Ext.drewN) | (with_reducible apply Ext.alloc)))))) q0_1, Ext.cell (Ext.trans X3.out (by (focus (repeat (first | (with_reducible exact Ext.refl _) | (with_reducible apply Ext.drew) | (with_reducible apply Ext.drewN) | (with_reducible apply Ext.alloc)))))) q0_2, Ext.cell (Ext.trans X3.out (by (focus (repeat (first | (with_reducible exact Ext.refl _) | (with_reducible apply Ext.drew) | (with_reducible apply Ext.drewN) | (with_reducible apply Ext.alloc)))))) q0_3, Ext.cell (Ext.trans X3.out (by (focus (repeat (first | (with_reducible exact Ext.refl _) | (with_reducible apply Ext.drew) | (with_reducible apply Ext.drewN) | (with_reducible apply Ext.alloc)))))) q0_4⟩ (fun hHeld => ?_)
                                  clear hK K; try simp only [Act.put, List.getElem_toArray, List.getElem_cons_zero, List.getElem_cons_succ, List.setIfInBounds_toArray, List.set_cons_zero, List.set_cons_succ]
                                  refine wpAnyH_ready (rs := [19]) (by kernel_rfl) (by simp) ?_
                                  refine AllReadyH.cons rfl (fun K hK => ?_) AllReadyH.nil
                                  go_simp
                                  refine hK.out _ _ ⟨Ext.cell (Ext.trans X3.out (by (focus (repeat (first | (with_reducible exact Ext.refl _) | (with_reducible apply Ext.drew) | (with_reducible apply Ext.drewN) | (with_reducible apply Ext.alloc)))))) q0_1, Ext.cell (Ext.trans X3.out (by (focus (repeat (first | (with_reducible exact Ext.refl _) | (with_reducible apply Ext.drew) | (with_reducible apply Ext.drewN) | (with_reducible apply Ext.alloc)))))) q0_2, Ext.cell (Ext.trans X3.out (by (focus (repeat (first | (with_reducible exact Ext.refl _) | (with_reducible apply Ext.drew) | (with_reducible apply Ext.drewN) | (with_reducible apply Ext.alloc)))))) q0_3, Ext.cell (Ext.trans X3.out (by (focus (repeat (first | (with_reducible exact Ext.refl _) | (with_reducible apply Ext.drew) | (with_reducible apply Ext.drewN) | (with_reducible apply Ext.alloc)))))) q0_4⟩ (fun hHeld => ?_)
                                  clear hK K; try simp only [Act.put, List.getElem_toArray, List.getElem_cons_zero, List.getElem_cons_succ, List.setIfInBounds_toArray, List.set_cons_zero, List.set_cons_succ]
                                  refine wpAnyH_ready (rs := [20]) (by kernel_rfl) (by simp) ?_
                                  refine AllReadyH.cons rfl (fun K hK => ?_) AllReadyH.nil
                                  go_simp
                                  refine hK.out _ _ ⟨Ext.cell (Ext.trans X3.out (by (focus (repeat (first | (with_reducible exact Ext.refl _) | (with_reducible apply Ext.drew) | (with_reducible apply Ext.drewN) | (with_reducible apply Ext.alloc)))))) q0_1, Ext.cell (Ext.trans X3.out (by (focus (repeat (first | (with_reducible exact Ext.refl _) | (with_reducible apply Ext.drew) | (with_reducible apply Ext.drewN) | (with_reducible apply Ext.alloc)))))) q0_2, Ext.cell (Ext.trans X3.out (by (focus (repeat (first | (with_reducible exact Ext.refl _) | (with_reducible apply Ext.drew) | (with_reducible apply Ext.drewN) | (with_reducible apply Ext.alloc)))))) q0_3, Ext.cell (Ext.trans X3.out (by (focus (repeat (first | (with_reducible exact Ext.refl _) | (with_reducible apply Ext.drew) | (with_reducible apply Ext.drewN) | (with_reducible apply Ext.alloc)))))) q0_4⟩ (fun hHeld => ?_)
                                  clear hK K; try simp only [Act.put, List.getElem_toArray, List.getElem_cons_zero, List.getElem_cons_succ, List.setIfInBounds_toArray, List.set_cons_zero, List.set_cons_succ]
                                  refine wpAnyH_done (by kernel_rfl) ?_ _
                                  go_wp2_with fail
                                  go_meet
                                  case rel => exact ⟨_, rfl, Lib.hid ⟨Ext.trans X3.out (by (focus (repeat (first | (with_reducible exact Ext.refl _) | (with_reducible apply Ext.drew) | (with_reducible apply Ext.drewN) | (with_reducible apply Ext.alloc))))), by rw [HBk.out, HS2.out]; exact HE22.out⟩⟩
                          case rest =>
                            obtain ⟨B5, rfl, G8⟩ := hcut
                            obtain ⟨w8, hw8⟩ : ∃ w8, w8 = wc := ⟨_, rfl⟩
                            subst hw8
                            have hz5 : B5.size ≤ 1000200000 := by
                              rw [G8.out.2, bst_size, List.length_append, List.length_append]
                              have h1 := P5_len HlI.out.1 k (by omega)
                              have h2 := nameT_len HpI.out.1.1
                              rw [List.length_append, List.length_append]
                              have h3 : (if p.d = 1 then ([62] : List UInt8) else [60]).length = 1 := by split <;> rfl
                              rw [h3]; simp only [List.length_cons, List.length_nil]; omega
                            clear y1 y2 y3 c0 c1 c2 c3 q0 q1 q2 q3
                            have X8 := Lib.hid (G7.out.1.trans G8.out.1)
                            obtain ⟨q0, q1, q2, q3⟩ := B4.cells (HBl.out.ext X8.out)
                            obtain ⟨c0, c1, c2, c3⟩ := HPc.out _ X8.out
                            have y1 : ¬ 9223372036854775807 < B5.size + 1 := by omega
                            cases hfr : p.f with
                            | true =>
                              have HN := Lib.hid (show B5 ++ bst [43] = bst (A4 ++ P5 l (k + 1)) by
                                rw [G8.out.2, bst_app, HPs.out]; unfold passT; rw [hfr]; simp)
                              rw [hfr] at c2
                              clear hfr
                              go_wp2_with fail
                              go_roundg (n2 - (k + 1))
                              case measure => have := Hgk.out; omega
                              case rel => exact ⟨k + 1, _, by have := Hgk.out; omega, by go_num, rfl, Lib.hid ⟨X8.out, HN.out⟩⟩
                            | false =>
                              have HN := Lib.hid (show B5 = bst (A4 ++ P5 l (k + 1)) by
                                rw [G8.out.2, HPs.out]; unfold passT; rw [hfr]; simp)
                              rw [hfr] at c2
                              clear hfr
                              go_wp2_with fail
                              go_roundg (n2 - (k + 1))
                              case measure => have := Hgk.out; omega
                              case rel => exact ⟨k + 1, _, by have := Hgk.out; omega, by go_num, rfl, Lib.hid ⟨X8.out, HN.out⟩⟩
                        · have hkk : k = n2 := by omega
                          have e5 : ¬ (k : Int) < n2 := by omega
                          have y1 : ¬ 9223372036854775807 < B.size + 1 := by omega
                          have HN := Lib.hid (show B ++ bst [10] = bst (tabP f.ys y ++ rowP y (yi f.ys y) (n + 1)) by
                            rw [G7.out.2, hkk, rowP_succ, ← Hl.out, line_eq, HA4.out, HA3.out, HA2.out, HA1.out, Hn12.out.2, bst_app]
                            simp [List.append_assoc])
                          clear hkk hgk
                          go_wp2_with fail
                          go_roundg (rm - (n + 1))
                          case measure => have := Hgn.out; omega
                          case rel => exact ⟨n + 1, _, by have := Hgn.out; omega, by go_num, rfl, Lib.hid ⟨XB.out.trans G7.out.1, HN.out⟩⟩
            · have hnn : n = rm := by omega
              have e3 : ¬ (n : Int) < rm := by omega
              have HN := Lib.hid (show B = bst (tabP f.ys (y + 1)) by rw [G2.out.2, tabP_succ, hnn, Hrm.out]; rfl)
              clear hnn hgn
              go_wp2_with fail
              go_roundg (6 - (y + 1))
              case measure => have := Hgy.out; omega
              case rel => exact ⟨y + 1, B, by have := Hgy.out; omega, by go_num, rfl, Lib.hid ⟨G2.out.1, HN.out⟩⟩
        · have hyy : y = 6 := by omega
          have e1 : ¬ (y : Int) < 6 := by omega
          obtain ⟨T0, hT0⟩ : ∃ T0, T0 = tabP f.ys f.ys.length := ⟨_, rfl⟩
          have HB0 := Lib.hid (show B = bst T0 by rw [G.out.2, hyy, hT0, HBd.out.l6])
          have hT0s : T0.length ≤ 600000000 := by rw [hT0, HBd.out.l6]; exact tabP_len HBd.out 6 (Nat.le_refl _)
          have HT0 := Lib.hid hT0
          obtain ⟨c2, hC2⟩ := HFB.out.c
          obtain ⟨ca', cn', e, -, -, hk9, hCat⟩ := hC2.open
          cases e
          have HCat := Lib.hid hCat; have Hkn := Lib.hid HL.out.1
          have hk1000 : kn ≤ 1000 := by rw [Hkn.out]; exact HBd.out.inn.n3
          clear hyy hgy hC2 hCat hT0
          go_wp2_with fail
          obtain ⟨wo, hwo⟩ : ∃ wo, wo = wr := ⟨_, rfl⟩
          subst hwo
          go_loopg [5, 10, 11] kn (fun g sv iv _ wr => ∃ (k : Nat) (B : ByteArray), g + k = kn ∧ iv = .int .i64 k ∧ sv = .string B ∧ Hid (Ext W2 wr ∧ B = bst (T0 ++ crP f.cr k)))
          case atStart => exact ⟨0, B, by omega, rfl, rfl, Lib.hid ⟨G.out.1, by rw [HB0.out]; simp [crP]⟩⟩
          case round =>
            obtain ⟨k, B, hgk, rfl, rfl, G2⟩ := hrel
            have Hgk := Lib.hid hgk
            obtain ⟨q0, q1, q2, q3⟩ := B4.cells (HB2.out.ext G2.out.1)
            have hBs : B.size ≤ 700000000 := by
              rw [G2.out.2, bst_size, List.length_append]
              have h1 := crP_len HBd.out k (by rw [← Hkn.out]; omega)
              omega
            by_cases hk : k < kn
            · have e3 : (k : Int) < kn := by omega
              have e4 : (0 : Int) ≤ k := by omega
              clear hgk
              obtain ⟨pb, po, rfl, hP⟩ := HCat.out k hk
              obtain ⟨c, hcd⟩ : ∃ c, c = xi f.cr k := ⟨_, rfl⟩
              rw [← hcd] at hP
              have hcm : c ∈ f.cr := by rw [hcd]; exact xi_mem (by rw [← Hkn.out]; exact hk)
              have HcI := Lib.hid (And.intro (HBd.out.inn.cr c hcm) (HBd.out.nn.2.2 c hcm))
              have HcrS := Lib.hid (show crP f.cr (k + 1) = crP f.cr k ++ (crossW ++ sp [nameT c.a, nameT c.b] ++ [32] ++ Lib.itoa c.n ++ [10]) by rw [crP_succ (by rw [← Hkn.out]; exact hk), hcd, crW_eq])
              obtain ⟨p0, p1, p2, p3, p4⟩ := hP.ext G2.out.1
              have Hcx := Lib.hid hcd
              clear hP hcd hcm
              go_upto_region 30 with fail
              obtain ⟨WB, hWB⟩ : ∃ WB, WB = wr.alloc (.cells #[.int .u8 c.a.y, .int .i64 c.a.n, .int .u8 c.b.y, .int .i64 c.b.n, .int .i64 c.n] 52) := ⟨_, rfl⟩
              obtain ⟨gl, hgl⟩ : ∃ gl, gl = wr.heap.size := ⟨_, rfl⟩
              rw [← hWB, ← hgl]
              have XB := Lib.hid (show Ext W2 WB by rw [hWB]; exact G2.out.1.trans ((Ext.refl _).alloc _))
              have HBl := Lib.hid (show B5 WB gl c 52 by rw [hWB, hgl]; exact B5.new _ _ _)
              clear hWB hgl p0 p1 p2 p3 p4 q0 q1 q2 q3
              obtain ⟨q0, q1, q2, q3, q4⟩ := HBl.out.at
              simp only [Nat.zero_add] at q1 q2 q3 q4
              obtain ⟨WL, hWL⟩ : ∃ WL, WL = WB.alloc (.cells #[.int .u8 c.a.y, .int .i64 c.a.n, .int .u8 c.b.y, .int .i64 c.b.n] 41) := ⟨_, rfl⟩
              have HWL := Lib.hid hWL
              have XL' := Lib.hid (show Ext WB WL by rw [hWL]; exact (Ext.refl _).alloc _)
              obtain ⟨N, hN⟩ : ∃ N, N = bst (sp [nameT c.a, nameT c.b]) := ⟨_, rfl⟩
              have hNs : N.size ≤ 88 := by
                rw [hN, bst_size]
                have h1 := nameT_len HcI.out.1.1
                have h2 := nameT_len HcI.out.1.2.1
                simp [sp]; omega
              have HC := Lib.hid (show Calls Tryd.prog 19 #[.slice (some ⟨WB.heap.size, 0, none⟩) 2 2] WL fun e w' => e = .returned (.string N) ∧ Ext WL w' from by
                rw [hN]
                refine LNames_calls _ 2 [c.a, c.b] WL (by rw [hWL]; exact CK.of_blk (Deep.blk_alloc_new _ _) (Ks.nm [c.a, c.b]) rfl (Nat.le_refl _) (by omega) rfl) (fun a ha => ?_) (by simp)
                simp only [List.mem_cons, List.not_mem_nil, or_false] at ha
                rcases ha with rfl | rfl
                · exact ⟨HcI.out.1.1, HcI.out.2.1⟩
                · exact ⟨HcI.out.1.2.1, HcI.out.2.2⟩)
              have y1 : ¬ 9223372036854775807 < 5 + N.size := by omega
              have y2 : ¬ 9223372036854775807 < 5 + N.size + 1 := by omega
              have y3 : ¬ 9223372036854775807 < B.size + (5 + N.size + 1) := by omega
              have HN := Lib.hid hN
              clear hN hWL
              go_wp2_with fail
              rw [← HWL.out]
              refine HC.out.mono ?_
              rintro e w4 ⟨rfl, x4⟩
              have X4 := Lib.hid (XL'.out.trans x4)
              clear x4 q0 q1 q2 q3 q4
              go_upto_region 31 with fail
              obtain ⟨BC, hBC⟩ : ∃ BC, BC = B ++ (bst [99, 114, 111, 115, 115] ++ N ++ bst [32]) := ⟨_, rfl⟩
              have HBC := Lib.hid (show BC = bst (T0 ++ crP f.cr k ++ (crossW ++ sp [nameT c.a, nameT c.b] ++ [32])) by rw [hBC, G2.out.2, HN.out, bst_app, bst_app, bst_app]; rfl)
              have hBCs : BC.size ≤ 700000100 := by
                rw [hBC]
                simp only [ByteArray.size_append, bst_size, List.length_cons, List.length_nil]; omega
              have hBC' : BC = B ++ ((⟨#[99, 114, 111, 115, 115]⟩ : ByteArray) ++ N ++ ⟨#[32]⟩) := hBC
              rw [← hBC']
              obtain ⟨c0, c1, c2, c3, c4⟩ := (HBl.out.ext X4.out).at
              simp only [Nat.zero_add] at c4
              clear hBC hBC' y1 y2 y3 c0 c1 c2 c3
              have hcn := HBd.out.cn c (by rw [show c = xi f.cr k from Hcx.out]; exact xi_mem (by rw [← Hkn.out]; exact hk))
              by_cases hneg : c.n < 0
              · have f1 : IntKind.i64.wrap (-c.n) = -c.n := IntWalk.i64_in _ ⟨by omega, by omega⟩
                have f2 : wrap64 (-c.n) = -c.n := IntWalk.wrap64_in _ ⟨by omega, by omega⟩
                obtain ⟨D, hD⟩ : ∃ D, D = bst (Lib.itoa (-c.n)) := ⟨_, rfl⟩
                have hDs : D.size ≤ 21 := by rw [hD, bst_size]; exact Lib.itoa_length_le _ (by omega) (by omega)
                have HD := Lib.hid (show ∀ w', Calls Tryd.prog 20 #[.int .i64 (-c.n)] w' fun e w'' => e = .returned (.string D) ∧ Ext w' w'' from fun w' => by rw [hD]; exact Dec2_calls (-c.n) w' (by omega) (by omega))
                have y1 : ¬ 9223372036854775807 < 1 + D.size := by omega
                have y2 : ¬ 9223372036854775807 < 1 + D.size + 1 := by omega
                have y3 : ¬ 9223372036854775807 < BC.size + (1 + D.size + 1) := by omega
                have HN2 := Lib.hid (show BC ++ (bst [45] ++ D ++ bst [10]) = bst (T0 ++ crP f.cr (k + 1)) by
                  rw [HBC.out, hD, HcrS.out, itoa_neg' hneg, bst_app, bst_app, bst_app]; simp [List.append_assoc])
                clear hD
                go_wp2_with fail
                refine (HD.out _).mono ?_
                rintro e w5 ⟨rfl, x5⟩
                have X5 := Lib.hid (XB.out.trans (X4.out.trans x5))
                clear x5 c4
                go_wp2_with fail
                go_roundg (kn - (k + 1))
                case measure => have := Hgk.out; omega
                case rel => exact ⟨k + 1, _, by have := Hgk.out; omega, by go_num, rfl, Lib.hid ⟨X5.out, HN2.out⟩⟩
              · obtain ⟨D, hD⟩ : ∃ D, D = bst (Lib.itoa c.n) := ⟨_, rfl⟩
                have hDs : D.size ≤ 21 := by rw [hD, bst_size]; exact Lib.itoa_length_le _ (by omega) (by omega)
                have HD := Lib.hid (show ∀ w', Calls Tryd.prog 20 #[.int .i64 c.n] w' fun e w'' => e = .returned (.string D) ∧ Ext w' w'' from fun w' => by rw [hD]; exact Dec2_calls c.n w' (by omega) (by omega))
                have y1 : ¬ 9223372036854775807 < D.size + 1 := by omega
                have y3 : ¬ 9223372036854775807 < BC.size + (D.size + 1) := by omega
                have HN2 := Lib.hid (show BC ++ (D ++ bst [10]) = bst (T0 ++ crP f.cr (k + 1)) by
                  rw [HBC.out, hD, HcrS.out, bst_app, bst_app]; simp [List.append_assoc])
                clear hD
                go_wp2_with fail
                refine (HD.out _).mono ?_
                rintro e w5 ⟨rfl, x5⟩
                have X5 := Lib.hid (XB.out.trans (X4.out.trans x5))
                clear x5 c4
                go_wp2_with fail
                go_roundg (kn - (k + 1))
                case measure => have := Hgk.out; omega
                case rel => exact ⟨k + 1, _, by have := Hgk.out; omega, by go_num, rfl, Lib.hid ⟨X5.out, HN2.out⟩⟩
            · have hkk : k = kn := by omega
              have e3 : ¬ (k : Int) < kn := by omega
              obtain ⟨T1, hT1⟩ : ∃ T1, T1 = T0 ++ crP f.cr f.cr.length := ⟨_, rfl⟩
              have HB1 := Lib.hid (show B = bst T1 by rw [G2.out.2, hkk, hT1, Hkn.out])
              have HT1 := Lib.hid hT1
              clear hkk hgk hT1
              obtain ⟨wq, hwq⟩ : ∃ wq, wq = wr := ⟨_, rfl⟩
              subst hwq
              go_upto_if 163 with fail
              go_cut [5] from 160 to 189 (fun sv wx => ∃ B', sv = .string B' ∧ Hid (Ext wq wx ∧ B' = bst (T1 ++ nmsT heldW f.held)))
              case first =>
                by_cases h0 : 0 < ln
                · have f1 : (0 : Int) < ln := by omega
                  obtain ⟨N, hN⟩ : ∃ N, N = bst (sp (f.held.map nameT)) := ⟨_, rfl⟩
                  have hNs : N.size ≤ 44000 := by
                    rw [hN, bst_size]
                    have := nms_len (l := f.held) HBd.out.inn.held HBd.out.inn.n1 f.held.length
                    rwa [List.take_length] at this
                  obtain ⟨ch, hCh⟩ := HFB.out.h
                  have HC := Lib.hid (show Calls Tryd.prog 19 #[.slice la ln lc] wq fun e w' => e = .returned (.string N) ∧ Ext wq w' from by
                    rw [hN]
                    exact LNames_calls _ ch f.held wq (hCh.ext G2.out.1) (fun a ha => ⟨HBd.out.inn.held a ha, HBd.out.nn.1 a ha⟩) HBd.out.inn.n1)
                  have y1 : ¬ 9223372036854775807 < 4 + N.size := by omega
                  have y2 : ¬ 9223372036854775807 < 4 + N.size + 1 := by omega
                  have y3 : ¬ 9223372036854775807 < B.size + (4 + N.size + 1) := by omega
                  have HN := Lib.hid (show B ++ (bst [104, 101, 108, 100] ++ N ++ bst [10]) = bst (T1 ++ nmsT heldW f.held) by
                    rw [HB1.out, hN, nmsT_eq, if_neg (fun e => by have := HL.out.2.1; rw [e] at this; simp at this; omega), bst_app, bst_app, bst_app]; rfl)
                  clear hN h0 hCh
                  go_wp2_with fail
                  refine HC.out.mono ?_
                  rintro e w4 ⟨rfl, x4⟩
                  have X4 := Lib.hid x4
                  clear x4 q0 q1 q2 q3
                  go_wp2_with fail
                  go_meet
                  case rel => exact ⟨_, rfl, Lib.hid ⟨X4.out, HN.out⟩⟩
                · have f1 : ¬ (0 : Int) < ln := by omega
                  have HN := Lib.hid (show B = bst (T1 ++ nmsT heldW f.held) by
                    rw [HB1.out, nmsT_eq, if_pos (List.eq_nil_of_length_eq_zero (by have := HL.out.2.1; omega))]; simp)
                  clear h0
                  go_wp2_with fail
                  go_meet
                  case rel => exact ⟨_, rfl, Lib.hid ⟨Ext.refl _, HN.out⟩⟩
              case rest =>
                obtain ⟨B2, rfl, G3⟩ := hcut
                obtain ⟨ws, hws⟩ : ∃ ws, ws = wc := ⟨_, rfl⟩
                subst hws
                have X3 := Lib.hid (G2.out.1.trans G3.out.1)
                clear q0 q1 q2 q3
                obtain ⟨q0, q1, q2, q3⟩ := B4.cells (HB2.out.ext X3.out)
                have hB2s : B2.size ≤ 700100000 := by
                  have h1 := congrArg ByteArray.size HB1.out
                  rw [bst_size] at h1
                  rw [G3.out.2, bst_size, List.length_append, ← h1]
                  have := nmsT_len (w := heldW) (by decide) HBd.out.inn.held HBd.out.inn.n1
                  omega
                go_upto_if 174 with fail
                go_cut [5] from 160 to 189 (fun sv wx => ∃ B', sv = .string B' ∧ Hid (Ext ws wx ∧ B' = bst (textB f)))
                case first =>
                  by_cases h0 : 0 < fn
                  · have f1 : (0 : Int) < fn := by omega
                    obtain ⟨N, hN⟩ : ∃ N, N = bst (sp (f.fallen.map nameT)) := ⟨_, rfl⟩
                    have hNs : N.size ≤ 44000 := by
                      rw [hN, bst_size]
                      have := nms_len (l := f.fallen) HBd.out.inn.fallen HBd.out.inn.n2 f.fallen.length
                      rwa [List.take_length] at this
                    obtain ⟨ch, hCh⟩ := HFB.out.f
                    have HC := Lib.hid (show Calls Tryd.prog 19 #[.slice fa fn fc] ws fun e w' => e = .returned (.string N) ∧ Ext ws w' from by
                      rw [hN]
                      exact LNames_calls _ ch f.fallen ws (hCh.ext X3.out) (fun a ha => ⟨HBd.out.inn.fallen a ha, HBd.out.nn.2.1 a ha⟩) HBd.out.inn.n2)
                    have y1 : ¬ 9223372036854775807 < 6 + N.size := by omega
                    have y2 : ¬ 9223372036854775807 < 6 + N.size + 1 := by omega
                    have y3 : ¬ 9223372036854775807 < B2.size + (6 + N.size + 1) := by omega
                    have HN := Lib.hid (show B2 ++ (bst [102, 97, 108, 108, 101, 110] ++ N ++ bst [10]) = bst (textB f) by
                      rw [G3.out.2, hN, bst_app, bst_app, bst_app]
                      unfold textB
                      rw [nmsT_eq fallenW, if_neg (fun e => by have := HL.out.2.2; rw [e] at this; simp at this; omega), HT1.out, HT0.out]; rfl)
                    clear hN h0 hCh
                    go_wp2_with fail
                    refine HC.out.mono ?_
                    rintro e w4 ⟨rfl, x4⟩
                    have X4 := Lib.hid x4
                    clear x4 q0 q1 q2 q3
                    go_wp2_with fail
                    go_meet
                    case rel => exact ⟨_, rfl, Lib.hid ⟨X4.out, HN.out⟩⟩
                  · have f1 : ¬ (0 : Int) < fn := by omega
                    have HN := Lib.hid (show B2 = bst (textB f) by
                      rw [G3.out.2]; unfold textB
                      rw [nmsT_eq fallenW, if_pos (List.eq_nil_of_length_eq_zero (by have := HL.out.2.2; omega)), HT1.out, HT0.out, List.append_nil])
                    clear h0
                    go_wp2_with fail
                    go_meet
                    case rel => exact ⟨_, rfl, Lib.hid ⟨Ext.refl _, HN.out⟩⟩
                case rest =>
                  obtain ⟨B3, rfl, G4⟩ := hcut
                  obtain ⟨wt, hwt⟩ : ∃ wt, wt = wc := ⟨_, rfl⟩
                  subst hwt
                  have X4 := Lib.hid (X3.out.trans G4.out.1)
                  clear q0 q1 q2 q3
                  obtain ⟨q0, q1, q2, q3⟩ := B4.cells (HB2.out.ext X4.out)
                  have HTx := Lib.hid (show Calls Tryd.prog 12 #[.agg #[.slice (some ⟨g0, 0, none⟩) 6 6, .slice ka kn kc, .slice la ln lc, .slice fa fn fc]] wt fun e w' => e = .returned (.string B3) ∧ Ext wt w' from by
                    have h1 := Text_calls (.slice (some ⟨g0, 0, none⟩) 6 6) (.slice ka kn kc) (.slice la ln lc) (.slice fa fn fc) f wt (HFB.out.ext X4.out) HBd.out.inn (fun _ => HOKT.out) (HT.out.ext (X2.out.trans X4.out))
                    rw [show textT f = textB f from by unfold textT; rw [if_pos HChk.out], ← G4.out.2] at h1
                    exact h1)
                  have hq2 : (B3.toList == B3.toList) = true := beq_self_eq_true _
                  go_wp2_with fail
                  clear q0 q1 q2 q3
                  refine HTx.out.mono ?_
                  rintro e w7 ⟨rfl, x7⟩
                  have X7 := Lib.hid (X2.out.trans (X4.out.trans x7))
                  clear x7
                  go_wp2_with fail
                  refine (Lives_calls w7 (HT.out.ext X7.out)).mono ?_
                  rintro e w8 ⟨rfl, x8⟩
                  have X8 := Lib.hid (X7.out.trans x8)
                  clear x8
                  go_wp2
                  go_ret
                  exact ⟨rfl, X8.out⟩
end Go.Proofs.YtlhkehfplcclgaaDoor
