/- Texts of this claim in one file: libraries and walks. -/
import Derived.Deep.CutBlock
import Derived.Test.YtlhkehfplcclgaaDoorL17
import Derived.Test.YtlhkehfplcclgaaDoorMSame3
/- The law FabricsSame: the walk. (Printed by gen_sd.py.) -/
namespace Go.Proofs.YtlhkehfplcclgaaDoor
set_option linter.unusedVariables false
set_option linter.unusedSimpArgs false
set_option maxRecDepth 8000
open Go Go.RowKit Go.Sort

set_option maxHeartbeats 16000000 in
theorem FabricsSame_walk (tv hv cv : Value) (fal wt wh : Int) (x : FD) (w : World) (ht : PTab w) (h : FDm w tv fal hv cv x) (hwt : 0 ≤ wt ∧ wt ≤ 255) (hwh : 0 ≤ wh ∧ wh ≤ 255) :
    Calls Tryd.prog 3 #[.agg #[tv, .int .u64 fal, hv, cv], .int .u8 wt, .int .u8 wh] w fun e w' => e = .returned (.bool true) ∧ Ext w w' := by
  have HM := Lib.hid h
  obtain ⟨⟨tc, hT⟩, hfal, ⟨hc, hH⟩, ⟨cc, hC⟩, -⟩ := h
  obtain ⟨ta, tn, rfl, htn, -⟩ := hT.open
  obtain ⟨ha, hn, rfl, -⟩ := hH.atD
  obtain ⟨ca, cn, rfl, hcn, hcc, hc9, -⟩ := hC.open
  obtain ⟨W0, hW0⟩ : ∃ W0, W0 = w.alloc (.cells #[.slice ta tn tc, .int .u64 fal, .slice ha hn hc, .slice ca cn cc] 28) := ⟨_, rfl⟩
  have xW : Ext w W0 := by rw [hW0]; exact (Ext.refl _).alloc _
  have HW0 := Lib.hid hW0; have XW := Lib.hid xW
  have HB := Lib.hid (show B4 W0 w.heap.size (.slice ta tn tc) (.int .u64 fal) (.slice ha hn hc) (.slice ca cn cc) 28 by rw [hW0]; exact B4.new _ _ _ _ _ _)
  have HT := Lib.hid ht; have Hcn := Lib.hid hcn; have Htn := Lib.hid htn
  obtain ⟨q0, q1, q2, q3⟩ := B4.cells HB.out
  rw [hW0] at q0 q1 q2 q3
  clear hT hfal hH hC htn hcn hcc hc9 hW0 xW ht
  go_enter Tryd.func3, Tryd.ntmps3
  obtain ⟨BIG, hBIG⟩ : ∃ BIG : Bool, BIG = decide (20 < tn ∨ 30 < cn) := ⟨_, rfl⟩
  have HBIG := Lib.hid hBIG
  clear hBIG
  go_upto_region 1 with fail
  rw [← HW0.out]
  clear q0 q1 q2 q3
  obtain ⟨q0, q1, q2, q3⟩ := B4.cells HB.out
  go_cut [23] from 14 to 24 (fun c wx => c = .bool BIG ∧ W0 = wx)
  case first =>
    by_cases h1 : 20 < tn
    · have f1 : (20 : Int) < tn := by omega
      have f2 : decide ((20 : Int) < tn) = true := decide_eq_true f1
      have hb : BIG = true := by rw [HBIG.out]; exact decide_eq_true (.inl h1)
      subst hb
      go_wp2_with fail
      go_meet
      case rel => exact ⟨rfl, rfl⟩
    · have f1 : ¬ (20 : Int) < tn := by omega
      have f2 : decide ((20 : Int) < tn) = false := decide_eq_false f1
      have hb : BIG = decide ((30 : Int) < cn) := by rw [HBIG.out, Bool.eq_iff_iff]; simp; try omega
      have Hb := Lib.hid hb
      clear hb h1
      go_wp2_with fail
      all_goals go_meet
      all_goals (refine ⟨congrArg Value.bool ?_, rfl⟩; rw [Hb.out]; try simp [*])
  case rest =>
    obtain ⟨rfl, rfl⟩ := hcut
    cases BIG with
    | true =>
      go_wp2_with fail
      clear q0 q1 q2 q3
      refine (Lives_calls W0 (HT.out.ext XW.out)).mono ?_
      rintro e w2 ⟨rfl, x2⟩
      have X2 := Lib.hid (XW.out.trans x2)
      clear x2
      go_wp2
      go_ret
      exact ⟨rfl, X2.out⟩
    | false =>
      have hbig := of_decide_eq_false HBIG.out.symm
      have Hbig := Lib.hid hbig
      clear hbig
      go_wp2_with fail
      clear q0 q1 q2 q3
      refine (OfF_calls _ _ _ fal x W0 (HM.out.ext XW.out)).mono ?_
      rintro e w2 hR
      obtain ⟨f0, F0, us0, vs0, lv0, mv0, w10, cv0, hv0, fv0, rfl, hg00, hO0, hA0, hsz0, hx0, hF0⟩ := hR
      have hok := fok x
      have hx30 : x.cross.length ≤ 30 := by rw [← Hcn.out]; have := Hbig.out; omega
      have ht20 : x.t.length ≤ 20 := by rw [← Htn.out]; have := Hbig.out; omega
      have hfin := hok.fin (by omega)
      have hchk := hok.chk (by omega)
      have hOKT := hok.ok
      have hml : (ofT x.t).made.length ≤ 20 := by rw [(ofT_inv x.t).2, List.length_take]; omega
      have hHL := hok.len
      have hFB := OF.fb hO0 hA0 hF0
      have hfe := fun h => ofF_empty (x := x) h
      obtain ⟨mc, hNL⟩ := (hO0.agr hA0).nl
      obtain ⟨ma, mn, rfl, hmn, -⟩ := hNL.open
      have hhas : ∀ a ∈ (ofT x.t).made, hasB (ofF x).ys a = true := fun a ha => (hok.inv.cov a).2 ha
      have hIn : ∀ a ∈ (ofT x.t).made, a.In := fun a ha => nm_in hok.inv.l6 (by rw [hok.inv.cnt]; omega) ((hok.inv.cov a).2 ha)
      have h6 : (ofT x.t).t.length = 6 := hok.inv.l6
      have hy : (ofF x).ys = (ofT x.t).t := rfl
      have hnd : (ofF x).held.Nodup := (List.nodup_append.1 hok.nd).1
      have hcr : ∀ c ∈ (ofF x).cr, c.n ≠ 0 ∧ -30 ≤ c.n ∧ c.n ≤ 30 := fun c hc => by have := hok.cr.n c hc; omega
      obtain ⟨s, hs⟩ : ∃ s, s = ofT x.t := ⟨_, rfl⟩
      rw [← hs] at hml hHL hNL hmn hhas hIn h6 hy hfe
      obtain ⟨f, hf⟩ : ∃ f, f = ofF x := ⟨_, rfl⟩
      rw [← hf] at hF0 hFB hfin hchk hOKT hHL hhas hy hfe hnd hcr
      obtain ⟨ja, jc, rfl, -⟩ := own_slice hF0.c
      obtain ⟨ia, ic, rfl, -⟩ := own_slice hF0.h
      obtain ⟨ea, ec, rfl, -⟩ := own_slice hF0.f
      obtain ⟨jn, hjn⟩ : ∃ jn, jn = f.cr.length := ⟨_, rfl⟩
      obtain ⟨iN, hiN⟩ : ∃ iN, iN = f.held.length := ⟨_, rfl⟩
      obtain ⟨eN, heN⟩ : ∃ eN, eN = f.fallen.length := ⟨_, rfl⟩
      rw [← hjn, ← hiN, ← heN] at hFB ⊢
      obtain ⟨W2, hW2⟩ : ∃ W2, W2 = w2.alloc (.cells #[.slice (some ⟨f0, 0, none⟩) 6 6, .slice ja jn jc, .slice ia iN ic, .slice ea eN ec] 35) := ⟨_, rfl⟩
      have x22 : Ext w2 W2 := by rw [hW2]; exact (Ext.refl _).alloc _
      have X2 := Lib.hid (show Ext w W2 from (XW.out.trans hx0).trans x22)
      have X02 := Lib.hid (show Ext W0 W2 from hx0.trans x22)
      obtain ⟨gf, hgf⟩ : ∃ gf, gf = w2.heap.size := ⟨_, rfl⟩
      have HBf := Lib.hid (show B4 W2 gf (.slice (some ⟨f0, 0, none⟩) 6 6) (.slice ja jn jc) (.slice ia iN ic) (.slice ea eN ec) 35 by rw [hW2, hgf]; exact B4.new _ _ _ _ _ _)
      have HNL := Lib.hid (hNL.ext x22); have HFBf := Lib.hid (hFB.ext x22)
      have HW2 := Lib.hid hW2; have Hgf := Lib.hid hgf; have HChk := Lib.hid hchk; have HOKT := Lib.hid hOKT; have HFI := Lib.hid hfin; have Hhas := Lib.hid hhas; have HIn := Lib.hid hIn; have Hmn := Lib.hid hmn; have Hml := Lib.hid hml; have Hfe := Lib.hid hfe
      have HHL := Lib.hid hHL; have Hnd := Lib.hid hnd; have Hcr := Lib.hid hcr; have H6 := Lib.hid (And.intro h6 hy); have Hs := Lib.hid (And.intro hs hf)
      clear hg00 hO0 hA0 hsz0 hx0 hF0 hok hx30 ht20 hfin hchk hOKT hml hHL hFB hfe hNL hmn hhas hIn h6 hy hs hf hjn hiN heN hW2 x22 hgf hnd hcr
      go_upto_region 4 with fail
      rw [← HW2.out, ← Hgf.out]
      obtain ⟨q0, q1, q2, q3⟩ := B4.cells (HB.out.ext X02.out)
      go_wp2_with fail
      clear q0 q1 q2 q3
      refine (OfF_calls _ _ _ fal x W2 (HM.out.ext X2.out)).mono ?_
      rintro e w3 hR
      obtain ⟨g0, F, us, vs, lv, mv, w1, cv', hv', fv', rfl, hg0, hO, hA, hsz, hx, hF⟩ := hR
      have hFB := OF.fb hO hA hF
      rw [← Hs.out.1] at hO
      rw [← Hs.out.2] at hF hFB
      obtain ⟨ka, kc, rfl, -⟩ := own_slice hF.c
      obtain ⟨la, lc, rfl, hllc⟩ := own_slice hF.h
      obtain ⟨fa, fc, rfl, -⟩ := own_slice hF.f
      obtain ⟨kn, hkn⟩ : ∃ kn, kn = f.cr.length := ⟨_, rfl⟩
      obtain ⟨ln, hln⟩ : ∃ ln, ln = f.held.length := ⟨_, rfl⟩
      obtain ⟨fn, hfn⟩ : ∃ fn, fn = f.fallen.length := ⟨_, rfl⟩
      rw [← hkn, ← hln, ← hfn] at hF hFB ⊢
      rw [← hln] at hllc
      obtain ⟨W3, hW3⟩ : ∃ W3, W3 = w3.alloc (.cells #[.slice (some ⟨g0, 0, none⟩) 6 6, .slice ka kn kc, .slice la ln lc, .slice fa fn fc] 35) := ⟨_, rfl⟩
      have x33 : Ext w3 W3 := by rw [hW3]; exact (Ext.refl _).alloc _
      have X3 := Lib.hid (show Ext W2 W3 from hx.trans x33)
      obtain ⟨gb, hgb⟩ : ∃ gb, gb = w3.heap.size := ⟨_, rfl⟩
      have HBg := Lib.hid (show B4 W3 gb (.slice (some ⟨g0, 0, none⟩) 6 6) (.slice ka kn kc) (.slice la ln lc) (.slice fa fn fc) 35 by rw [hW3, hgb]; exact B4.new _ _ _ _ _ _)
      have HOF := Lib.hid (hF.ext x33)
      have HAg := Lib.hid (show Agr g0 w1 W3 from fun i h1 h2 => by rw [Below.block x33 i (by omega)]; exact hA i h1 h2)
      have Hsz := Lib.hid (show w1.heap.size ≤ gb ∧ W2.heap.size ≤ gb ∧ w1.heap.size ≤ W3.heap.size ∧ W2.heap.size ≤ g0 ∧ g0 < w1.heap.size from ⟨by rw [hgb]; exact hsz, by rw [hgb]; exact hx.size, Nat.le_trans hsz x33.size, hg0, hO.tab.lt⟩)
      have HO := Lib.hid hO; have HFBg := Lib.hid (hFB.ext x33); have HW3 := Lib.hid hW3; have Hgb := Lib.hid hgb
      have HL := Lib.hid (And.intro hkn (And.intro hln hfn)); have Hllc := Lib.hid hllc
      clear hg0 hO hA hsz hx hF hFB hkn hln hfn hllc hW3 x33 hgb
      go_upto_region 5 with fail
      rw [← HW3.out, ← Hgb.out]
      obtain ⟨TT, hTT⟩ : ∃ TT, TT = bst (textT f) := ⟨_, rfl⟩
      have HSab := Lib.hid (show ∀ w', Ext W3 w' → Calls Tryd.prog 11 #[.agg #[.slice (some ⟨f0, 0, none⟩) 6 6, .slice ja jn jc, .slice ia iN ic, .slice ea eN ec], .agg #[.slice (some ⟨g0, 0, none⟩) 6 6, .slice ka kn kc, .slice la ln lc, .slice fa fn fc]] w' fun e w'' => e = .returned (.bool true) ∧ Ext w' w'' from fun w' x' => by
        have h1 := Same_calls _ _ _ _ _ _ _ _ f f w' (HFBf.out.ext (X3.out.trans x')) (HFBg.out.ext x')
        rw [decide_eq_true rfl] at h1
        exact h1)
      have HSaa := Lib.hid (show ∀ w', Ext W3 w' → Calls Tryd.prog 11 #[.agg #[.slice (some ⟨f0, 0, none⟩) 6 6, .slice ja jn jc, .slice ia iN ic, .slice ea eN ec], .agg #[.slice (some ⟨f0, 0, none⟩) 6 6, .slice ja jn jc, .slice ia iN ic, .slice ea eN ec]] w' fun e w'' => e = .returned (.bool true) ∧ Ext w' w'' from fun w' x' => by
        have h1 := Same_calls _ _ _ _ _ _ _ _ f f w' (HFBf.out.ext (X3.out.trans x')) (HFBf.out.ext (X3.out.trans x'))
        rw [decide_eq_true rfl] at h1
        exact h1)
      have HTf := Lib.hid (show ∀ w', Ext W3 w' → Calls Tryd.prog 12 #[.agg #[.slice (some ⟨f0, 0, none⟩) 6 6, .slice ja jn jc, .slice ia iN ic, .slice ea eN ec]] w' fun e w'' => e = .returned (.string TT) ∧ Ext w' w'' from fun w' x' => by
        rw [hTT]; exact Text_calls _ _ _ _ f w' (HFBf.out.ext (X3.out.trans x')) HFI.out (fun _ => HOKT.out) (HT.out.ext (X2.out.trans (X3.out.trans x'))))
      have HTg := Lib.hid (show ∀ w', Ext W3 w' → Calls Tryd.prog 12 #[.agg #[.slice (some ⟨g0, 0, none⟩) 6 6, .slice ka kn kc, .slice la ln lc, .slice fa fn fc]] w' fun e w'' => e = .returned (.string TT) ∧ Ext w' w'' from fun w' x' => by
        rw [hTT]; exact Text_calls _ _ _ _ f w' (HFBg.out.ext x') HFI.out (fun _ => HOKT.out) (HT.out.ext (X2.out.trans (X3.out.trans x'))))
      have HTT := Lib.hid hTT
      obtain ⟨E0, hE0⟩ : ∃ E0 : Bool, E0 = decide (mn = 0) := ⟨_, rfl⟩
      have e0 : ((mn : Int) == 0) = E0 := by rw [hE0, Bool.eq_iff_iff]; simp
      have e1 : (TT.toList == []) = E0 := by
        have h1 : TT.toList = textT f := by rw [hTT]; simp [bst]
        rw [h1, hE0, Bool.eq_iff_iff, decide_eq_true_iff, beq_iff_eq]
        constructor
        · intro h2
          rcases Nat.eq_zero_or_pos mn with h3 | h3
          · exact h3
          · have h4 : 0 < s.made.length := by rw [← Hmn.out]; exact h3
            exact absurd h2 (textT_ne HChk.out (Hhas.out _ (ni_mem h4)))
        · intro h2
          rw [Hfe.out (by rw [← Hmn.out]; exact h2)]
          unfold textT
          split <;> rfl
      have e2 : (E0 != E0) = false := by simp
      have e3 : (TT.toList != TT.toList) = false := by simp
      have HE0 := Lib.hid hE0
      clear hTT hE0
      obtain ⟨q0_1, q0_2, q0_3, q0_4⟩ := B4.cells (HBf.out.ext X3.out)
      obtain ⟨q0_5, q0_6, q0_7, q0_8⟩ := B4.cells HBg.out
      refine wp_region_held_drew (S := fun w' => w'.cell? ⟨gf, 0, Option.none⟩ = some (.slice (some ⟨f0, 0, none⟩) 6 6) ∧ w'.cell? ⟨gf, 1, Option.none⟩ = some (.slice ja jn jc) ∧ w'.cell? ⟨gf, 2, Option.none⟩ = some (.slice ia iN ic) ∧ w'.cell? ⟨gf, 3, Option.none⟩ = some (.slice ea eN ec) ∧ w'.cell? ⟨gb, 0, Option.none⟩ = some (.slice (some ⟨g0, 0, none⟩) 6 6) ∧ w'.cell? ⟨gb, 1, Option.none⟩ = some (.slice ka kn kc) ∧ w'.cell? ⟨gb, 2, Option.none⟩ = some (.slice la ln lc) ∧ w'.cell? ⟨gb, 3, Option.none⟩ = some (.slice fa fn fc)) (by kernel_rfl) ?_ (fun hHeld => ?_)
      · exact ⟨q0_1, q0_2, q0_3, q0_4, q0_5, q0_6, q0_7, q0_8⟩
      refine wpAnyH_take (i := 0) (v := ?va182_0) rfl (by kernel_rfl) (by kernel_rfl) (by kernel_rfl) (fun _ _ _ h => h) (Or.inl ⟨by rfl, fun w hSw => ?ti182_0⟩) (by assumption) ?rest182_0
      case ti182_0 => ((try dsimp only at hSw); go_simp; (first | done | with_reducible rfl))
      try simp only [Act.put, List.getElem_toArray, List.getElem_cons_zero, List.getElem_cons_succ, List.setIfInBounds_toArray, List.set_cons_zero, List.set_cons_succ]
      refine wpAnyH_take (i := 1) (v := ?va185_1) rfl (by kernel_rfl) (by kernel_rfl) (by kernel_rfl) (fun _ _ _ h => h) (Or.inl ⟨by rfl, fun w hSw => ?ti185_1⟩) (by assumption) ?rest185_1
      case ti185_1 => ((try dsimp only at hSw); go_simp; (first | done | with_reducible rfl))
      try simp only [Act.put, List.getElem_toArray, List.getElem_cons_zero, List.getElem_cons_succ, List.setIfInBounds_toArray, List.set_cons_zero, List.set_cons_succ]
      refine wpAnyH_ready (rs := [2]) (by kernel_rfl) (by simp) ?_
      refine AllReadyH.cons rfl (fun K hK => ?_) AllReadyH.nil
      go_simp
      refine (HSab.out _ ?_).mono ?_
      · (repeat (first | (with_reducible exact Ext.refl _) | (with_reducible apply Ext.drew) | (with_reducible apply Ext.drewN) | (with_reducible apply Ext.alloc)))
      intro e v1 hh
      obtain ⟨rfl, x⟩ := hh
      have Xa : Hid (Ext W3 v1) := Lib.hid (Ext.trans (by ((repeat (first | (with_reducible exact Ext.refl _) | (with_reducible apply Ext.drew) | (with_reducible apply Ext.drewN) | (with_reducible apply Ext.alloc))); done)) x)
      have q1_1 := Xa.out.cell q0_1
      have q1_2 := Xa.out.cell q0_2
      have q1_3 := Xa.out.cell q0_3
      have q1_4 := Xa.out.cell q0_4
      have q1_5 := Xa.out.cell q0_5
      have q1_6 := Xa.out.cell q0_6
      have q1_7 := Xa.out.cell q0_7
      have q1_8 := Xa.out.cell q0_8
      go_simp
      refine hK.out _ _ ?_ (fun hHeld => ?_)
      · exact ⟨q1_1, q1_2, q1_3, q1_4, q1_5, q1_6, q1_7, q1_8⟩
      clear hK K x
      try simp only [Act.put, List.getElem_toArray, List.getElem_cons_zero, List.getElem_cons_succ, List.setIfInBounds_toArray, List.set_cons_zero, List.set_cons_succ]
      refine wpAnyH_take (i := 3) (v := ?va209_3) rfl (by kernel_rfl) (by kernel_rfl) (by kernel_rfl) (fun _ _ _ h => h) (Or.inl ⟨by rfl, fun w hSw => ?ti209_3⟩) (by assumption) ?rest209_3
      case ti209_3 => ((try dsimp only at hSw); go_simp; (first | done | with_reducible rfl))
      try simp only [Act.put, List.getElem_toArray, List.getElem_cons_zero, List.getElem_cons_succ, List.setIfInBounds_toArray, List.set_cons_zero, List.set_cons_succ]
      refine wpAnyH_take (i := 4) (v := ?va212_4) rfl (by kernel_rfl) (by kernel_rfl) (by kernel_rfl) (fun _ _ _ h => h) (Or.inl ⟨by rfl, fun w hSw => ?ti212_4⟩) (by assumption) ?rest212_4
      case ti212_4 => ((try dsimp only at hSw); go_simp; (first | done | with_reducible rfl))
      try simp only [Act.put, List.getElem_toArray, List.getElem_cons_zero, List.getElem_cons_succ, List.setIfInBounds_toArray, List.set_cons_zero, List.set_cons_succ]
      refine wpAnyH_take (i := 5) (v := ?va215_5) rfl (by kernel_rfl) (by kernel_rfl) (by kernel_rfl) (fun _ _ _ h => h) (Or.inl ⟨by rfl, fun w hSw => ?ti215_5⟩) (by assumption) ?rest215_5
      case ti215_5 => ((try dsimp only at hSw); go_simp; (first | done | with_reducible rfl))
      try simp only [Act.put, List.getElem_toArray, List.getElem_cons_zero, List.getElem_cons_succ, List.setIfInBounds_toArray, List.set_cons_zero, List.set_cons_succ]
      refine wpAnyH_take (i := 6) (v := ?va218_6) rfl (by kernel_rfl) (by kernel_rfl) (by kernel_rfl) (fun _ _ _ h => h) (Or.inl ⟨by rfl, fun w hSw => ?ti218_6⟩) (by assumption) ?rest218_6
      case ti218_6 => ((try dsimp only at hSw); go_simp; (first | done | with_reducible rfl))
      try simp only [Act.put, List.getElem_toArray, List.getElem_cons_zero, List.getElem_cons_succ, List.setIfInBounds_toArray, List.set_cons_zero, List.set_cons_succ]
      refine wpAnyH_ready (rs := [7]) (by kernel_rfl) (by simp) ?_
      refine AllReadyH.cons rfl (fun K hK => ?_) AllReadyH.nil
      go_simp
      refine (HSaa.out _ ?_).mono ?_
      · (refine Ext.trans Xa.out ?_; (repeat (first | (with_reducible exact Ext.refl _) | (with_reducible apply Ext.drew) | (with_reducible apply Ext.drewN) | (with_reducible apply Ext.alloc))))
      intro e v2 hh
      obtain ⟨rfl, x⟩ := hh
      have Xb : Hid (Ext W3 v2) := Lib.hid (Ext.trans Xa.out (Ext.trans (by ((repeat (first | (with_reducible exact Ext.refl _) | (with_reducible apply Ext.drew) | (with_reducible apply Ext.drewN) | (with_reducible apply Ext.alloc))); done)) x))
      have q2_1 := Xb.out.cell q0_1
      have q2_2 := Xb.out.cell q0_2
      have q2_3 := Xb.out.cell q0_3
      have q2_4 := Xb.out.cell q0_4
      have q2_5 := Xb.out.cell q0_5
      have q2_6 := Xb.out.cell q0_6
      have q2_7 := Xb.out.cell q0_7
      have q2_8 := Xb.out.cell q0_8
      go_simp
      refine hK.out _ _ ?_ (fun hHeld => ?_)
      · exact ⟨q2_1, q2_2, q2_3, q2_4, q2_5, q2_6, q2_7, q2_8⟩
      clear hK K x
      try simp only [Act.put, List.getElem_toArray, List.getElem_cons_zero, List.getElem_cons_succ, List.setIfInBounds_toArray, List.set_cons_zero, List.set_cons_succ]
      refine wpAnyH_take (i := 8) (v := ?va242_8) rfl (by kernel_rfl) (by kernel_rfl) (by kernel_rfl) (fun _ _ _ h => h) (Or.inl ⟨by rfl, fun w hSw => ?ti242_8⟩) (by assumption) ?rest242_8
      case ti242_8 => ((try dsimp only at hSw); go_simp; (first | done | with_reducible rfl))
      try simp only [Act.put, List.getElem_toArray, List.getElem_cons_zero, List.getElem_cons_succ, List.setIfInBounds_toArray, List.set_cons_zero, List.set_cons_succ]
      refine wpAnyH_take (i := 9) (v := ?va245_9) rfl (by kernel_rfl) (by kernel_rfl) (by kernel_rfl) (fun _ _ _ h => h) (Or.inl ⟨by rfl, fun w hSw => ?ti245_9⟩) (by assumption) ?rest245_9
      case ti245_9 => ((try dsimp only at hSw); go_simp; (first | done | with_reducible rfl))
      try simp only [Act.put, List.getElem_toArray, List.getElem_cons_zero, List.getElem_cons_succ, List.setIfInBounds_toArray, List.set_cons_zero, List.set_cons_succ]
      refine wpAnyH_take (i := 10) (v := ?va248_10) rfl (by kernel_rfl) (by kernel_rfl) (by kernel_rfl) (fun _ _ _ h => h) (Or.inl ⟨by rfl, fun w hSw => ?ti248_10⟩) (by assumption) ?rest248_10
      case ti248_10 => ((try dsimp only at hSw); go_simp; (first | done | with_reducible rfl))
      try simp only [Act.put, List.getElem_toArray, List.getElem_cons_zero, List.getElem_cons_succ, List.setIfInBounds_toArray, List.set_cons_zero, List.set_cons_succ]
      refine wpAnyH_take (i := 11) (v := ?va251_11) rfl (by kernel_rfl) (by kernel_rfl) (by kernel_rfl) (fun _ _ _ h => h) (Or.inl ⟨by rfl, fun w hSw => ?ti251_11⟩) (by assumption) ?rest251_11
      case ti251_11 => ((try dsimp only at hSw); go_simp; (first | done | with_reducible rfl))
      try simp only [Act.put, List.getElem_toArray, List.getElem_cons_zero, List.getElem_cons_succ, List.setIfInBounds_toArray, List.set_cons_zero, List.set_cons_succ]
      refine wpAnyH_take (i := 13) (v := ?va254_13) rfl (by kernel_rfl) (by kernel_rfl) (by kernel_rfl) (fun _ _ _ h => h) (Or.inl ⟨by rfl, fun w hSw => ?ti254_13⟩) (by assumption) ?rest254_13
      case ti254_13 => ((try dsimp only at hSw); go_simp; (first | done | with_reducible rfl))
      try simp only [Act.put, List.getElem_toArray, List.getElem_cons_zero, List.getElem_cons_succ, List.setIfInBounds_toArray, List.set_cons_zero, List.set_cons_succ]
      refine wpAnyH_ready (rs := [12]) (by kernel_rfl) (by simp) ?_
      refine AllReadyH.cons rfl (fun K hK => ?_) AllReadyH.nil
      go_simp
      refine (HTf.out _ ?_).mono ?_
      · (refine Ext.trans Xb.out ?_; (repeat (first | (with_reducible exact Ext.refl _) | (with_reducible apply Ext.drew) | (with_reducible apply Ext.drewN) | (with_reducible apply Ext.alloc))))
      intro e v3 hh
      obtain ⟨rfl, x⟩ := hh
      have Xc : Hid (Ext W3 v3) := Lib.hid (Ext.trans Xb.out (Ext.trans (by ((repeat (first | (with_reducible exact Ext.refl _) | (with_reducible apply Ext.drew) | (with_reducible apply Ext.drewN) | (with_reducible apply Ext.alloc))); done)) x))
      have q3_1 := Xc.out.cell q0_1
      have q3_2 := Xc.out.cell q0_2
      have q3_3 := Xc.out.cell q0_3
      have q3_4 := Xc.out.cell q0_4
      have q3_5 := Xc.out.cell q0_5
      have q3_6 := Xc.out.cell q0_6
      have q3_7 := Xc.out.cell q0_7
      have q3_8 := Xc.out.cell q0_8
      go_simp
      refine hK.out _ _ ?_ (fun hHeld => ?_)
      · exact ⟨q3_1, q3_2, q3_3, q3_4, q3_5, q3_6, q3_7, q3_8⟩
      clear hK K x
      try simp only [Act.put, List.getElem_toArray, List.getElem_cons_zero, List.getElem_cons_succ, List.setIfInBounds_toArray, List.set_cons_zero, List.set_cons_succ]
      refine wpAnyH_ready (rs := [14]) (by kernel_rfl) (by simp) ?_
      refine AllReadyH.cons rfl (fun K hK => ?_) AllReadyH.nil
      go_simp
      refine (HTg.out _ ?_).mono ?_
      · (refine Ext.trans Xc.out ?_; (repeat (first | (with_reducible exact Ext.refl _) | (with_reducible apply Ext.drew) | (with_reducible apply Ext.drewN) | (with_reducible apply Ext.alloc))))
      intro e v4 hh
      obtain ⟨rfl, x⟩ := hh
      have Xd : Hid (Ext W3 v4) := Lib.hid (Ext.trans Xc.out (Ext.trans (by ((repeat (first | (with_reducible exact Ext.refl _) | (with_reducible apply Ext.drew) | (with_reducible apply Ext.drewN) | (with_reducible apply Ext.alloc))); done)) x))
      have q4_1 := Xd.out.cell q0_1
      have q4_2 := Xd.out.cell q0_2
      have q4_3 := Xd.out.cell q0_3
      have q4_4 := Xd.out.cell q0_4
      have q4_5 := Xd.out.cell q0_5
      have q4_6 := Xd.out.cell q0_6
      have q4_7 := Xd.out.cell q0_7
      have q4_8 := Xd.out.cell q0_8
      go_simp
      refine hK.out _ _ ?_ (fun hHeld => ?_)
      · exact ⟨q4_1, q4_2, q4_3, q4_4, q4_5, q4_6, q4_7, q4_8⟩
      clear hK K x
      try simp only [Act.put, List.getElem_toArray, List.getElem_cons_zero, List.getElem_cons_succ, List.setIfInBounds_toArray, List.set_cons_zero, List.set_cons_succ]
      refine wpAnyH_take (i := 15) (v := ?va299_15) rfl (by kernel_rfl) (by kernel_rfl) (by kernel_rfl) (fun _ _ _ h => h) (Or.inl ⟨by rfl, fun w hSw => ?ti299_15⟩) (by assumption) ?rest299_15
      case ti299_15 => ((try dsimp only at hSw); go_simp; (first | done | with_reducible rfl))
      try simp only [Act.put, List.getElem_toArray, List.getElem_cons_zero, List.getElem_cons_succ, List.setIfInBounds_toArray, List.set_cons_zero, List.set_cons_succ]
      refine wpAnyH_take (i := 16) (v := ?va302_16) rfl (by kernel_rfl) (by kernel_rfl) (by kernel_rfl) (fun _ _ _ h => h) (Or.inl ⟨by rfl, fun w hSw => ?ti302_16⟩) (by assumption) ?rest302_16
      case ti302_16 => ((try dsimp only at hSw); go_simp; (first | done | with_reducible rfl))
      try simp only [Act.put, List.getElem_toArray, List.getElem_cons_zero, List.getElem_cons_succ, List.setIfInBounds_toArray, List.set_cons_zero, List.set_cons_succ]
      refine wpAnyH_take (i := 17) (v := ?va305_17) rfl (by kernel_rfl) (by kernel_rfl) (by kernel_rfl) (fun _ _ _ h => h) (Or.inl ⟨by rfl, fun w hSw => ?ti305_17⟩) (by assumption) ?rest305_17
      case ti305_17 => ((try dsimp only at hSw); go_simp; (first | done | with_reducible rfl))
      try simp only [Act.put, List.getElem_toArray, List.getElem_cons_zero, List.getElem_cons_succ, List.setIfInBounds_toArray, List.set_cons_zero, List.set_cons_succ]
      refine wpAnyH_take (i := 18) (v := ?va308_18) rfl (by kernel_rfl) (by kernel_rfl) (by kernel_rfl) (fun _ _ _ h => h) (Or.inl ⟨by rfl, fun w hSw => ?ti308_18⟩) (by assumption) ?rest308_18
      case ti308_18 => ((try dsimp only at hSw); go_simp; (first | done | with_reducible rfl))
      try simp only [Act.put, List.getElem_toArray, List.getElem_cons_zero, List.getElem_cons_succ, List.setIfInBounds_toArray, List.set_cons_zero, List.set_cons_succ]
      refine wpAnyH_take (i := 21) (v := ?va311_21) rfl (by kernel_rfl) (by kernel_rfl) (by kernel_rfl) (fun _ _ _ h => h) (Or.inl ⟨by rfl, fun w hSw => ?ti311_21⟩) (by assumption) ?rest311_21
      case ti311_21 => ((try dsimp only at hSw); go_simp; (first | done | with_reducible rfl))
      try simp only [Act.put, List.getElem_toArray, List.getElem_cons_zero, List.getElem_cons_succ, List.setIfInBounds_toArray, List.set_cons_zero, List.set_cons_succ]
      refine wpAnyH_take (i := 22) (v := ?va314_22) rfl (by kernel_rfl) (by kernel_rfl) (by kernel_rfl) (fun _ _ _ h => h) (Or.inl ⟨by rfl, fun w hSw => ?ti314_22⟩) (by assumption) ?rest314_22
      case ti314_22 => ((try dsimp only at hSw); go_simp; (first | done | with_reducible rfl))
      try simp only [Act.put, List.getElem_toArray, List.getElem_cons_zero, List.getElem_cons_succ, List.setIfInBounds_toArray, List.set_cons_zero, List.set_cons_succ]
      refine wpAnyH_take (i := 23) (v := ?va317_23) rfl (by kernel_rfl) (by kernel_rfl) (by kernel_rfl) (fun _ _ _ h => h) (Or.inl ⟨by rfl, fun w hSw => ?ti317_23⟩) (by assumption) ?rest317_23
      case ti317_23 => ((try dsimp only at hSw); go_simp; (first | done | with_reducible rfl))
      try simp only [Act.put, List.getElem_toArray, List.getElem_cons_zero, List.getElem_cons_succ, List.setIfInBounds_toArray, List.set_cons_zero, List.set_cons_succ]
      refine wpAnyH_ready (rs := [19]) (by kernel_rfl) (by simp) ?_
      refine AllReadyH.cons rfl (fun K hK => ?_) AllReadyH.nil
      go_simp
      refine (HTf.out _ ?_).mono ?_
      · (refine Ext.trans Xd.out ?_; (repeat (first | (with_reducible exact Ext.refl _) | (with_reducible apply Ext.drew) | (with_reducible apply Ext.drewN) | (with_reducible apply Ext.alloc))))
      intro e v5 hh
      obtain ⟨rfl, x⟩ := hh
      have Xe : Hid (Ext W3 v5) := Lib.hid (Ext.trans Xd.out (Ext.trans (by ((repeat (first | (with_reducible exact Ext.refl _) | (with_reducible apply Ext.drew) | (with_reducible apply Ext.drewN) | (with_reducible apply Ext.alloc))); done)) x))
      have q5_1 := Xe.out.cell q0_1
      have q5_2 := Xe.out.cell q0_2
      have q5_3 := Xe.out.cell q0_3
      have q5_4 := Xe.out.cell q0_4
      have q5_5 := Xe.out.cell q0_5
      have q5_6 := Xe.out.cell q0_6
      have q5_7 := Xe.out.cell q0_7
      have q5_8 := Xe.out.cell q0_8
      go_simp
      refine hK.out _ _ ?_ (fun hHeld => ?_)
      · exact ⟨q5_1, q5_2, q5_3, q5_4, q5_5, q5_6, q5_7, q5_8⟩
      clear hK K x
      try simp only [Act.put, List.getElem_toArray, List.getElem_cons_zero, List.getElem_cons_succ, List.setIfInBounds_toArray, List.set_cons_zero, List.set_cons_succ]
      refine wpAnyH_take (i := 20) (v := ?va341_20) rfl (by kernel_rfl) (by kernel_rfl) (by kernel_rfl) (fun _ _ _ h => h) (Or.inl ⟨by rfl, fun w hSw => ?ti341_20⟩) (by assumption) ?rest341_20
      case ti341_20 => ((try dsimp only at hSw); go_simp; (first | done | with_reducible rfl))
      try simp only [Act.put, List.getElem_toArray, List.getElem_cons_zero, List.getElem_cons_succ, List.setIfInBounds_toArray, List.set_cons_zero, List.set_cons_succ]
      refine wpAnyH_take (i := 24) (v := ?va344_24) rfl (by kernel_rfl) (by kernel_rfl) (by kernel_rfl) (fun _ _ _ h => h) (Or.inl ⟨by rfl, fun w hSw => ?ti344_24⟩) (by assumption) ?rest344_24
      case ti344_24 => ((try dsimp only at hSw); go_simp; (first | done | with_reducible rfl))
      try simp only [Act.put, List.getElem_toArray, List.getElem_cons_zero, List.getElem_cons_succ, List.setIfInBounds_toArray, List.set_cons_zero, List.set_cons_succ]
      refine wpAnyH_take (i := 25) (v := ?va347_25) rfl (by kernel_rfl) (by kernel_rfl) (by kernel_rfl) (fun _ _ _ h => h) (Or.inl ⟨by rfl, fun w hSw => ?ti347_25⟩) (by assumption) ?rest347_25
      case ti347_25 => ((try dsimp only at hSw); go_simp; (first | done | with_reducible rfl))
      try simp only [Act.put, List.getElem_toArray, List.getElem_cons_zero, List.getElem_cons_succ, List.setIfInBounds_toArray, List.set_cons_zero, List.set_cons_succ]
      refine wpAnyH_done (by kernel_rfl) ?_ _
      have XV := Lib.hid (X3.out.trans Xe.out)
      clear e1 e2 e3 q0_1 q0_2 q0_3 q0_4 q0_5 q0_6 q0_7 q0_8
      by_cases hm0 : mn = 0
      · have hE : E0 = true := by rw [HE0.out]; exact decide_eq_true hm0
        subst hE
        go_wp2_with fail
        refine (Lives_calls v5 (HT.out.ext (X2.out.trans XV.out))).mono ?_
        rintro e wD ⟨rfl, xD⟩
        have XD := Lib.hid ((X2.out.trans XV.out).trans xD)
        clear xD
        go_wp2
        go_ret
        exact ⟨rfl, XD.out⟩
      · have hE : E0 = false := by rw [HE0.out]; exact decide_eq_false hm0
        subst hE
        have k4 : 0 < mn := by omega
        have k5 : ¬ ((mn : Int) = 0) := by omega
        obtain ⟨wi, hwi⟩ : ∃ wi, wi = wh.toNat % mn := ⟨_, rfl⟩
        have hwil : wi < mn := by rw [hwi]; exact Nat.mod_lt _ k4
        have z1 : wrap64 wh = wh := IntWalk.wrap64_in _ ⟨by omega, by omega⟩
        have z1' : IntKind.i64.wrap wh = wh := IntWalk.i64_in _ ⟨by omega, by omega⟩
        have z3 : wh.tmod (mn : Int) = (wi : Int) := by
          rw [Int.tmod_eq_emod_of_nonneg hwh.1, hwi]
          have h1 : wh = (wh.toNat : Int) := by omega
          conv => lhs; rw [h1]
          rw [← Int.natCast_emod]
        have z6 : (wi : Int) < mn := by omega
        have z7 : (0 : Int) ≤ wi := by omega
        obtain ⟨w7, hw7⟩ : ∃ w7, w7 = wt % 7 := ⟨_, rfl⟩
        have z10 : wt.tmod 7 = w7 := by rw [Int.tmod_eq_emod_of_nonneg hwt.1, hw7]
        have hw7b : w7 = 0 ∨ w7 = 1 ∨ w7 = 2 ∨ w7 = 3 ∨ w7 = 4 ∨ w7 = 5 ∨ w7 = 6 := by omega
        obtain ⟨ma', mn', e, -, -, -, hMat⟩ := HNL.out.open
        cases e
        obtain ⟨bm, om, rfl, hAa⟩ := hMat wi hwil
        obtain ⟨A, hA⟩ : ∃ A, A = ni s.made wi := ⟨_, rfl⟩
        have hAm : A ∈ s.made := by rw [hA]; exact ni_mem (by rw [← Hmn.out]; exact hwil)
        have hhA := Hhas.out A hAm
        rw [← hA] at hAa
        obtain ⟨y, n, hAe, hy6, hn⟩ := hasB_iff hhA
        rw [H6.out.2, H6.out.1] at hy6
        rw [H6.out.2] at hn
        obtain ⟨p0, p1⟩ := hAa.ext XV.out
        rw [hAe] at p0 p1
        dsimp only at p0 p1
        have hz5 : ¬ mn = 0 := hm0
        clear hwi hw7 hA hAm hAa hMat hhA hAe
        go_upto_region 10 with fail
        obtain ⟨W6, hW6⟩ : ∃ W6, W6 = v5.alloc (.cells #[.int .u8 ((y : Int) + 1), .int .i64 n] 41) := ⟨_, rfl⟩
        rw [← hW6]
        obtain ⟨gi', hgi⟩ : ∃ gi', gi' = v5.heap.size := ⟨_, rfl⟩
        rw [← hgi]
        have x56 : Ext v5 W6 := by rw [hW6]; exact (Ext.refl _).alloc _
        have X36 := Lib.hid (Xe.out.trans x56)
        have hBN : BN W6 gi' ⟨(y : Int) + 1, n⟩ := by rw [hW6, hgi]; exact BN.new v5 ⟨(y : Int) + 1, n⟩
        obtain ⟨i0, i1⟩ := hBN.at
        simp only [Nat.zero_add] at i1
        have HAg6 := Lib.hid (show Agr g0 w1 W6 from fun i h1 h2 => by rw [Below.block X36.out i (by have := Hsz.out; omega)]; exact HAg.out i h1 h2)
        have HS6 := Lib.hid (show SwC W2 w1 W6 gb g0 F us vs s lv mv ka la fa kn kc ln lc fn fc f from
          ⟨HBg.out.ext X36.out, HO.out.agr HAg6.out, by have h1 := (HOF.out.ext X36.out).c; rw [← HL.out.1] at h1; exact h1, by have h1 := (HOF.out.ext X36.out).h; rw [← HL.out.2.1] at h1; exact h1, by have h1 := (HOF.out.ext X36.out).f; rw [← HL.out.2.2] at h1; exact h1, HOF.out.d, X3.out.trans X36.out, H6.out.2, H6.out.1, HL.out.1, HL.out.2.1, HL.out.2.2, Nat.le_trans Hsz.out.2.2.1 X36.out.size, Hsz.out.2.2.2.1, Hsz.out.2.2.2.2, Hsz.out.2.1, HFI.out, HOKT.out, Hnd.out, Hcr.out, by have h1 := HHL.out; have h2 := Hml.out; have h3 := HL.out; omega⟩)
        obtain ⟨m, hm⟩ : ∃ m, m = (yi s.t y).length := ⟨_, rfl⟩
        obtain ⟨gr, cr, hF, hgr, -⟩ := (HS6.out.o.rows y hy6).row.form (by omega)
        rw [← hm] at hF
        obtain ⟨ua, uc, hU, huc⟩ := own_slice ((HS6.out.o.rows y hy6).u n hn)
        obtain ⟨va, vc, hV, hvc⟩ := own_slice ((HS6.out.o.rows y hy6).v n hn)
        obtain ⟨L, hL⟩ : ∃ L, L = li (yi s.t y) n := ⟨_, rfl⟩
        obtain ⟨un, hun⟩ : ∃ un, un = L.thr.length := ⟨_, rfl⟩
        obtain ⟨vn, hvn⟩ : ∃ vn, vn = L.past.length := ⟨_, rfl⟩
        rw [← hL, ← hun] at hU huc
        rw [← hL, ← hvn] at hV hvc
        have t0 : W6.cell? ⟨g0, y, none⟩ = some (.slice (some ⟨gr, 0, none⟩) m cr) := by rw [← hF]; exact HS6.out.o.tab.cell hy6
        have b0 := HS6.out.b.c0
        have y1 : IntKind.u8.wrap ((y : Int) + 1 - 1) = y := by rw [show (y : Int) + 1 - 1 = y by omega]; exact IntWalk.u8_in _ ⟨by omega, by omega⟩
        have y2 : (0 : Int) ≤ y := by omega
        have y3 : (y : Int) < 6 := by omega
        have y4 : (0 : Int) ≤ n := by omega
        have y5 : (n : Int) < m := by omega
        have HLp := Lib.hid hL; have Hun := Lib.hid hun; have Hvn := Lib.hid hvn; have HF := Lib.hid (And.intro hF hm); have HU := Lib.hid hU; have HV := Lib.hid hV; have Hn := Lib.hid (And.intro hy6 hn); have Huc := Lib.hid (And.intro huc hvc)
        clear hW6 hgi x56 hBN hm hF hU hV hL hun hvn hgr hn huc hvc hz5 z1 z1' z3 z6 z7 p0 p1
        go_quiet (fail)
        go_upto_block 0 with fail
        obtain ⟨W7, hW7⟩ : ∃ W7, W7 = W6.drewN nq := ⟨_, rfl⟩
        rw [← hW7]
        have x67 : Ext W6 W7 := by rw [hW7]; exact (Ext.refl _).drewN _
        have HS := Lib.hid (HS6.out.ext x67)
        have HA7 := Lib.hid (show Agr g0 w1 W7 from fun i h1 h2 => by rw [Below.block x67 i (by have := HS6.out.z1; omega)]; exact HAg6.out i h1 h2)
        clear hW7 x67 HS6 HAg6 t0 b0 i0 i1 y1 y2 y3 y4 y5 k5
        go_cut [13] from 14 to 211 (fun c wx => PostS W2 gb f c wx)
        case first =>
          have hRow := HS.out.o.rows y Hn.out.1
          rw [HF.out.1] at hRow
          obtain ⟨c0, c1, c2, c3⟩ := hRow.at4 Hn.out.2
          rw [← HLp.out] at c0 c1
          rw [HU.out] at c2
          rw [HV.out] at c3
          have HRow := Lib.hid hRow
          have HRt := Lib.hid (show RightL s.t L by rw [HLp.out]; exact HS.out.right Hn.out.1 Hn.out.2)
          clear hRow
          rcases hw7b with rfl | rfl | rfl | rfl | rfl | rfl | rfl
          · as_aux_lemma =>
            have hb := HRt.out.bed
            have m1 : IntKind.u8.wrap (1 - L.bed) = 1 - L.bed := IntWalk.u8_in _ ⟨by omega, by omega⟩
            have z1 := cells_fz HRow.out.row (n * 4)
            have HN := Lib.hid (show PostS W2 gb f (.bool true) (W7.setCell ⟨gr, n * 4, none⟩ (.int .u8 (1 - L.bed))) from by rw [HLp.out]; exact HS.out.put0 Hn.out.1 Hn.out.2 HF.out.1 HF.out.2)
            clear hb
            go_wp2_with fail
            go_meet
            case rel => exact HN.out
          · as_aux_lemma =>
            have z1 := cells_fz HRow.out.row (n * 4 + 1)
            have HN := Lib.hid (show PostS W2 gb f (.bool true) (W7.setCell ⟨gr, n * 4 + 1, none⟩ (.bool (!L.new))) from by rw [HLp.out]; exact HS.out.put1 Hn.out.1 Hn.out.2 HF.out.1 HF.out.2)
            go_wp2_with fail
            go_meet
            case rel => exact HN.out
          · as_aux_lemma =>
            by_cases h1 : 1 < un
            · have m1 : (1 : Int) < un := by omega
              have m1n : 1 < un := h1
              have m2 : (0 : Int) < un := by omega
              have m2n : 0 < un := by omega
              have m3 : (1 : Int) ≤ un := by omega
              have hown := HRow.out.u n Hn.out.2
              rw [HU.out] at hown
              obtain ⟨gt, cap, e, -, -⟩ := hown.form (by have := HLp.out; have := Hun.out; rw [← HLp.out]; omega)
              rw [← HLp.out, ← Hun.out] at e
              cases e
              have hun : un = L.thr.length := Hun.out
              have hUC := Huc.out.1
              rw [← HLp.out, ← hun] at hown
              have m4 : ¬ uc = 1 := by omega
              have m5 : ¬ 1 = uc := by omega
              have m6 : (1 : Int) ≤ uc := by omega
              have m7 : (un : Int) ≤ uc := by omega
              obtain ⟨E1, hE1⟩ : ∃ E1, E1 = ni L.thr 0 := ⟨_, rfl⟩
              obtain ⟨b1, o1, e, hA0⟩ := own_at2 hown hun (i := 0) (by omega)
              cases e
              rw [← hE1] at hA0
              obtain ⟨p0, p1⟩ := hA0
              simp only [Nat.zero_add, Nat.zero_mul, Nat.add_zero] at p0 p1
              obtain ⟨NL1, hNL1⟩ : ∃ NL1, NL1 = L.thr.drop 1 := ⟨_, rfl⟩
              obtain ⟨d, hd⟩ : ∃ d, d = NL1.length := ⟨_, rfl⟩
              have hdu : d = un - 1 := by rw [hd, hNL1, List.length_drop, ← hun]
              have HTk := Lib.hid (show ∀ w', Ext W7 w' → CK 2 w' (.slice (some ⟨gt, 2, none⟩) (un - 1) (uc - 1)) (uc - 1) (NL1.map Nm.cs) from fun w' x' => by
                have h1 := CK.drop (own_ck hown hun) (l := 1) (by rw [List.length_map]; omega)
                rw [List.length_map, ← hun, ← List.map_drop, ← hNL1, Nat.zero_add, Nat.one_mul] at h1
                exact h1.ext x')
              have Hd := Lib.hid (show d = NL1.length ∧ d ≤ 100 from ⟨hd, by have := HRt.out.n1; omega⟩)
              have HN := Lib.hid (show ∀ w8 v, Ext W7 w8 → w8.ownsRow W7.heap.size 41 2 v (d + 1) ((NL1 ++ [E1]).map Nm.cs).flatten → PostS W2 gb f (.bool true) (w8.setCell ⟨gr, n * 4 + 2, none⟩ v) from fun w8 v x8 hv =>
                (HS.out.ext x8).put2 (k := d + 1) Hn.out.1 Hn.out.2 HF.out.1 HF.out.2 (by rw [← HLp.out]; omega) HS.out.z1 (by rw [← HLp.out, ← hNL1, ← hE1]; exact hv) (by rw [← HLp.out]; omega))
              have hz1 := cells_fz HRow.out.row (n * 4 + 2)
              have Hz := Lib.hid (show ∀ w8, Ext W7 w8 → w8.cell? ⟨gr, n * 4 + 2, none⟩ = some (.slice (some ⟨gt, 0, none⟩) un uc) ∧ w8.frozen? ⟨gr, n * 4 + 2, none⟩ = false from fun w8 x8 => ⟨x8.cell c2, cells_fz (HRow.out.ext x8).row _⟩)
              clear hdu hd hNL1 hE1 hown hun hUC hz1 h1
              have q0_1 := c2; have q0_2 := p0; have q0_3 := p1
              go_upto_region 24 with fail
              refine region_L (L := 18) (S := fun w' => w'.cell? ⟨gr, n * 4 + 2, Option.none⟩ = some (.slice (some ⟨gt, 0, none⟩) un uc) ∧ w'.cell? ⟨gt, 0, Option.none⟩ = some (.int .u8 E1.y) ∧ w'.cell? ⟨gt, 1, Option.none⟩ = some (.int .i64 E1.n)) (by kernel_rfl) ?_ (fun hHeld => ?_)
              · exact ⟨q0_1, q0_2, q0_3⟩
              refine anyL_take (i := 0) (v := ?va506_0) rfl (by kernel_rfl) (by kernel_rfl) (by kernel_rfl) (by kernel_rfl) (fun _ _ _ h => h) (Or.inl ⟨by rfl, fun w hSw => ?ti506_0⟩) (by assumption) ?rest506_0
              case ti506_0 => ((try dsimp only at hSw); go_simp; (first | done | with_reducible rfl))
              try simp only [Act.put, List.getElem_toArray, List.getElem_cons_zero, List.getElem_cons_succ, List.setIfInBounds_toArray, List.set_cons_zero, List.set_cons_succ]
              refine anyL_take (i := 2) (v := ?va509_2) rfl (by kernel_rfl) (by kernel_rfl) (by kernel_rfl) (by kernel_rfl) (fun _ _ _ h => h) (Or.inl ⟨by rfl, fun w hSw => ?ti509_2⟩) (by assumption) ?rest509_2
              case ti509_2 => ((try dsimp only at hSw); go_simp; (first | done | with_reducible rfl))
              try simp only [Act.put, List.getElem_toArray, List.getElem_cons_zero, List.getElem_cons_succ, List.setIfInBounds_toArray, List.set_cons_zero, List.set_cons_succ]
              refine anyL_take (i := 3) (v := ?va512_3) rfl (by kernel_rfl) (by kernel_rfl) (by kernel_rfl) (by kernel_rfl) (fun _ _ _ h => h) (Or.inl ⟨by rfl, fun w hSw => ?ti512_3⟩) (by assumption) ?rest512_3
              case ti512_3 => ((try dsimp only at hSw); go_simp; (first | done | with_reducible rfl))
              try simp only [Act.put, List.getElem_toArray, List.getElem_cons_zero, List.getElem_cons_succ, List.setIfInBounds_toArray, List.set_cons_zero, List.set_cons_succ]
              refine anyL_take (i := 4) (v := ?va515_4) rfl (by kernel_rfl) (by kernel_rfl) (by kernel_rfl) (by kernel_rfl) (fun _ _ _ h => h) (Or.inl ⟨by rfl, fun w hSw => ?ti515_4⟩) (by assumption) ?rest515_4
              case ti515_4 => ((try dsimp only at hSw); go_simp; (first | done | with_reducible rfl))
              try simp only [Act.put, List.getElem_toArray, List.getElem_cons_zero, List.getElem_cons_succ, List.setIfInBounds_toArray, List.set_cons_zero, List.set_cons_succ]
              refine anyL_take (i := 5) (v := ?va518_5) rfl (by kernel_rfl) (by kernel_rfl) (by kernel_rfl) (by kernel_rfl) (fun _ _ _ h => h) (Or.inl ⟨by rfl, fun w hSw => ?ti518_5⟩) (by assumption) ?rest518_5
              case ti518_5 => ((try dsimp only at hSw); go_simp; (first | done | with_reducible rfl))
              try simp only [Act.put, List.getElem_toArray, List.getElem_cons_zero, List.getElem_cons_succ, List.setIfInBounds_toArray, List.set_cons_zero, List.set_cons_succ]
              refine anyL_take (i := 6) (v := ?va521_6) rfl (by kernel_rfl) (by kernel_rfl) (by kernel_rfl) (by kernel_rfl) (fun _ _ _ h => h) (Or.inl ⟨by rfl, fun w hSw => ?ti521_6⟩) (by assumption) ?rest521_6
              case ti521_6 => ((try dsimp only at hSw); go_simp; (first | done | with_reducible rfl))
              try simp only [Act.put, List.getElem_toArray, List.getElem_cons_zero, List.getElem_cons_succ, List.setIfInBounds_toArray, List.set_cons_zero, List.set_cons_succ]
              refine anyL_take (i := 8) (v := ?va524_8) rfl (by kernel_rfl) (by kernel_rfl) (by kernel_rfl) (by kernel_rfl) (fun _ _ _ h => h) (Or.inl ⟨by rfl, fun w hSw => ?ti524_8⟩) (by assumption) ?rest524_8
              case ti524_8 => ((try dsimp only at hSw); go_simp; (first | done | with_reducible rfl))
              try simp only [Act.put, List.getElem_toArray, List.getElem_cons_zero, List.getElem_cons_succ, List.setIfInBounds_toArray, List.set_cons_zero, List.set_cons_succ]
              refine anyL_take (i := 9) (v := ?va527_9) rfl (by kernel_rfl) (by kernel_rfl) (by kernel_rfl) (by kernel_rfl) (fun _ _ _ h => h) (Or.inl ⟨by rfl, fun w hSw => ?ti527_9⟩) (by assumption) ?rest527_9
              case ti527_9 => ((try dsimp only at hSw); go_simp; (first | done | with_reducible rfl))
              try simp only [Act.put, List.getElem_toArray, List.getElem_cons_zero, List.getElem_cons_succ, List.setIfInBounds_toArray, List.set_cons_zero, List.set_cons_succ]
              refine anyL_take (i := 10) (v := ?va530_10) rfl (by kernel_rfl) (by kernel_rfl) (by kernel_rfl) (by kernel_rfl) (fun _ _ _ h => h) (Or.inl ⟨by rfl, fun w hSw => ?ti530_10⟩) (by assumption) ?rest530_10
              case ti530_10 => ((try dsimp only at hSw); go_simp; (first | done | with_reducible rfl))
              try simp only [Act.put, List.getElem_toArray, List.getElem_cons_zero, List.getElem_cons_succ, List.setIfInBounds_toArray, List.set_cons_zero, List.set_cons_succ]
              refine anyL_take (i := 11) (v := ?va533_11) rfl (by kernel_rfl) (by kernel_rfl) (by kernel_rfl) (by kernel_rfl) (fun _ _ _ h => h) (Or.inl ⟨by rfl, fun w hSw => ?ti533_11⟩) (by assumption) ?rest533_11
              case ti533_11 => ((try dsimp only at hSw); go_simp; (first | done | with_reducible rfl))
              try simp only [Act.put, List.getElem_toArray, List.getElem_cons_zero, List.getElem_cons_succ, List.setIfInBounds_toArray, List.set_cons_zero, List.set_cons_succ]
              refine anyL_take (i := 12) (v := ?va536_12) rfl (by kernel_rfl) (by kernel_rfl) (by kernel_rfl) (by kernel_rfl) (fun _ _ _ h => h) (Or.inl ⟨by rfl, fun w hSw => ?ti536_12⟩) (by assumption) ?rest536_12
              case ti536_12 => ((try dsimp only at hSw); go_simp; (first | done | with_reducible rfl))
              try simp only [Act.put, List.getElem_toArray, List.getElem_cons_zero, List.getElem_cons_succ, List.setIfInBounds_toArray, List.set_cons_zero, List.set_cons_succ]
              refine anyL_take (i := 13) (v := ?va539_13) rfl (by kernel_rfl) (by kernel_rfl) (by kernel_rfl) (by kernel_rfl) (fun _ _ _ h => h) (Or.inl ⟨by rfl, fun w hSw => ?ti539_13⟩) (by assumption) ?rest539_13
              case ti539_13 => ((try dsimp only at hSw); go_simp; (first | done | with_reducible rfl))
              try simp only [Act.put, List.getElem_toArray, List.getElem_cons_zero, List.getElem_cons_succ, List.setIfInBounds_toArray, List.set_cons_zero, List.set_cons_succ]
              refine anyL_ready (rs := [1, 14]) (by kernel_rfl) (by simp) ?_
              refine AllL.cons rfl (fun K hK => ?_) (AllL.cons rfl (fun K hK => ?_) AllL.nil)
              · as_aux_lemma =>
                go_simp
                refine hK.out _ _ (fun _ => ⟨Ext.cell (by (focus (repeat (first | (with_reducible exact Ext.refl _) | (with_reducible apply Ext.drew) | (with_reducible apply Ext.drewN) | (with_reducible apply Ext.alloc))))) q0_1, Ext.cell (by (focus (repeat (first | (with_reducible exact Ext.refl _) | (with_reducible apply Ext.drew) | (with_reducible apply Ext.drewN) | (with_reducible apply Ext.alloc))))) q0_2, Ext.cell (by (focus (repeat (first | (with_reducible exact Ext.refl _) | (with_reducible apply Ext.drew) | (with_reducible apply Ext.drewN) | (with_reducible apply Ext.alloc))))) q0_3⟩) ?_
                clear hK K; try simp only [Act.put, List.getElem_toArray, List.getElem_cons_zero, List.getElem_cons_succ, List.setIfInBounds_toArray, List.set_cons_zero, List.set_cons_succ]
                refine anyL_ready (rs := [7, 14]) (by kernel_rfl) (by simp) ?_
                refine AllL.cons rfl (fun K hK => ?_) (AllL.cons rfl (fun K hK => ?_) AllL.nil)
                · as_aux_lemma =>
                  have HOL := Lib.hid (own_lit W7 W7.heap.size (Nat.le_refl _) 41 2)
                  refine step_app ekN (by rfl) _ _ (by rfl) W7.heap.size _ 0 [] (by rfl) (own_extk HOL.out (by (focus (repeat (first | (with_reducible exact Ext.refl _) | (with_reducible apply Ext.drew) | (with_reducible apply Ext.drewN) | (with_reducible apply Ext.alloc)))))) _ (uc - 1) (NL1.map Nm.cs) (by rfl) (HTk.out _ (by (focus (repeat (first | (with_reducible exact Ext.refl _) | (with_reducible apply Ext.drew) | (with_reducible apply Ext.drewN) | (with_reducible apply Ext.alloc)))))) (Ks.nm _) (by have := Hd.out; simp; omega) (by have := Hd.out; simp; omega) (Ext.size (by (focus (repeat (first | (with_reducible exact Ext.refl _) | (with_reducible apply Ext.drew) | (with_reducible apply Ext.drewN) | (with_reducible apply Ext.alloc)))))) ?_
                  intro v6 w6 hown hgr hat
                  have hown' : w6.ownsRow W7.heap.size 41 2 v6 d (NL1.map Nm.cs).flatten := by rw [List.nil_append, List.length_map, Nat.zero_add, ← Hd.out.1] at hown; exact hown
                  have X6 : Hid (Ext W7 w6) := Lib.hid (Ext.grown (by (focus (repeat (first | (with_reducible exact Ext.refl _) | (with_reducible apply Ext.drew) | (with_reducible apply Ext.drewN) | (with_reducible apply Ext.alloc))))) hgr fun g hg => by cases hg; (first | exact Nat.le_refl _ | exact Nat.le_succ _))
                  have HO6 := Lib.hid hown'
                  clear hown hgr hat hown' HOL
                  refine hK.out _ _ (fun _ => ⟨Ext.cell (Ext.trans X6.out (by (focus (repeat (first | (with_reducible exact Ext.refl _) | (with_reducible apply Ext.drew) | (with_reducible apply Ext.drewN) | (with_reducible apply Ext.alloc)))))) q0_1, Ext.cell (Ext.trans X6.out (by (focus (repeat (first | (with_reducible exact Ext.refl _) | (with_reducible apply Ext.drew) | (with_reducible apply Ext.drewN) | (with_reducible apply Ext.alloc)))))) q0_2, Ext.cell (Ext.trans X6.out (by (focus (repeat (first | (with_reducible exact Ext.refl _) | (with_reducible apply Ext.drew) | (with_reducible apply Ext.drewN) | (with_reducible apply Ext.alloc)))))) q0_3⟩) ?_
                  clear hK K; try simp only [Act.put, List.getElem_toArray, List.getElem_cons_zero, List.getElem_cons_succ, List.setIfInBounds_toArray, List.set_cons_zero, List.set_cons_succ]
                  refine anyL_ready (rs := [14]) (by kernel_rfl) (by simp) ?_
                  refine AllL.cons rfl (fun K hK => ?_) AllL.nil
                  go_simp
                  refine hK.out _ _ (fun _ => ⟨Ext.cell (Ext.trans X6.out (by (focus (repeat (first | (with_reducible exact Ext.refl _) | (with_reducible apply Ext.drew) | (with_reducible apply Ext.drewN) | (with_reducible apply Ext.alloc)))))) q0_1, Ext.cell (Ext.trans X6.out (by (focus (repeat (first | (with_reducible exact Ext.refl _) | (with_reducible apply Ext.drew) | (with_reducible apply Ext.drewN) | (with_reducible apply Ext.alloc)))))) q0_2, Ext.cell (Ext.trans X6.out (by (focus (repeat (first | (with_reducible exact Ext.refl _) | (with_reducible apply Ext.drew) | (with_reducible apply Ext.drewN) | (with_reducible apply Ext.alloc)))))) q0_3⟩) ?_
                  clear hK K; try simp only [Act.put, List.getElem_toArray, List.getElem_cons_zero, List.getElem_cons_succ, List.setIfInBounds_toArray, List.set_cons_zero, List.set_cons_succ]
                  refine anyL_ready (rs := [15]) (by kernel_rfl) (by simp) ?_
                  refine AllL.cons rfl (fun K hK => ?_) AllL.nil
                  refine step_app ekN (by rfl) _ _ (by rfl) W7.heap.size _ d (NL1.map Nm.cs) (by rfl) (own_extk HO6.out (by (focus (repeat (first | (with_reducible exact Ext.refl _) | (with_reducible apply Ext.drew) | (with_reducible apply Ext.drewN) | (with_reducible apply Ext.alloc)))))) _ 1 [Nm.cs E1] (by rfl) (CK.ext (CK.of_blk (Deep.blk_alloc_new w6 _) (Ks.nm [E1]) rfl (Nat.le_refl _) (by omega) rfl) (by (focus (repeat (first | (with_reducible exact Ext.refl _) | (with_reducible apply Ext.drew) | (with_reducible apply Ext.drewN) | (with_reducible apply Ext.alloc)))))) (Ks.nm [E1]) (by have := Hd.out; simp; omega) (by have := Hd.out; simp; omega) (Nat.le_trans (Ext.size X6.out) (Ext.size (by (focus (repeat (first | (with_reducible exact Ext.refl _) | (with_reducible apply Ext.drew) | (with_reducible apply Ext.drewN) | (with_reducible apply Ext.alloc))))))) ?_
                  intro v7 w7 hown hgr hat
                  have X7 : Hid (Ext W7 w7) := Lib.hid (Ext.grown (Ext.trans X6.out (by (focus (repeat (first | (with_reducible exact Ext.refl _) | (with_reducible apply Ext.drew) | (with_reducible apply Ext.drewN) | (with_reducible apply Ext.alloc)))))) hgr fun g hg => (HO6.out.lt g hg).1)
                  have HO7 : Hid (w7.ownsRow W7.heap.size 41 2 v7 (d + 1) ((NL1 ++ [E1]).map Nm.cs).flatten) := Lib.hid (by rw [List.map_append]; exact hown)
                  clear hown hgr hat
                  have HP := Lib.hid (HN.out _ _ X7.out HO7.out)
                  obtain ⟨p0, p1⟩ := Hz.out _ X7.out
                  obtain ⟨a8, c8, e8, _⟩ := own_slice HO7.out
                  subst e8
                  refine hK.out _ _ (fun _ => ⟨Ext.cell (Ext.trans X7.out (by (focus (repeat (first | (with_reducible exact Ext.refl _) | (with_reducible apply Ext.drew) | (with_reducible apply Ext.drewN) | (with_reducible apply Ext.alloc)))))) q0_1, Ext.cell (Ext.trans X7.out (by (focus (repeat (first | (with_reducible exact Ext.refl _) | (with_reducible apply Ext.drew) | (with_reducible apply Ext.drewN) | (with_reducible apply Ext.alloc)))))) q0_2, Ext.cell (Ext.trans X7.out (by (focus (repeat (first | (with_reducible exact Ext.refl _) | (with_reducible apply Ext.drew) | (with_reducible apply Ext.drewN) | (with_reducible apply Ext.alloc)))))) q0_3⟩) ?_
                  clear hK K; try simp only [Act.put, List.getElem_toArray, List.getElem_cons_zero, List.getElem_cons_succ, List.setIfInBounds_toArray, List.set_cons_zero, List.set_cons_succ]
                  refine anyL_ready (rs := [16]) (by kernel_rfl) (by simp) ?_
                  refine AllL.cons rfl (fun K hK => ?_) AllL.nil
                  go_simp
                  refine hK.out _ _ (fun _ => ⟨Ext.cell (Ext.trans X7.out (by (focus (repeat (first | (with_reducible exact Ext.refl _) | (with_reducible apply Ext.drew) | (with_reducible apply Ext.drewN) | (with_reducible apply Ext.alloc)))))) q0_1, Ext.cell (Ext.trans X7.out (by (focus (repeat (first | (with_reducible exact Ext.refl _) | (with_reducible apply Ext.drew) | (with_reducible apply Ext.drewN) | (with_reducible apply Ext.alloc)))))) q0_2, Ext.cell (Ext.trans X7.out (by (focus (repeat (first | (with_reducible exact Ext.refl _) | (with_reducible apply Ext.drew) | (with_reducible apply Ext.drewN) | (with_reducible apply Ext.alloc)))))) q0_3⟩) ?_
                  clear hK K; try simp only [Act.put, List.getElem_toArray, List.getElem_cons_zero, List.getElem_cons_succ, List.setIfInBounds_toArray, List.set_cons_zero, List.set_cons_succ]
                  refine anyL_ready (rs := [17]) (by kernel_rfl) (by simp) ?_
                  refine AllL.cons rfl (fun K hK => ?_) AllL.nil
                  go_simp
                  refine hK.out _ _ (fun _ => ⟨Ext.cell (Ext.trans X7.out (by (focus (repeat (first | (with_reducible exact Ext.refl _) | (with_reducible apply Ext.drew) | (with_reducible apply Ext.drewN) | (with_reducible apply Ext.alloc)))))) q0_1, Ext.cell (Ext.trans X7.out (by (focus (repeat (first | (with_reducible exact Ext.refl _) | (with_reducible apply Ext.drew) | (with_reducible apply Ext.drewN) | (with_reducible apply Ext.alloc)))))) q0_2, Ext.cell (Ext.trans X7.out (by (focus (repeat (first | (with_reducible exact Ext.refl _) | (with_reducible apply Ext.drew) | (with_reducible apply Ext.drewN) | (with_reducible apply Ext.alloc)))))) q0_3⟩) ?_
                  clear hK K; try simp only [Act.put, List.getElem_toArray, List.getElem_cons_zero, List.getElem_cons_succ, List.setIfInBounds_toArray, List.set_cons_zero, List.set_cons_succ]
                  refine anyL_ready (rs := [18]) (by kernel_rfl) (by simp) ?_
                  refine AllL.cons rfl (fun K hK => ?_) AllL.nil
                  go_simp
                  refine hK.out _ _ (fun h => absurd rfl h) ?_
                  clear hK K; try simp only [Act.put, List.getElem_toArray, List.getElem_cons_zero, List.getElem_cons_succ, List.setIfInBounds_toArray, List.set_cons_zero, List.set_cons_succ]
                  refine anyL_done (by kernel_rfl) ?_ _
                  go_wp2_with fail
                  go_meet
                  case rel => exact HP.out
                · as_aux_lemma =>
                  go_simp
                  refine hK.out _ _ (fun _ => ⟨Ext.cell (by (focus (repeat (first | (with_reducible exact Ext.refl _) | (with_reducible apply Ext.drew) | (with_reducible apply Ext.drewN) | (with_reducible apply Ext.alloc))))) q0_1, Ext.cell (by (focus (repeat (first | (with_reducible exact Ext.refl _) | (with_reducible apply Ext.drew) | (with_reducible apply Ext.drewN) | (with_reducible apply Ext.alloc))))) q0_2, Ext.cell (by (focus (repeat (first | (with_reducible exact Ext.refl _) | (with_reducible apply Ext.drew) | (with_reducible apply Ext.drewN) | (with_reducible apply Ext.alloc))))) q0_3⟩) ?_
                  clear hK K; try simp only [Act.put, List.getElem_toArray, List.getElem_cons_zero, List.getElem_cons_succ, List.setIfInBounds_toArray, List.set_cons_zero, List.set_cons_succ]
                  refine anyL_ready (rs := [7]) (by kernel_rfl) (by simp) ?_
                  refine AllL.cons rfl (fun K hK => ?_) AllL.nil
                  have HOL := Lib.hid (own_lit W7 W7.heap.size (Nat.le_refl _) 41 2)
                  refine step_app ekN (by rfl) _ _ (by rfl) W7.heap.size _ 0 [] (by rfl) (own_extk HOL.out (by (focus (repeat (first | (with_reducible exact Ext.refl _) | (with_reducible apply Ext.drew) | (with_reducible apply Ext.drewN) | (with_reducible apply Ext.alloc)))))) _ (uc - 1) (NL1.map Nm.cs) (by rfl) (HTk.out _ (by (focus (repeat (first | (with_reducible exact Ext.refl _) | (with_reducible apply Ext.drew) | (with_reducible apply Ext.drewN) | (with_reducible apply Ext.alloc)))))) (Ks.nm _) (by have := Hd.out; simp; omega) (by have := Hd.out; simp; omega) (Ext.size (by (focus (repeat (first | (with_reducible exact Ext.refl _) | (with_reducible apply Ext.drew) | (with_reducible apply Ext.drewN) | (with_reducible apply Ext.alloc)))))) ?_
                  intro v6 w6 hown hgr hat
                  have hown' : w6.ownsRow W7.heap.size 41 2 v6 d (NL1.map Nm.cs).flatten := by rw [List.nil_append, List.length_map, Nat.zero_add, ← Hd.out.1] at hown; exact hown
                  have X6 : Hid (Ext W7 w6) := Lib.hid (Ext.grown (by (focus (repeat (first | (with_reducible exact Ext.refl _) | (with_reducible apply Ext.drew) | (with_reducible apply Ext.drewN) | (with_reducible apply Ext.alloc))))) hgr fun g hg => by cases hg; (first | exact Nat.le_refl _ | exact Nat.le_succ _))
                  have HO6 := Lib.hid hown'
                  have HL6 : Hid (BN w6 (W7.heap.size + 1) E1) := Lib.hid (by
                    refine BN.grown ?_ hgr (fun e => by have h1 : W7.heap.size = W7.heap.size + 1 := Option.some.inj e; omega)
                    exact BN.ext (show BN ((W7.alloc (Obj.cells #[] 41)).alloc (Obj.cells #[.int .u8 E1.y, .int .i64 E1.n] 41)) (W7.heap.size + 1) E1 by have h1 := BN.new (W7.alloc (Obj.cells #[] 41)) E1; simpa using h1) (by (focus (repeat (first | (with_reducible exact Ext.refl _) | (with_reducible apply Ext.drew) | (with_reducible apply Ext.drewN) | (with_reducible apply Ext.alloc))))))
                  clear hown hgr hat hown' HOL
                  refine hK.out _ _ (fun _ => ⟨Ext.cell (Ext.trans X6.out (by (focus (repeat (first | (with_reducible exact Ext.refl _) | (with_reducible apply Ext.drew) | (with_reducible apply Ext.drewN) | (with_reducible apply Ext.alloc)))))) q0_1, Ext.cell (Ext.trans X6.out (by (focus (repeat (first | (with_reducible exact Ext.refl _) | (with_reducible apply Ext.drew) | (with_reducible apply Ext.drewN) | (with_reducible apply Ext.alloc)))))) q0_2, Ext.cell (Ext.trans X6.out (by (focus (repeat (first | (with_reducible exact Ext.refl _) | (with_reducible apply Ext.drew) | (with_reducible apply Ext.drewN) | (with_reducible apply Ext.alloc)))))) q0_3⟩) ?_
                  clear hK K; try simp only [Act.put, List.getElem_toArray, List.getElem_cons_zero, List.getElem_cons_succ, List.setIfInBounds_toArray, List.set_cons_zero, List.set_cons_succ]
                  refine anyL_ready (rs := [15]) (by kernel_rfl) (by simp) ?_
                  refine AllL.cons rfl (fun K hK => ?_) AllL.nil
                  refine step_app ekN (by rfl) _ _ (by rfl) W7.heap.size _ d (NL1.map Nm.cs) (by rfl) (own_extk HO6.out (by (focus (repeat (first | (with_reducible exact Ext.refl _) | (with_reducible apply Ext.drew) | (with_reducible apply Ext.drewN) | (with_reducible apply Ext.alloc)))))) _ 1 [Nm.cs E1] (by rfl) (CK.of_blk HL6.out (Ks.nm [E1]) rfl (Nat.le_refl _) (by omega) rfl) (Ks.nm [E1]) (by have := Hd.out; simp; omega) (by have := Hd.out; simp; omega) (Nat.le_trans (Ext.size X6.out) (Ext.size (by (focus (repeat (first | (with_reducible exact Ext.refl _) | (with_reducible apply Ext.drew) | (with_reducible apply Ext.drewN) | (with_reducible apply Ext.alloc))))))) ?_
                  intro v7 w7 hown hgr hat
                  have X7 : Hid (Ext W7 w7) := Lib.hid (Ext.grown (Ext.trans X6.out (by (focus (repeat (first | (with_reducible exact Ext.refl _) | (with_reducible apply Ext.drew) | (with_reducible apply Ext.drewN) | (with_reducible apply Ext.alloc)))))) hgr fun g hg => (HO6.out.lt g hg).1)
                  have HO7 : Hid (w7.ownsRow W7.heap.size 41 2 v7 (d + 1) ((NL1 ++ [E1]).map Nm.cs).flatten) := Lib.hid (by rw [List.map_append]; exact hown)
                  clear hown hgr hat
                  have HP := Lib.hid (HN.out _ _ X7.out HO7.out)
                  obtain ⟨p0, p1⟩ := Hz.out _ X7.out
                  obtain ⟨a8, c8, e8, _⟩ := own_slice HO7.out
                  subst e8
                  refine hK.out _ _ (fun _ => ⟨Ext.cell (Ext.trans X7.out (by (focus (repeat (first | (with_reducible exact Ext.refl _) | (with_reducible apply Ext.drew) | (with_reducible apply Ext.drewN) | (with_reducible apply Ext.alloc)))))) q0_1, Ext.cell (Ext.trans X7.out (by (focus (repeat (first | (with_reducible exact Ext.refl _) | (with_reducible apply Ext.drew) | (with_reducible apply Ext.drewN) | (with_reducible apply Ext.alloc)))))) q0_2, Ext.cell (Ext.trans X7.out (by (focus (repeat (first | (with_reducible exact Ext.refl _) | (with_reducible apply Ext.drew) | (with_reducible apply Ext.drewN) | (with_reducible apply Ext.alloc)))))) q0_3⟩) ?_
                  clear hK K; try simp only [Act.put, List.getElem_toArray, List.getElem_cons_zero, List.getElem_cons_succ, List.setIfInBounds_toArray, List.set_cons_zero, List.set_cons_succ]
                  refine anyL_ready (rs := [16]) (by kernel_rfl) (by simp) ?_
                  refine AllL.cons rfl (fun K hK => ?_) AllL.nil
                  go_simp
                  refine hK.out _ _ (fun _ => ⟨Ext.cell (Ext.trans X7.out (by (focus (repeat (first | (with_reducible exact Ext.refl _) | (with_reducible apply Ext.drew) | (with_reducible apply Ext.drewN) | (with_reducible apply Ext.alloc)))))) q0_1, Ext.cell (Ext.trans X7.out (by (focus (repeat (first | (with_reducible exact Ext.refl _) | (with_reducible apply Ext.drew) | (with_reducible apply Ext.drewN) | (with_reducible apply Ext.alloc)))))) q0_2, Ext.cell (Ext.trans X7.out (by (focus (repeat (first | (with_reducible exact Ext.refl _) | (with_reducible apply Ext.drew) | (with_reducible apply Ext.drewN) | (with_reducible apply Ext.alloc)))))) q0_3⟩) ?_
                  clear hK K; try simp only [Act.put, List.getElem_toArray, List.getElem_cons_zero, List.getElem_cons_succ, List.setIfInBounds_toArray, List.set_cons_zero, List.set_cons_succ]
                  refine anyL_ready (rs := [17]) (by kernel_rfl) (by simp) ?_
                  refine AllL.cons rfl (fun K hK => ?_) AllL.nil
                  go_simp
                  refine hK.out _ _ (fun _ => ⟨Ext.cell (Ext.trans X7.out (by (focus (repeat (first | (with_reducible exact Ext.refl _) | (with_reducible apply Ext.drew) | (with_reducible apply Ext.drewN) | (with_reducible apply Ext.alloc)))))) q0_1, Ext.cell (Ext.trans X7.out (by (focus (repeat (first | (with_reducible exact Ext.refl _) | (with_reducible apply Ext.drew) | (with_reducible apply Ext.drewN) | (with_reducible apply Ext.alloc)))))) q0_2, Ext.cell (Ext.trans X7.out (by (focus (repeat (first | (with_reducible exact Ext.refl _) | (with_reducible apply Ext.drew) | (with_reducible apply Ext.drewN) | (with_reducible apply Ext.alloc)))))) q0_3⟩) ?_
                  clear hK K; try simp only [Act.put, List.getElem_toArray, List.getElem_cons_zero, List.getElem_cons_succ, List.setIfInBounds_toArray, List.set_cons_zero, List.set_cons_succ]
                  refine anyL_ready (rs := [18]) (by kernel_rfl) (by simp) ?_
                  refine AllL.cons rfl (fun K hK => ?_) AllL.nil
                  go_simp
                  refine hK.out _ _ (fun h => absurd rfl h) ?_
                  clear hK K; try simp only [Act.put, List.getElem_toArray, List.getElem_cons_zero, List.getElem_cons_succ, List.setIfInBounds_toArray, List.set_cons_zero, List.set_cons_succ]
                  refine anyL_done (by kernel_rfl) ?_ _
                  go_wp2_with fail
                  go_meet
                  case rel => exact HP.out
              · as_aux_lemma =>
                go_simp
                refine hK.out _ _ (fun _ => ⟨Ext.cell (by (focus (repeat (first | (with_reducible exact Ext.refl _) | (with_reducible apply Ext.drew) | (with_reducible apply Ext.drewN) | (with_reducible apply Ext.alloc))))) q0_1, Ext.cell (by (focus (repeat (first | (with_reducible exact Ext.refl _) | (with_reducible apply Ext.drew) | (with_reducible apply Ext.drewN) | (with_reducible apply Ext.alloc))))) q0_2, Ext.cell (by (focus (repeat (first | (with_reducible exact Ext.refl _) | (with_reducible apply Ext.drew) | (with_reducible apply Ext.drewN) | (with_reducible apply Ext.alloc))))) q0_3⟩) ?_
                clear hK K; try simp only [Act.put, List.getElem_toArray, List.getElem_cons_zero, List.getElem_cons_succ, List.setIfInBounds_toArray, List.set_cons_zero, List.set_cons_succ]
                refine anyL_ready (rs := [1]) (by kernel_rfl) (by simp) ?_
                refine AllL.cons rfl (fun K hK => ?_) AllL.nil
                go_simp
                refine hK.out _ _ (fun _ => ⟨Ext.cell (by (focus (repeat (first | (with_reducible exact Ext.refl _) | (with_reducible apply Ext.drew) | (with_reducible apply Ext.drewN) | (with_reducible apply Ext.alloc))))) q0_1, Ext.cell (by (focus (repeat (first | (with_reducible exact Ext.refl _) | (with_reducible apply Ext.drew) | (with_reducible apply Ext.drewN) | (with_reducible apply Ext.alloc))))) q0_2, Ext.cell (by (focus (repeat (first | (with_reducible exact Ext.refl _) | (with_reducible apply Ext.drew) | (with_reducible apply Ext.drewN) | (with_reducible apply Ext.alloc))))) q0_3⟩) ?_
                clear hK K; try simp only [Act.put, List.getElem_toArray, List.getElem_cons_zero, List.getElem_cons_succ, List.setIfInBounds_toArray, List.set_cons_zero, List.set_cons_succ]
                refine anyL_ready (rs := [7]) (by kernel_rfl) (by simp) ?_
                refine AllL.cons rfl (fun K hK => ?_) AllL.nil
                have HOL := Lib.hid (show ((W7.alloc (Obj.cells #[.int .u8 E1.y, .int .i64 E1.n] 41)).alloc (Obj.cells #[] 41)).ownsRow W7.heap.size 41 2 (.slice (some ⟨W7.heap.size + 1, 0, none⟩) 0 0) 0 ([] : List (List Value)).flatten by have h1 := own_lit (W7.alloc (Obj.cells #[.int .u8 E1.y, .int .i64 E1.n] 41)) W7.heap.size (Ext.size (by (focus (repeat (first | (with_reducible exact Ext.refl _) | (with_reducible apply Ext.drew) | (with_reducible apply Ext.drewN) | (with_reducible apply Ext.alloc)))))) 41 2; simpa using h1)
                refine step_app ekN (by rfl) _ _ (by rfl) W7.heap.size _ 0 [] (by rfl) (own_extk HOL.out (by (focus (repeat (first | (with_reducible exact Ext.refl _) | (with_reducible apply Ext.drew) | (with_reducible apply Ext.drewN) | (with_reducible apply Ext.alloc)))))) _ (uc - 1) (NL1.map Nm.cs) (by rfl) (HTk.out _ (by (focus (repeat (first | (with_reducible exact Ext.refl _) | (with_reducible apply Ext.drew) | (with_reducible apply Ext.drewN) | (with_reducible apply Ext.alloc)))))) (Ks.nm _) (by have := Hd.out; simp; omega) (by have := Hd.out; simp; omega) (Ext.size (by (focus (repeat (first | (with_reducible exact Ext.refl _) | (with_reducible apply Ext.drew) | (with_reducible apply Ext.drewN) | (with_reducible apply Ext.alloc)))))) ?_
                intro v6 w6 hown hgr hat
                have hown' : w6.ownsRow W7.heap.size 41 2 v6 d (NL1.map Nm.cs).flatten := by rw [List.nil_append, List.length_map, Nat.zero_add, ← Hd.out.1] at hown; exact hown
                have X6 : Hid (Ext W7 w6) := Lib.hid (Ext.grown (by (focus (repeat (first | (with_reducible exact Ext.refl _) | (with_reducible apply Ext.drew) | (with_reducible apply Ext.drewN) | (with_reducible apply Ext.alloc))))) hgr fun g hg => by cases hg; (first | exact Nat.le_refl _ | exact Nat.le_succ _))
                have HO6 := Lib.hid hown'
                have HL6 : Hid (BN w6 W7.heap.size E1) := Lib.hid (by
                  refine BN.grown ?_ hgr (fun e => by have h1 : W7.heap.size + 1 = W7.heap.size := Option.some.inj e; omega)
                  exact BN.ext (BN.new W7 E1) (by (focus (repeat (first | (with_reducible exact Ext.refl _) | (with_reducible apply Ext.drew) | (with_reducible apply Ext.drewN) | (with_reducible apply Ext.alloc))))))
                clear hown hgr hat hown' HOL
                refine hK.out _ _ (fun _ => ⟨Ext.cell (Ext.trans X6.out (by (focus (repeat (first | (with_reducible exact Ext.refl _) | (with_reducible apply Ext.drew) | (with_reducible apply Ext.drewN) | (with_reducible apply Ext.alloc)))))) q0_1, Ext.cell (Ext.trans X6.out (by (focus (repeat (first | (with_reducible exact Ext.refl _) | (with_reducible apply Ext.drew) | (with_reducible apply Ext.drewN) | (with_reducible apply Ext.alloc)))))) q0_2, Ext.cell (Ext.trans X6.out (by (focus (repeat (first | (with_reducible exact Ext.refl _) | (with_reducible apply Ext.drew) | (with_reducible apply Ext.drewN) | (with_reducible apply Ext.alloc)))))) q0_3⟩) ?_
                clear hK K; try simp only [Act.put, List.getElem_toArray, List.getElem_cons_zero, List.getElem_cons_succ, List.setIfInBounds_toArray, List.set_cons_zero, List.set_cons_succ]
                refine anyL_ready (rs := [15]) (by kernel_rfl) (by simp) ?_
                refine AllL.cons rfl (fun K hK => ?_) AllL.nil
                refine step_app ekN (by rfl) _ _ (by rfl) W7.heap.size _ d (NL1.map Nm.cs) (by rfl) (own_extk HO6.out (by (focus (repeat (first | (with_reducible exact Ext.refl _) | (with_reducible apply Ext.drew) | (with_reducible apply Ext.drewN) | (with_reducible apply Ext.alloc)))))) _ 1 [Nm.cs E1] (by rfl) (CK.of_blk HL6.out (Ks.nm [E1]) rfl (Nat.le_refl _) (by omega) rfl) (Ks.nm [E1]) (by have := Hd.out; simp; omega) (by have := Hd.out; simp; omega) (Nat.le_trans (Ext.size X6.out) (Ext.size (by (focus (repeat (first | (with_reducible exact Ext.refl _) | (with_reducible apply Ext.drew) | (with_reducible apply Ext.drewN) | (with_reducible apply Ext.alloc))))))) ?_
                intro v7 w7 hown hgr hat
                have X7 : Hid (Ext W7 w7) := Lib.hid (Ext.grown (Ext.trans X6.out (by (focus (repeat (first | (with_reducible exact Ext.refl _) | (with_reducible apply Ext.drew) | (with_reducible apply Ext.drewN) | (with_reducible apply Ext.alloc)))))) hgr fun g hg => (HO6.out.lt g hg).1)
                have HO7 : Hid (w7.ownsRow W7.heap.size 41 2 v7 (d + 1) ((NL1 ++ [E1]).map Nm.cs).flatten) := Lib.hid (by rw [List.map_append]; exact hown)
                clear hown hgr hat
                have HP := Lib.hid (HN.out _ _ X7.out HO7.out)
                obtain ⟨p0, p1⟩ := Hz.out _ X7.out
                obtain ⟨a8, c8, e8, _⟩ := own_slice HO7.out
                subst e8
                refine hK.out _ _ (fun _ => ⟨Ext.cell (Ext.trans X7.out (by (focus (repeat (first | (with_reducible exact Ext.refl _) | (with_reducible apply Ext.drew) | (with_reducible apply Ext.drewN) | (with_reducible apply Ext.alloc)))))) q0_1, Ext.cell (Ext.trans X7.out (by (focus (repeat (first | (with_reducible exact Ext.refl _) | (with_reducible apply Ext.drew) | (with_reducible apply Ext.drewN) | (with_reducible apply Ext.alloc)))))) q0_2, Ext.cell (Ext.trans X7.out (by (focus (repeat (first | (with_reducible exact Ext.refl _) | (with_reducible apply Ext.drew) | (with_reducible apply Ext.drewN) | (with_reducible apply Ext.alloc)))))) q0_3⟩) ?_
                clear hK K; try simp only [Act.put, List.getElem_toArray, List.getElem_cons_zero, List.getElem_cons_succ, List.setIfInBounds_toArray, List.set_cons_zero, List.set_cons_succ]
                refine anyL_ready (rs := [16]) (by kernel_rfl) (by simp) ?_
                refine AllL.cons rfl (fun K hK => ?_) AllL.nil
                go_simp
                refine hK.out _ _ (fun _ => ⟨Ext.cell (Ext.trans X7.out (by (focus (repeat (first | (with_reducible exact Ext.refl _) | (with_reducible apply Ext.drew) | (with_reducible apply Ext.drewN) | (with_reducible apply Ext.alloc)))))) q0_1, Ext.cell (Ext.trans X7.out (by (focus (repeat (first | (with_reducible exact Ext.refl _) | (with_reducible apply Ext.drew) | (with_reducible apply Ext.drewN) | (with_reducible apply Ext.alloc)))))) q0_2, Ext.cell (Ext.trans X7.out (by (focus (repeat (first | (with_reducible exact Ext.refl _) | (with_reducible apply Ext.drew) | (with_reducible apply Ext.drewN) | (with_reducible apply Ext.alloc)))))) q0_3⟩) ?_
                clear hK K; try simp only [Act.put, List.getElem_toArray, List.getElem_cons_zero, List.getElem_cons_succ, List.setIfInBounds_toArray, List.set_cons_zero, List.set_cons_succ]
                refine anyL_ready (rs := [17]) (by kernel_rfl) (by simp) ?_
                refine AllL.cons rfl (fun K hK => ?_) AllL.nil
                go_simp
                refine hK.out _ _ (fun _ => ⟨Ext.cell (Ext.trans X7.out (by (focus (repeat (first | (with_reducible exact Ext.refl _) | (with_reducible apply Ext.drew) | (with_reducible apply Ext.drewN) | (with_reducible apply Ext.alloc)))))) q0_1, Ext.cell (Ext.trans X7.out (by (focus (repeat (first | (with_reducible exact Ext.refl _) | (with_reducible apply Ext.drew) | (with_reducible apply Ext.drewN) | (with_reducible apply Ext.alloc)))))) q0_2, Ext.cell (Ext.trans X7.out (by (focus (repeat (first | (with_reducible exact Ext.refl _) | (with_reducible apply Ext.drew) | (with_reducible apply Ext.drewN) | (with_reducible apply Ext.alloc)))))) q0_3⟩) ?_
                clear hK K; try simp only [Act.put, List.getElem_toArray, List.getElem_cons_zero, List.getElem_cons_succ, List.setIfInBounds_toArray, List.set_cons_zero, List.set_cons_succ]
                refine anyL_ready (rs := [18]) (by kernel_rfl) (by simp) ?_
                refine AllL.cons rfl (fun K hK => ?_) AllL.nil
                go_simp
                refine hK.out _ _ (fun h => absurd rfl h) ?_
                clear hK K; try simp only [Act.put, List.getElem_toArray, List.getElem_cons_zero, List.getElem_cons_succ, List.setIfInBounds_toArray, List.set_cons_zero, List.set_cons_succ]
                refine anyL_done (by kernel_rfl) ?_ _
                go_wp2_with fail
                go_meet
                case rel => exact HP.out
            · have m1 : ¬ (1 : Int) < un := by omega
              clear h1
              go_wp2_with fail
              go_meet
              case rel => exact HS.out.same
          · as_aux_lemma =>
            by_cases h1 : 0 < vn
            · have m1 : (0 : Int) < vn := by omega
              have m1n : 0 < vn := h1
              have hown := HRow.out.v n Hn.out.2
              rw [HV.out] at hown
              obtain ⟨gp, cap, e, -, -⟩ := hown.form (by have := Hvn.out; rw [← HLp.out]; omega)
              rw [← HLp.out, ← Hvn.out] at e
              cases e
              have h0 : L.past ≠ [] := fun e => by have h2 := Hvn.out; rw [e] at h2; simp at h2; omega
              rw [← HLp.out] at hown
              have p0 := ps_cell hown h0
              have z1 := cells_fz hown 2
              have HN := Lib.hid (show PostS W2 gb f (.bool true) (W7.setCell ⟨gp, 2, none⟩ (.bool (!(qi L.past 0).f))) from HS.out.putP Hn.out.1 Hn.out.2 HV.out (by rw [← HLp.out]; exact Hvn.out) (by rw [← HLp.out]; exact h0) (by rw [← HLp.out]))
              obtain ⟨B, hB⟩ : ∃ B, B = (qi L.past 0).f := ⟨_, rfl⟩
              rw [← hB] at p0 HN
              clear h1 h0 hown hB
              go_upto_region 28 with fail
              go_region
              all_goals go_wp2_with fail
              all_goals go_meet
              all_goals exact PostS.ext HN.out (by (focus (repeat (first | (with_reducible exact Ext.refl _) | (with_reducible apply Ext.drew) | (with_reducible apply Ext.drewN) | (with_reducible apply Ext.alloc)))))
            · have m1 : ¬ (0 : Int) < vn := by omega
              have m2 : ¬ 0 < vn := h1
              clear h1
              go_wp2_with fail
              go_meet
              case rel => exact HS.out.same
          · as_aux_lemma =>
            obtain ⟨q0, q1, q2, q3⟩ := B4.cells HS.out.b
            by_cases h1 : 1 < ln
            · have m1 : (1 : Int) < ln := by omega
              have m2 : (0 : Int) < ln := by omega
              obtain ⟨g, cap, e, -, -⟩ := HS.out.rh.form (by omega)
              cases e
              obtain ⟨b1, o1, e, hA0⟩ := own_at2 HS.out.rh HL.out.2.1 (i := 0) (by omega)
              cases e
              obtain ⟨b2, o2, e, hA1⟩ := own_at2 HS.out.rh HL.out.2.1 (i := 1) (by omega)
              cases e
              obtain ⟨X, hX⟩ : ∃ X, X = ni f.held 0 := ⟨_, rfl⟩
              obtain ⟨Y, hY⟩ : ∃ Y, Y = ni f.held 1 := ⟨_, rfl⟩
              rw [← hX] at hA0
              rw [← hY] at hA1
              obtain ⟨p0, p1⟩ := hA0
              obtain ⟨p2, p3⟩ := hA1
              simp only [Nat.zero_add, Nat.zero_mul, Nat.one_mul, Nat.add_zero] at p0 p1 p2 p3
              have z0 := cells_fz HS.out.rh 0; have z1 := cells_fz HS.out.rh 1; have z2 := cells_fz HS.out.rh 2; have z3 := cells_fz HS.out.rh 3
              have HN := Lib.hid (HS.out.swap HO.out HA7.out h1 hX hY)
              obtain ⟨WA, hWA⟩ : ∃ WA, WA = (((W7.setCell ⟨g, 0, none⟩ (.int .u8 Y.y)).setCell ⟨g, 1, none⟩ (.int .i64 Y.n)).setCell ⟨g, 2, none⟩ (.int .u8 X.y)).setCell ⟨g, 3, none⟩ (.int .i64 X.n) := ⟨_, rfl⟩
              clear hX hY h1 hWA c0 c1 c2 c3
              go_upto_region 32 with fail
              go_region
              all_goals go_wp2_with fail
              all_goals go_meet
              all_goals exact PostS.ext HN.out (by (focus (repeat (first | (with_reducible exact Ext.refl _) | (with_reducible apply Ext.drew) | (with_reducible apply Ext.drewN) | (with_reducible apply Ext.alloc)))))
            · have m1 : ¬ (1 : Int) < ln := by omega
              clear h1
              go_wp2_with fail
              go_meet
              case rel => exact HS.out.same
          · as_aux_lemma =>
            obtain ⟨q0, q1, q2, q3⟩ := B4.cells HS.out.b
            by_cases h1 : 0 < kn
            · have m1 : (0 : Int) < kn := by omega
              have m1n : 0 < kn := h1
              obtain ⟨g, cap, e, -, -⟩ := HS.out.rc.form (by omega)
              cases e
              have h0 : f.cr ≠ [] := fun e => by have h2 := HL.out.1; rw [e] at h2; simp at h2; omega
              have p0 := xs_cell HS.out.rc h0
              have z0 := cells_fz HS.out.rc 4
              have hc := Hcr.out _ (xi_mem (l := f.cr) (i := 0) (List.length_pos_iff.2 h0))
              obtain ⟨V, hV⟩ : ∃ V, V = (xi f.cr 0).n := ⟨_, rfl⟩
              have HN := Lib.hid (show PostS W2 gb f (.bool true) (W7.setCell ⟨g, 4, none⟩ (.int .i64 (V * 2))) from HS.out.cross HO.out HA7.out h1 (by rw [hV]))
              rw [← hV] at p0 hc
              have m2 : IntKind.i64.wrap (V * 2) = V * 2 := IntWalk.i64_in _ ⟨by omega, by omega⟩
              clear hV hc h0 h1 c0 c1 c2 c3
              go_wp2_with fail
              go_meet
              case rel => exact HN.out
            · have m1 : ¬ (0 : Int) < kn := by omega
              have m2 : ¬ 0 < kn := h1
              clear h1
              go_wp2_with fail
              go_meet
              case rel => exact HS.out.same
          · as_aux_lemma =>
            obtain ⟨q0, q1, q2, q3⟩ := B4.cells HS.out.b
            by_cases h1 : 0 < ln
            · clear q0 q1 q3
              have m1 : (0 : Int) < ln := by omega
              have m1n : 0 < ln := h1
              obtain ⟨g, cap, e, -, -⟩ := HS.out.rh.form (by omega)
              cases e
              have hln := HL.out.2.1
              have hlc := Hllc.out
              obtain ⟨E1, hE1⟩ : ∃ E1, E1 = ni f.held 0 := ⟨_, rfl⟩
              obtain ⟨b1, o1, e, hA0⟩ := own_at2 HS.out.rh hln (i := 0) (by omega)
              cases e
              rw [← hE1] at hA0
              obtain ⟨p0, p1⟩ := hA0
              simp only [Nat.zero_add, Nat.zero_mul, Nat.add_zero] at p0 p1
              obtain ⟨NL1, hNL1⟩ : ∃ NL1, NL1 = f.fallen := ⟨_, rfl⟩
              obtain ⟨d, hd⟩ : ∃ d, d = NL1.length := ⟨_, rfl⟩
              have HTk := Lib.hid (show ∀ w', Ext W7 w' → CK 2 w' (.slice fa fn fc) fc (NL1.map Nm.cs) from fun w' x' => by
                rw [hNL1]
                exact (own_ck HS.out.rf HL.out.2.2).ext x')
              have Hd := Lib.hid (show d = NL1.length ∧ d ≤ 90 from ⟨hd, by have h2 := HS.out.bd; have h3 := HL.out.2.2; rw [hd, hNL1]; omega⟩)
              have HN := Lib.hid (show ∀ (w8 : World) (r : List Nm) (fb : Option Addr) (fm fd : Nat) (la' : Option Addr) (lc' : Nat), Ext W7 w8 → r.Perm (NL1 ++ [E1]) → w8.ownsRow W7.heap.size 41 2 (.slice fb fm fd) r.length (r.map Nm.cs).flatten → (∀ W : World, W.ownsRow w1.heap.size 41 2 (.slice (some ⟨g, 0, none⟩) ln lc) ln (f.held.map Nm.cs).flatten → NL W (.slice la' (ln - 1) lc') lc' (f.held.drop 1)) → PostS W2 gb f (.bool true) ((w8.setCell ⟨gb, 3, none⟩ (.slice fb fm fd)).setCell ⟨gb, 2, none⟩ (.slice la' (ln - 1) lc')) from fun w8 r fb fm fd la' lc' x8 hp hr hd =>
                HS.out.fall HO.out HA7.out h1 x8 (by rw [← hNL1, ← hE1]; exact hp) hr (fun W _ ho => hd W ho))
              have HD1 := Lib.hid (show lc = 1 → ln = 1 ∧ ∀ W : World, W.ownsRow w1.heap.size 41 2 (.slice (some ⟨g, 0, none⟩) ln lc) ln (f.held.map Nm.cs).flatten → NL W (.slice (some ⟨g, 0, none⟩) (ln - 1) 0) 0 (f.held.drop 1) from fun e => ⟨by omega, fun W _ => by
                have h2 : f.held.drop 1 = [] := List.eq_nil_of_length_eq_zero (by rw [List.length_drop]; omega)
                rw [h2, show ln - 1 = 0 by omega]
                exact CK.nil' 2 W _⟩)
              have HD2 := Lib.hid (show ∀ W : World, W.ownsRow w1.heap.size 41 2 (.slice (some ⟨g, 0, none⟩) ln lc) ln (f.held.map Nm.cs).flatten → NL W (.slice (some ⟨g, 2, none⟩) (ln - 1) (lc - 1)) (lc - 1) (f.held.drop 1) from fun W ho => by
                have h1 := CK.drop (own_ck ho hln) (l := 1) (by rw [List.length_map]; omega)
                rw [List.length_map, ← hln, ← List.map_drop, Nat.zero_add, Nat.one_mul] at h1
                exact h1)
              have hq := HS.out.b
              obtain ⟨b0, b1, b2, b3⟩ := B4.cells hq
              have Hlc := Lib.hid (And.intro hlc m1n)
              clear hd hNL1 hE1 h1 hln hlc hq
              have q0_1 := b3; have q0_2 := b2; have q0_3 := p0; have q0_4 := p1
              go_upto_region 15 with fail
              refine region_L (L := 12) (S := fun w' => w'.cell? ⟨gb, 3, Option.none⟩ = some (.slice fa fn fc) ∧ w'.cell? ⟨gb, 2, Option.none⟩ = some (.slice (some ⟨g, 0, none⟩) ln lc) ∧ w'.cell? ⟨g, 0, Option.none⟩ = some (.int .u8 E1.y) ∧ w'.cell? ⟨g, 1, Option.none⟩ = some (.int .i64 E1.n)) (by kernel_rfl) ?_ (fun hHeld => ?_)
              · exact ⟨q0_1, q0_2, q0_3, q0_4⟩
              refine anyL_take (i := 1) (v := ?va832_1) rfl (by kernel_rfl) (by kernel_rfl) (by kernel_rfl) (by kernel_rfl) (fun _ _ _ h => h) (Or.inl ⟨by rfl, fun w hSw => ?ti832_1⟩) (by assumption) ?rest832_1
              case ti832_1 => ((try dsimp only at hSw); go_simp; (first | done | with_reducible rfl))
              try simp only [Act.put, List.getElem_toArray, List.getElem_cons_zero, List.getElem_cons_succ, List.setIfInBounds_toArray, List.set_cons_zero, List.set_cons_succ]
              refine anyL_take (i := 2) (v := ?va835_2) rfl (by kernel_rfl) (by kernel_rfl) (by kernel_rfl) (by kernel_rfl) (fun _ _ _ h => h) (Or.inl ⟨by rfl, fun w hSw => ?ti835_2⟩) (by assumption) ?rest835_2
              case ti835_2 => ((try dsimp only at hSw); go_simp; (first | done | with_reducible rfl))
              try simp only [Act.put, List.getElem_toArray, List.getElem_cons_zero, List.getElem_cons_succ, List.setIfInBounds_toArray, List.set_cons_zero, List.set_cons_succ]
              refine anyL_take (i := 4) (v := ?va838_4) rfl (by kernel_rfl) (by kernel_rfl) (by kernel_rfl) (by kernel_rfl) (fun _ _ _ h => h) (Or.inl ⟨by rfl, fun w hSw => ?ti838_4⟩) (by assumption) ?rest838_4
              case ti838_4 => ((try dsimp only at hSw); go_simp; (first | done | with_reducible rfl))
              try simp only [Act.put, List.getElem_toArray, List.getElem_cons_zero, List.getElem_cons_succ, List.setIfInBounds_toArray, List.set_cons_zero, List.set_cons_succ]
              refine anyL_take (i := 5) (v := ?va841_5) rfl (by kernel_rfl) (by kernel_rfl) (by kernel_rfl) (by kernel_rfl) (fun _ _ _ h => h) (Or.inl ⟨by rfl, fun w hSw => ?ti841_5⟩) (by assumption) ?rest841_5
              case ti841_5 => ((try dsimp only at hSw); go_simp; (first | done | with_reducible rfl))
              try simp only [Act.put, List.getElem_toArray, List.getElem_cons_zero, List.getElem_cons_succ, List.setIfInBounds_toArray, List.set_cons_zero, List.set_cons_succ]
              refine anyL_take (i := 6) (v := ?va844_6) rfl (by kernel_rfl) (by kernel_rfl) (by kernel_rfl) (by kernel_rfl) (fun _ _ _ h => h) (Or.inl ⟨by rfl, fun w hSw => ?ti844_6⟩) (by assumption) ?rest844_6
              case ti844_6 => ((try dsimp only at hSw); go_simp; (first | done | with_reducible rfl))
              try simp only [Act.put, List.getElem_toArray, List.getElem_cons_zero, List.getElem_cons_succ, List.setIfInBounds_toArray, List.set_cons_zero, List.set_cons_succ]
              refine anyL_take (i := 7) (v := ?va847_7) rfl (by kernel_rfl) (by kernel_rfl) (by kernel_rfl) (by kernel_rfl) (fun _ _ _ h => h) (Or.inl ⟨by rfl, fun w hSw => ?ti847_7⟩) (by assumption) ?rest847_7
              case ti847_7 => ((try dsimp only at hSw); go_simp; (first | done | with_reducible rfl))
              try simp only [Act.put, List.getElem_toArray, List.getElem_cons_zero, List.getElem_cons_succ, List.setIfInBounds_toArray, List.set_cons_zero, List.set_cons_succ]
              refine anyL_ready (rs := [0, 8]) (by kernel_rfl) (by simp) ?_
              refine AllL.cons rfl (fun K hK => ?_) (AllL.cons rfl (fun K hK => ?_) AllL.nil)
              · as_aux_lemma =>
                go_simp
                refine hK.out _ _ (fun _ => ⟨Ext.cell (by (focus (repeat (first | (with_reducible exact Ext.refl _) | (with_reducible apply Ext.drew) | (with_reducible apply Ext.drewN) | (with_reducible apply Ext.alloc))))) q0_1, Ext.cell (by (focus (repeat (first | (with_reducible exact Ext.refl _) | (with_reducible apply Ext.drew) | (with_reducible apply Ext.drewN) | (with_reducible apply Ext.alloc))))) q0_2, Ext.cell (by (focus (repeat (first | (with_reducible exact Ext.refl _) | (with_reducible apply Ext.drew) | (with_reducible apply Ext.drewN) | (with_reducible apply Ext.alloc))))) q0_3, Ext.cell (by (focus (repeat (first | (with_reducible exact Ext.refl _) | (with_reducible apply Ext.drew) | (with_reducible apply Ext.drewN) | (with_reducible apply Ext.alloc))))) q0_4⟩) ?_
                clear hK K; try simp only [Act.put, List.getElem_toArray, List.getElem_cons_zero, List.getElem_cons_succ, List.setIfInBounds_toArray, List.set_cons_zero, List.set_cons_succ]
                refine anyL_ready (rs := [3, 8]) (by kernel_rfl) (by simp) ?_
                refine AllL.cons rfl (fun K hK => ?_) (AllL.cons rfl (fun K hK => ?_) AllL.nil)
                · as_aux_lemma =>
                  have HOL := Lib.hid (own_lit W7 W7.heap.size (Nat.le_refl _) 41 2)
                  refine step_app ekN (by rfl) _ _ (by rfl) W7.heap.size _ 0 [] (by rfl) (own_extk HOL.out (by (focus (repeat (first | (with_reducible exact Ext.refl _) | (with_reducible apply Ext.drew) | (with_reducible apply Ext.drewN) | (with_reducible apply Ext.alloc)))))) _ fc (NL1.map Nm.cs) (by rfl) (HTk.out _ (by (focus (repeat (first | (with_reducible exact Ext.refl _) | (with_reducible apply Ext.drew) | (with_reducible apply Ext.drewN) | (with_reducible apply Ext.alloc)))))) (Ks.nm _) (by have := Hd.out; simp; omega) (by have := Hd.out; simp; omega) (Ext.size (by (focus (repeat (first | (with_reducible exact Ext.refl _) | (with_reducible apply Ext.drew) | (with_reducible apply Ext.drewN) | (with_reducible apply Ext.alloc)))))) ?_
                  intro v6 w6 hown hgr hat
                  have hown' : w6.ownsRow W7.heap.size 41 2 v6 d (NL1.map Nm.cs).flatten := by rw [List.nil_append, List.length_map, Nat.zero_add, ← Hd.out.1] at hown; exact hown
                  have X6 : Hid (Ext W7 w6) := Lib.hid (Ext.grown (by (focus (repeat (first | (with_reducible exact Ext.refl _) | (with_reducible apply Ext.drew) | (with_reducible apply Ext.drewN) | (with_reducible apply Ext.alloc))))) hgr fun g hg => by cases hg; (first | exact Nat.le_refl _ | exact Nat.le_succ _))
                  have HO6 := Lib.hid hown'
                  clear hown hgr hat hown' HOL
                  refine hK.out _ _ (fun _ => ⟨Ext.cell (Ext.trans X6.out (by (focus (repeat (first | (with_reducible exact Ext.refl _) | (with_reducible apply Ext.drew) | (with_reducible apply Ext.drewN) | (with_reducible apply Ext.alloc)))))) q0_1, Ext.cell (Ext.trans X6.out (by (focus (repeat (first | (with_reducible exact Ext.refl _) | (with_reducible apply Ext.drew) | (with_reducible apply Ext.drewN) | (with_reducible apply Ext.alloc)))))) q0_2, Ext.cell (Ext.trans X6.out (by (focus (repeat (first | (with_reducible exact Ext.refl _) | (with_reducible apply Ext.drew) | (with_reducible apply Ext.drewN) | (with_reducible apply Ext.alloc)))))) q0_3, Ext.cell (Ext.trans X6.out (by (focus (repeat (first | (with_reducible exact Ext.refl _) | (with_reducible apply Ext.drew) | (with_reducible apply Ext.drewN) | (with_reducible apply Ext.alloc)))))) q0_4⟩) ?_
                  clear hK K; try simp only [Act.put, List.getElem_toArray, List.getElem_cons_zero, List.getElem_cons_succ, List.setIfInBounds_toArray, List.set_cons_zero, List.set_cons_succ]
                  refine anyL_ready (rs := [8]) (by kernel_rfl) (by simp) ?_
                  refine AllL.cons rfl (fun K hK => ?_) AllL.nil
                  go_simp
                  refine hK.out _ _ (fun _ => ⟨Ext.cell (Ext.trans X6.out (by (focus (repeat (first | (with_reducible exact Ext.refl _) | (with_reducible apply Ext.drew) | (with_reducible apply Ext.drewN) | (with_reducible apply Ext.alloc)))))) q0_1, Ext.cell (Ext.trans X6.out (by (focus (repeat (first | (with_reducible exact Ext.refl _) | (with_reducible apply Ext.drew) | (with_reducible apply Ext.drewN) | (with_reducible apply Ext.alloc)))))) q0_2, Ext.cell (Ext.trans X6.out (by (focus (repeat (first | (with_reducible exact Ext.refl _) | (with_reducible apply Ext.drew) | (with_reducible apply Ext.drewN) | (with_reducible apply Ext.alloc)))))) q0_3, Ext.cell (Ext.trans X6.out (by (focus (repeat (first | (with_reducible exact Ext.refl _) | (with_reducible apply Ext.drew) | (with_reducible apply Ext.drewN) | (with_reducible apply Ext.alloc)))))) q0_4⟩) ?_
                  clear hK K; try simp only [Act.put, List.getElem_toArray, List.getElem_cons_zero, List.getElem_cons_succ, List.setIfInBounds_toArray, List.set_cons_zero, List.set_cons_succ]
                  refine anyL_ready (rs := [9]) (by kernel_rfl) (by simp) ?_
                  refine AllL.cons rfl (fun K hK => ?_) AllL.nil
                  refine step_app ekN (by rfl) _ _ (by rfl) W7.heap.size _ d (NL1.map Nm.cs) (by rfl) (own_extk HO6.out (by (focus (repeat (first | (with_reducible exact Ext.refl _) | (with_reducible apply Ext.drew) | (with_reducible apply Ext.drewN) | (with_reducible apply Ext.alloc)))))) _ 1 [Nm.cs E1] (by rfl) (CK.ext (CK.of_blk (Deep.blk_alloc_new w6 _) (Ks.nm [E1]) rfl (Nat.le_refl _) (by omega) rfl) (by (focus (repeat (first | (with_reducible exact Ext.refl _) | (with_reducible apply Ext.drew) | (with_reducible apply Ext.drewN) | (with_reducible apply Ext.alloc)))))) (Ks.nm [E1]) (by have := Hd.out; simp; omega) (by have := Hd.out; simp; omega) (Nat.le_trans (Ext.size X6.out) (Ext.size (by (focus (repeat (first | (with_reducible exact Ext.refl _) | (with_reducible apply Ext.drew) | (with_reducible apply Ext.drewN) | (with_reducible apply Ext.alloc))))))) ?_
                  intro v7 w7 hown hgr hat
                  have X7 : Hid (Ext W7 w7) := Lib.hid (Ext.grown (Ext.trans X6.out (by (focus (repeat (first | (with_reducible exact Ext.refl _) | (with_reducible apply Ext.drew) | (with_reducible apply Ext.drewN) | (with_reducible apply Ext.alloc)))))) hgr fun g hg => (HO6.out.lt g hg).1)
                  have HO7 : Hid (w7.ownsRow W7.heap.size 41 2 v7 (d + 1) ((NL1 ++ [E1]).map Nm.cs).flatten) := Lib.hid (by rw [List.map_append]; exact hown)
                  clear hown hgr hat
                  refine hK.out _ _ (fun _ => ⟨Ext.cell (Ext.trans X7.out (by (focus (repeat (first | (with_reducible exact Ext.refl _) | (with_reducible apply Ext.drew) | (with_reducible apply Ext.drewN) | (with_reducible apply Ext.alloc)))))) q0_1, Ext.cell (Ext.trans X7.out (by (focus (repeat (first | (with_reducible exact Ext.refl _) | (with_reducible apply Ext.drew) | (with_reducible apply Ext.drewN) | (with_reducible apply Ext.alloc)))))) q0_2, Ext.cell (Ext.trans X7.out (by (focus (repeat (first | (with_reducible exact Ext.refl _) | (with_reducible apply Ext.drew) | (with_reducible apply Ext.drewN) | (with_reducible apply Ext.alloc)))))) q0_3, Ext.cell (Ext.trans X7.out (by (focus (repeat (first | (with_reducible exact Ext.refl _) | (with_reducible apply Ext.drew) | (with_reducible apply Ext.drewN) | (with_reducible apply Ext.alloc)))))) q0_4⟩) ?_
                  clear hK K; try simp only [Act.put, List.getElem_toArray, List.getElem_cons_zero, List.getElem_cons_succ, List.setIfInBounds_toArray, List.set_cons_zero, List.set_cons_succ]
                  refine anyL_ready (rs := [10]) (by kernel_rfl) (by simp) ?_
                  refine AllL.cons rfl (fun K hK => ?_) AllL.nil
                  go_simp
                  obtain ⟨c7, hn7⟩ := own_nl HO7.out (by rw [List.length_append, List.length_singleton, Hd.out.1])
                  refine (Sorted_calls v7 c7 (NL1 ++ [E1]) w7 hn7 (by rw [List.length_append, List.length_singleton]; have := Hd.out; omega)).mono ?_
                  intro e w8 hh
                  obtain ⟨v8, r, rfl, hp, -, hown8, x8⟩ := hh
                  have X8 : Hid (Ext W7 w8) := Lib.hid (X7.out.trans x8)
                  obtain ⟨fb, fd, e8, _⟩ := own_slice hown8
                  obtain ⟨fm, hfm⟩ : ∃ fm, fm = r.length := ⟨_, rfl⟩
                  subst e8
                  have hown9 := own_mono hown8 X7.out.size
                  have HNr := Lib.hid (show ∀ (la' : Option Addr) (lc' : Nat), (∀ W : World, W.ownsRow w1.heap.size 41 2 (.slice (some ⟨g, 0, none⟩) ln lc) ln (f.held.map Nm.cs).flatten → NL W (.slice la' (ln - 1) lc') lc' (f.held.drop 1)) → PostS W2 gb f (.bool true) ((w8.setCell ⟨gb, 3, none⟩ (.slice fb fm fd)).setCell ⟨gb, 2, none⟩ (.slice la' (ln - 1) lc')) from fun la' lc' hh => HN.out w8 r fb fm fd la' lc' X8.out hp (by rw [hfm]; exact hown9) hh)
                  have hb8 := HS.out.b.ext X8.out
                  have p0 := hb8.c3; have p1 := hb8.fr 3
                  have hb3 := hb8.put3 (.slice fb fm fd)
                  have p2 := hb3.c2; have p3 := hb3.fr 2
                  rw [← hfm]
                  clear hn7 hp hown8 hown9 hfm x8 hb8 hb3
                  go_simp
                  refine hK.out _ _ (fun _ => ⟨Ext.cell (Ext.trans X8.out (by (focus (repeat (first | (with_reducible exact Ext.refl _) | (with_reducible apply Ext.drew) | (with_reducible apply Ext.drewN) | (with_reducible apply Ext.alloc)))))) q0_1, Ext.cell (Ext.trans X8.out (by (focus (repeat (first | (with_reducible exact Ext.refl _) | (with_reducible apply Ext.drew) | (with_reducible apply Ext.drewN) | (with_reducible apply Ext.alloc)))))) q0_2, Ext.cell (Ext.trans X8.out (by (focus (repeat (first | (with_reducible exact Ext.refl _) | (with_reducible apply Ext.drew) | (with_reducible apply Ext.drewN) | (with_reducible apply Ext.alloc)))))) q0_3, Ext.cell (Ext.trans X8.out (by (focus (repeat (first | (with_reducible exact Ext.refl _) | (with_reducible apply Ext.drew) | (with_reducible apply Ext.drewN) | (with_reducible apply Ext.alloc)))))) q0_4⟩) ?_
                  clear hK K; try simp only [Act.put, List.getElem_toArray, List.getElem_cons_zero, List.getElem_cons_succ, List.setIfInBounds_toArray, List.set_cons_zero, List.set_cons_succ]
                  refine anyL_ready (rs := [11]) (by kernel_rfl) (by simp) ?_
                  refine AllL.cons rfl (fun K hK => ?_) AllL.nil
                  go_simp
                  refine hK.out _ _ (fun _ => ⟨Ext.cell (Ext.trans X8.out (by (focus (repeat (first | (with_reducible exact Ext.refl _) | (with_reducible apply Ext.drew) | (with_reducible apply Ext.drewN) | (with_reducible apply Ext.alloc)))))) q0_1, Ext.cell (Ext.trans X8.out (by (focus (repeat (first | (with_reducible exact Ext.refl _) | (with_reducible apply Ext.drew) | (with_reducible apply Ext.drewN) | (with_reducible apply Ext.alloc)))))) q0_2, Ext.cell (Ext.trans X8.out (by (focus (repeat (first | (with_reducible exact Ext.refl _) | (with_reducible apply Ext.drew) | (with_reducible apply Ext.drewN) | (with_reducible apply Ext.alloc)))))) q0_3, Ext.cell (Ext.trans X8.out (by (focus (repeat (first | (with_reducible exact Ext.refl _) | (with_reducible apply Ext.drew) | (with_reducible apply Ext.drewN) | (with_reducible apply Ext.alloc)))))) q0_4⟩) ?_
                  clear hK K; try simp only [Act.put, List.getElem_toArray, List.getElem_cons_zero, List.getElem_cons_succ, List.setIfInBounds_toArray, List.set_cons_zero, List.set_cons_succ]
                  refine anyL_ready (rs := [12]) (by kernel_rfl) (by simp) ?_
                  refine AllL.cons rfl (fun K hK => ?_) AllL.nil
                  go_simp
                  refine hK.out _ _ (fun h => absurd rfl h) ?_
                  clear hK K; try simp only [Act.put, List.getElem_toArray, List.getElem_cons_zero, List.getElem_cons_succ, List.setIfInBounds_toArray, List.set_cons_zero, List.set_cons_succ]
                  refine anyL_done (by kernel_rfl) ?_ _
                  by_cases hlc1 : lc = 1
                  · obtain ⟨hln1, hN1⟩ := HD1.out hlc1
                    have HP := Lib.hid (show PostS W2 gb f (.bool true) ((w8.setCell ⟨gb, 3, none⟩ (.slice fb fm fd)).setCell ⟨gb, 2, none⟩ (.slice (some ⟨g, 0, none⟩) 0 0)) from by have h1 := HNr.out _ _ hN1; rw [show ln - 1 = 0 by omega] at h1; exact h1)
                    have m2 : (1 : Int) ≤ ln := by omega
                    have m3 : (ln : Int) ≤ lc := by omega
                    have m4 : (1 : Int) ≤ lc := by omega
                    clear hN1
                    go_wp2_with fail
                    go_meet
                    case rel => exact HP.out
                  · have HP := Lib.hid (HNr.out _ _ HD2.out)
                    obtain ⟨hl1, hl2⟩ := Hlc.out
                    have m2 : (1 : Int) ≤ ln := by omega
                    have m3 : (ln : Int) ≤ lc := by omega
                    have m4 : (1 : Int) ≤ lc := by omega
                    have m6b : ¬ 1 = lc := fun e => hlc1 e.symm
                    clear hl1 hl2
                    go_wp2_with fail
                    go_meet
                    case rel => exact HP.out
                · as_aux_lemma =>
                  go_simp
                  refine hK.out _ _ (fun _ => ⟨Ext.cell (by (focus (repeat (first | (with_reducible exact Ext.refl _) | (with_reducible apply Ext.drew) | (with_reducible apply Ext.drewN) | (with_reducible apply Ext.alloc))))) q0_1, Ext.cell (by (focus (repeat (first | (with_reducible exact Ext.refl _) | (with_reducible apply Ext.drew) | (with_reducible apply Ext.drewN) | (with_reducible apply Ext.alloc))))) q0_2, Ext.cell (by (focus (repeat (first | (with_reducible exact Ext.refl _) | (with_reducible apply Ext.drew) | (with_reducible apply Ext.drewN) | (with_reducible apply Ext.alloc))))) q0_3, Ext.cell (by (focus (repeat (first | (with_reducible exact Ext.refl _) | (with_reducible apply Ext.drew) | (with_reducible apply Ext.drewN) | (with_reducible apply Ext.alloc))))) q0_4⟩) ?_
                  clear hK K; try simp only [Act.put, List.getElem_toArray, List.getElem_cons_zero, List.getElem_cons_succ, List.setIfInBounds_toArray, List.set_cons_zero, List.set_cons_succ]
                  refine anyL_ready (rs := [3]) (by kernel_rfl) (by simp) ?_
                  refine AllL.cons rfl (fun K hK => ?_) AllL.nil
                  have HOL := Lib.hid (own_lit W7 W7.heap.size (Nat.le_refl _) 41 2)
                  refine step_app ekN (by rfl) _ _ (by rfl) W7.heap.size _ 0 [] (by rfl) (own_extk HOL.out (by (focus (repeat (first | (with_reducible exact Ext.refl _) | (with_reducible apply Ext.drew) | (with_reducible apply Ext.drewN) | (with_reducible apply Ext.alloc)))))) _ fc (NL1.map Nm.cs) (by rfl) (HTk.out _ (by (focus (repeat (first | (with_reducible exact Ext.refl _) | (with_reducible apply Ext.drew) | (with_reducible apply Ext.drewN) | (with_reducible apply Ext.alloc)))))) (Ks.nm _) (by have := Hd.out; simp; omega) (by have := Hd.out; simp; omega) (Ext.size (by (focus (repeat (first | (with_reducible exact Ext.refl _) | (with_reducible apply Ext.drew) | (with_reducible apply Ext.drewN) | (with_reducible apply Ext.alloc)))))) ?_
                  intro v6 w6 hown hgr hat
                  have hown' : w6.ownsRow W7.heap.size 41 2 v6 d (NL1.map Nm.cs).flatten := by rw [List.nil_append, List.length_map, Nat.zero_add, ← Hd.out.1] at hown; exact hown
                  have X6 : Hid (Ext W7 w6) := Lib.hid (Ext.grown (by (focus (repeat (first | (with_reducible exact Ext.refl _) | (with_reducible apply Ext.drew) | (with_reducible apply Ext.drewN) | (with_reducible apply Ext.alloc))))) hgr fun g hg => by cases hg; (first | exact Nat.le_refl _ | exact Nat.le_succ _))
                  have HO6 := Lib.hid hown'
                  have HL6 : Hid (BN w6 (W7.heap.size + 1) E1) := Lib.hid (by
                    refine BN.grown ?_ hgr (fun e => by have h1 : W7.heap.size = W7.heap.size + 1 := Option.some.inj e; omega)
                    exact BN.ext (show BN ((W7.alloc (Obj.cells #[] 41)).alloc (Obj.cells #[.int .u8 E1.y, .int .i64 E1.n] 41)) (W7.heap.size + 1) E1 by have h1 := BN.new (W7.alloc (Obj.cells #[] 41)) E1; simpa using h1) (by (focus (repeat (first | (with_reducible exact Ext.refl _) | (with_reducible apply Ext.drew) | (with_reducible apply Ext.drewN) | (with_reducible apply Ext.alloc))))))
                  clear hown hgr hat hown' HOL
                  refine hK.out _ _ (fun _ => ⟨Ext.cell (Ext.trans X6.out (by (focus (repeat (first | (with_reducible exact Ext.refl _) | (with_reducible apply Ext.drew) | (with_reducible apply Ext.drewN) | (with_reducible apply Ext.alloc)))))) q0_1, Ext.cell (Ext.trans X6.out (by (focus (repeat (first | (with_reducible exact Ext.refl _) | (with_reducible apply Ext.drew) | (with_reducible apply Ext.drewN) | (with_reducible apply Ext.alloc)))))) q0_2, Ext.cell (Ext.trans X6.out (by (focus (repeat (first | (with_reducible exact Ext.refl _) | (with_reducible apply Ext.drew) | (with_reducible apply Ext.drewN) | (with_reducible apply Ext.alloc)))))) q0_3, Ext.cell (Ext.trans X6.out (by (focus (repeat (first | (with_reducible exact Ext.refl _) | (with_reducible apply Ext.drew) | (with_reducible apply Ext.drewN) | (with_reducible apply Ext.alloc)))))) q0_4⟩) ?_
                  clear hK K; try simp only [Act.put, List.getElem_toArray, List.getElem_cons_zero, List.getElem_cons_succ, List.setIfInBounds_toArray, List.set_cons_zero, List.set_cons_succ]
                  refine anyL_ready (rs := [9]) (by kernel_rfl) (by simp) ?_
                  refine AllL.cons rfl (fun K hK => ?_) AllL.nil
                  refine step_app ekN (by rfl) _ _ (by rfl) W7.heap.size _ d (NL1.map Nm.cs) (by rfl) (own_extk HO6.out (by (focus (repeat (first | (with_reducible exact Ext.refl _) | (with_reducible apply Ext.drew) | (with_reducible apply Ext.drewN) | (with_reducible apply Ext.alloc)))))) _ 1 [Nm.cs E1] (by rfl) (CK.of_blk HL6.out (Ks.nm [E1]) rfl (Nat.le_refl _) (by omega) rfl) (Ks.nm [E1]) (by have := Hd.out; simp; omega) (by have := Hd.out; simp; omega) (Nat.le_trans (Ext.size X6.out) (Ext.size (by (focus (repeat (first | (with_reducible exact Ext.refl _) | (with_reducible apply Ext.drew) | (with_reducible apply Ext.drewN) | (with_reducible apply Ext.alloc))))))) ?_
                  intro v7 w7 hown hgr hat
                  have X7 : Hid (Ext W7 w7) := Lib.hid (Ext.grown (Ext.trans X6.out (by (focus (repeat (first | (with_reducible exact Ext.refl _) | (with_reducible apply Ext.drew) | (with_reducible apply Ext.drewN) | (with_reducible apply Ext.alloc)))))) hgr fun g hg => (HO6.out.lt g hg).1)
                  have HO7 : Hid (w7.ownsRow W7.heap.size 41 2 v7 (d + 1) ((NL1 ++ [E1]).map Nm.cs).flatten) := Lib.hid (by rw [List.map_append]; exact hown)
                  clear hown hgr hat
                  refine hK.out _ _ (fun _ => ⟨Ext.cell (Ext.trans X7.out (by (focus (repeat (first | (with_reducible exact Ext.refl _) | (with_reducible apply Ext.drew) | (with_reducible apply Ext.drewN) | (with_reducible apply Ext.alloc)))))) q0_1, Ext.cell (Ext.trans X7.out (by (focus (repeat (first | (with_reducible exact Ext.refl _) | (with_reducible apply Ext.drew) | (with_reducible apply Ext.drewN) | (with_reducible apply Ext.alloc)))))) q0_2, Ext.cell (Ext.trans X7.out (by (focus (repeat (first | (with_reducible exact Ext.refl _) | (with_reducible apply Ext.drew) | (with_reducible apply Ext.drewN) | (with_reducible apply Ext.alloc)))))) q0_3, Ext.cell (Ext.trans X7.out (by (focus (repeat (first | (with_reducible exact Ext.refl _) | (with_reducible apply Ext.drew) | (with_reducible apply Ext.drewN) | (with_reducible apply Ext.alloc)))))) q0_4⟩) ?_
                  clear hK K; try simp only [Act.put, List.getElem_toArray, List.getElem_cons_zero, List.getElem_cons_succ, List.setIfInBounds_toArray, List.set_cons_zero, List.set_cons_succ]
                  refine anyL_ready (rs := [10]) (by kernel_rfl) (by simp) ?_
                  refine AllL.cons rfl (fun K hK => ?_) AllL.nil
                  go_simp
                  obtain ⟨c7, hn7⟩ := own_nl HO7.out (by rw [List.length_append, List.length_singleton, Hd.out.1])
                  refine (Sorted_calls v7 c7 (NL1 ++ [E1]) w7 hn7 (by rw [List.length_append, List.length_singleton]; have := Hd.out; omega)).mono ?_
                  intro e w8 hh
                  obtain ⟨v8, r, rfl, hp, -, hown8, x8⟩ := hh
                  have X8 : Hid (Ext W7 w8) := Lib.hid (X7.out.trans x8)
                  obtain ⟨fb, fd, e8, _⟩ := own_slice hown8
                  obtain ⟨fm, hfm⟩ : ∃ fm, fm = r.length := ⟨_, rfl⟩
                  subst e8
                  have hown9 := own_mono hown8 X7.out.size
                  have HNr := Lib.hid (show ∀ (la' : Option Addr) (lc' : Nat), (∀ W : World, W.ownsRow w1.heap.size 41 2 (.slice (some ⟨g, 0, none⟩) ln lc) ln (f.held.map Nm.cs).flatten → NL W (.slice la' (ln - 1) lc') lc' (f.held.drop 1)) → PostS W2 gb f (.bool true) ((w8.setCell ⟨gb, 3, none⟩ (.slice fb fm fd)).setCell ⟨gb, 2, none⟩ (.slice la' (ln - 1) lc')) from fun la' lc' hh => HN.out w8 r fb fm fd la' lc' X8.out hp (by rw [hfm]; exact hown9) hh)
                  have hb8 := HS.out.b.ext X8.out
                  have p0 := hb8.c3; have p1 := hb8.fr 3
                  have hb3 := hb8.put3 (.slice fb fm fd)
                  have p2 := hb3.c2; have p3 := hb3.fr 2
                  rw [← hfm]
                  clear hn7 hp hown8 hown9 hfm x8 hb8 hb3
                  go_simp
                  refine hK.out _ _ (fun _ => ⟨Ext.cell (Ext.trans X8.out (by (focus (repeat (first | (with_reducible exact Ext.refl _) | (with_reducible apply Ext.drew) | (with_reducible apply Ext.drewN) | (with_reducible apply Ext.alloc)))))) q0_1, Ext.cell (Ext.trans X8.out (by (focus (repeat (first | (with_reducible exact Ext.refl _) | (with_reducible apply Ext.drew) | (with_reducible apply Ext.drewN) | (with_reducible apply Ext.alloc)))))) q0_2, Ext.cell (Ext.trans X8.out (by (focus (repeat (first | (with_reducible exact Ext.refl _) | (with_reducible apply Ext.drew) | (with_reducible apply Ext.drewN) | (with_reducible apply Ext.alloc)))))) q0_3, Ext.cell (Ext.trans X8.out (by (focus (repeat (first | (with_reducible exact Ext.refl _) | (with_reducible apply Ext.drew) | (with_reducible apply Ext.drewN) | (with_reducible apply Ext.alloc)))))) q0_4⟩) ?_
                  clear hK K; try simp only [Act.put, List.getElem_toArray, List.getElem_cons_zero, List.getElem_cons_succ, List.setIfInBounds_toArray, List.set_cons_zero, List.set_cons_succ]
                  refine anyL_ready (rs := [11]) (by kernel_rfl) (by simp) ?_
                  refine AllL.cons rfl (fun K hK => ?_) AllL.nil
                  go_simp
                  refine hK.out _ _ (fun _ => ⟨Ext.cell (Ext.trans X8.out (by (focus (repeat (first | (with_reducible exact Ext.refl _) | (with_reducible apply Ext.drew) | (with_reducible apply Ext.drewN) | (with_reducible apply Ext.alloc)))))) q0_1, Ext.cell (Ext.trans X8.out (by (focus (repeat (first | (with_reducible exact Ext.refl _) | (with_reducible apply Ext.drew) | (with_reducible apply Ext.drewN) | (with_reducible apply Ext.alloc)))))) q0_2, Ext.cell (Ext.trans X8.out (by (focus (repeat (first | (with_reducible exact Ext.refl _) | (with_reducible apply Ext.drew) | (with_reducible apply Ext.drewN) | (with_reducible apply Ext.alloc)))))) q0_3, Ext.cell (Ext.trans X8.out (by (focus (repeat (first | (with_reducible exact Ext.refl _) | (with_reducible apply Ext.drew) | (with_reducible apply Ext.drewN) | (with_reducible apply Ext.alloc)))))) q0_4⟩) ?_
                  clear hK K; try simp only [Act.put, List.getElem_toArray, List.getElem_cons_zero, List.getElem_cons_succ, List.setIfInBounds_toArray, List.set_cons_zero, List.set_cons_succ]
                  refine anyL_ready (rs := [12]) (by kernel_rfl) (by simp) ?_
                  refine AllL.cons rfl (fun K hK => ?_) AllL.nil
                  go_simp
                  refine hK.out _ _ (fun h => absurd rfl h) ?_
                  clear hK K; try simp only [Act.put, List.getElem_toArray, List.getElem_cons_zero, List.getElem_cons_succ, List.setIfInBounds_toArray, List.set_cons_zero, List.set_cons_succ]
                  refine anyL_done (by kernel_rfl) ?_ _
                  by_cases hlc1 : lc = 1
                  · obtain ⟨hln1, hN1⟩ := HD1.out hlc1
                    have HP := Lib.hid (show PostS W2 gb f (.bool true) ((w8.setCell ⟨gb, 3, none⟩ (.slice fb fm fd)).setCell ⟨gb, 2, none⟩ (.slice (some ⟨g, 0, none⟩) 0 0)) from by have h1 := HNr.out _ _ hN1; rw [show ln - 1 = 0 by omega] at h1; exact h1)
                    have m2 : (1 : Int) ≤ ln := by omega
                    have m3 : (ln : Int) ≤ lc := by omega
                    have m4 : (1 : Int) ≤ lc := by omega
                    clear hN1
                    go_wp2_with fail
                    go_meet
                    case rel => exact HP.out
                  · have HP := Lib.hid (HNr.out _ _ HD2.out)
                    obtain ⟨hl1, hl2⟩ := Hlc.out
                    have m2 : (1 : Int) ≤ ln := by omega
                    have m3 : (ln : Int) ≤ lc := by omega
                    have m4 : (1 : Int) ≤ lc := by omega
                    have m6b : ¬ 1 = lc := fun e => hlc1 e.symm
                    clear hl1 hl2
                    go_wp2_with fail
                    go_meet
                    case rel => exact HP.out
              · as_aux_lemma =>
                go_simp
                refine hK.out _ _ (fun _ => ⟨Ext.cell (by (focus (repeat (first | (with_reducible exact Ext.refl _) | (with_reducible apply Ext.drew) | (with_reducible apply Ext.drewN) | (with_reducible apply Ext.alloc))))) q0_1, Ext.cell (by (focus (repeat (first | (with_reducible exact Ext.refl _) | (with_reducible apply Ext.drew) | (with_reducible apply Ext.drewN) | (with_reducible apply Ext.alloc))))) q0_2, Ext.cell (by (focus (repeat (first | (with_reducible exact Ext.refl _) | (with_reducible apply Ext.drew) | (with_reducible apply Ext.drewN) | (with_reducible apply Ext.alloc))))) q0_3, Ext.cell (by (focus (repeat (first | (with_reducible exact Ext.refl _) | (with_reducible apply Ext.drew) | (with_reducible apply Ext.drewN) | (with_reducible apply Ext.alloc))))) q0_4⟩) ?_
                clear hK K; try simp only [Act.put, List.getElem_toArray, List.getElem_cons_zero, List.getElem_cons_succ, List.setIfInBounds_toArray, List.set_cons_zero, List.set_cons_succ]
                refine anyL_ready (rs := [0]) (by kernel_rfl) (by simp) ?_
                refine AllL.cons rfl (fun K hK => ?_) AllL.nil
                go_simp
                refine hK.out _ _ (fun _ => ⟨Ext.cell (by (focus (repeat (first | (with_reducible exact Ext.refl _) | (with_reducible apply Ext.drew) | (with_reducible apply Ext.drewN) | (with_reducible apply Ext.alloc))))) q0_1, Ext.cell (by (focus (repeat (first | (with_reducible exact Ext.refl _) | (with_reducible apply Ext.drew) | (with_reducible apply Ext.drewN) | (with_reducible apply Ext.alloc))))) q0_2, Ext.cell (by (focus (repeat (first | (with_reducible exact Ext.refl _) | (with_reducible apply Ext.drew) | (with_reducible apply Ext.drewN) | (with_reducible apply Ext.alloc))))) q0_3, Ext.cell (by (focus (repeat (first | (with_reducible exact Ext.refl _) | (with_reducible apply Ext.drew) | (with_reducible apply Ext.drewN) | (with_reducible apply Ext.alloc))))) q0_4⟩) ?_
                clear hK K; try simp only [Act.put, List.getElem_toArray, List.getElem_cons_zero, List.getElem_cons_succ, List.setIfInBounds_toArray, List.set_cons_zero, List.set_cons_succ]
                refine anyL_ready (rs := [3]) (by kernel_rfl) (by simp) ?_
                refine AllL.cons rfl (fun K hK => ?_) AllL.nil
                have HOL := Lib.hid (show ((W7.alloc (Obj.cells #[.int .u8 E1.y, .int .i64 E1.n] 41)).alloc (Obj.cells #[] 41)).ownsRow W7.heap.size 41 2 (.slice (some ⟨W7.heap.size + 1, 0, none⟩) 0 0) 0 ([] : List (List Value)).flatten by have h1 := own_lit (W7.alloc (Obj.cells #[.int .u8 E1.y, .int .i64 E1.n] 41)) W7.heap.size (Ext.size (by (focus (repeat (first | (with_reducible exact Ext.refl _) | (with_reducible apply Ext.drew) | (with_reducible apply Ext.drewN) | (with_reducible apply Ext.alloc)))))) 41 2; simpa using h1)
                refine step_app ekN (by rfl) _ _ (by rfl) W7.heap.size _ 0 [] (by rfl) (own_extk HOL.out (by (focus (repeat (first | (with_reducible exact Ext.refl _) | (with_reducible apply Ext.drew) | (with_reducible apply Ext.drewN) | (with_reducible apply Ext.alloc)))))) _ fc (NL1.map Nm.cs) (by rfl) (HTk.out _ (by (focus (repeat (first | (with_reducible exact Ext.refl _) | (with_reducible apply Ext.drew) | (with_reducible apply Ext.drewN) | (with_reducible apply Ext.alloc)))))) (Ks.nm _) (by have := Hd.out; simp; omega) (by have := Hd.out; simp; omega) (Ext.size (by (focus (repeat (first | (with_reducible exact Ext.refl _) | (with_reducible apply Ext.drew) | (with_reducible apply Ext.drewN) | (with_reducible apply Ext.alloc)))))) ?_
                intro v6 w6 hown hgr hat
                have hown' : w6.ownsRow W7.heap.size 41 2 v6 d (NL1.map Nm.cs).flatten := by rw [List.nil_append, List.length_map, Nat.zero_add, ← Hd.out.1] at hown; exact hown
                have X6 : Hid (Ext W7 w6) := Lib.hid (Ext.grown (by (focus (repeat (first | (with_reducible exact Ext.refl _) | (with_reducible apply Ext.drew) | (with_reducible apply Ext.drewN) | (with_reducible apply Ext.alloc))))) hgr fun g hg => by cases hg; (first | exact Nat.le_refl _ | exact Nat.le_succ _))
                have HO6 := Lib.hid hown'
                have HL6 : Hid (BN w6 W7.heap.size E1) := Lib.hid (by
                  refine BN.grown ?_ hgr (fun e => by have h1 : W7.heap.size + 1 = W7.heap.size := Option.some.inj e; omega)
                  exact BN.ext (BN.new W7 E1) (by (focus (repeat (first | (with_reducible exact Ext.refl _) | (with_reducible apply Ext.drew) | (with_reducible apply Ext.drewN) | (with_reducible apply Ext.alloc))))))
                clear hown hgr hat hown' HOL
                refine hK.out _ _ (fun _ => ⟨Ext.cell (Ext.trans X6.out (by (focus (repeat (first | (with_reducible exact Ext.refl _) | (with_reducible apply Ext.drew) | (with_reducible apply Ext.drewN) | (with_reducible apply Ext.alloc)))))) q0_1, Ext.cell (Ext.trans X6.out (by (focus (repeat (first | (with_reducible exact Ext.refl _) | (with_reducible apply Ext.drew) | (with_reducible apply Ext.drewN) | (with_reducible apply Ext.alloc)))))) q0_2, Ext.cell (Ext.trans X6.out (by (focus (repeat (first | (with_reducible exact Ext.refl _) | (with_reducible apply Ext.drew) | (with_reducible apply Ext.drewN) | (with_reducible apply Ext.alloc)))))) q0_3, Ext.cell (Ext.trans X6.out (by (focus (repeat (first | (with_reducible exact Ext.refl _) | (with_reducible apply Ext.drew) | (with_reducible apply Ext.drewN) | (with_reducible apply Ext.alloc)))))) q0_4⟩) ?_
                clear hK K; try simp only [Act.put, List.getElem_toArray, List.getElem_cons_zero, List.getElem_cons_succ, List.setIfInBounds_toArray, List.set_cons_zero, List.set_cons_succ]
                refine anyL_ready (rs := [9]) (by kernel_rfl) (by simp) ?_
                refine AllL.cons rfl (fun K hK => ?_) AllL.nil
                refine step_app ekN (by rfl) _ _ (by rfl) W7.heap.size _ d (NL1.map Nm.cs) (by rfl) (own_extk HO6.out (by (focus (repeat (first | (with_reducible exact Ext.refl _) | (with_reducible apply Ext.drew) | (with_reducible apply Ext.drewN) | (with_reducible apply Ext.alloc)))))) _ 1 [Nm.cs E1] (by rfl) (CK.of_blk HL6.out (Ks.nm [E1]) rfl (Nat.le_refl _) (by omega) rfl) (Ks.nm [E1]) (by have := Hd.out; simp; omega) (by have := Hd.out; simp; omega) (Nat.le_trans (Ext.size X6.out) (Ext.size (by (focus (repeat (first | (with_reducible exact Ext.refl _) | (with_reducible apply Ext.drew) | (with_reducible apply Ext.drewN) | (with_reducible apply Ext.alloc))))))) ?_
                intro v7 w7 hown hgr hat
                have X7 : Hid (Ext W7 w7) := Lib.hid (Ext.grown (Ext.trans X6.out (by (focus (repeat (first | (with_reducible exact Ext.refl _) | (with_reducible apply Ext.drew) | (with_reducible apply Ext.drewN) | (with_reducible apply Ext.alloc)))))) hgr fun g hg => (HO6.out.lt g hg).1)
                have HO7 : Hid (w7.ownsRow W7.heap.size 41 2 v7 (d + 1) ((NL1 ++ [E1]).map Nm.cs).flatten) := Lib.hid (by rw [List.map_append]; exact hown)
                clear hown hgr hat
                refine hK.out _ _ (fun _ => ⟨Ext.cell (Ext.trans X7.out (by (focus (repeat (first | (with_reducible exact Ext.refl _) | (with_reducible apply Ext.drew) | (with_reducible apply Ext.drewN) | (with_reducible apply Ext.alloc)))))) q0_1, Ext.cell (Ext.trans X7.out (by (focus (repeat (first | (with_reducible exact Ext.refl _) | (with_reducible apply Ext.drew) | (with_reducible apply Ext.drewN) | (with_reducible apply Ext.alloc)))))) q0_2, Ext.cell (Ext.trans X7.out (by (focus (repeat (first | (with_reducible exact Ext.refl _) | (with_reducible apply Ext.drew) | (with_reducible apply Ext.drewN) | (with_reducible apply Ext.alloc)))))) q0_3, Ext.cell (Ext.trans X7.out (by (focus (repeat (first | (with_reducible exact Ext.refl _) | (with_reducible apply Ext.drew) | (with_reducible apply Ext.drewN) | (with_reducible apply Ext.alloc)))))) q0_4⟩) ?_
                clear hK K; try simp only [Act.put, List.getElem_toArray, List.getElem_cons_zero, List.getElem_cons_succ, List.setIfInBounds_toArray, List.set_cons_zero, List.set_cons_succ]
                refine anyL_ready (rs := [10]) (by kernel_rfl) (by simp) ?_
                refine AllL.cons rfl (fun K hK => ?_) AllL.nil
                go_simp
                obtain ⟨c7, hn7⟩ := own_nl HO7.out (by rw [List.length_append, List.length_singleton, Hd.out.1])
                refine (Sorted_calls v7 c7 (NL1 ++ [E1]) w7 hn7 (by rw [List.length_append, List.length_singleton]; have := Hd.out; omega)).mono ?_
                intro e w8 hh
                obtain ⟨v8, r, rfl, hp, -, hown8, x8⟩ := hh
                have X8 : Hid (Ext W7 w8) := Lib.hid (X7.out.trans x8)
                obtain ⟨fb, fd, e8, _⟩ := own_slice hown8
                obtain ⟨fm, hfm⟩ : ∃ fm, fm = r.length := ⟨_, rfl⟩
                subst e8
                have hown9 := own_mono hown8 X7.out.size
                have HNr := Lib.hid (show ∀ (la' : Option Addr) (lc' : Nat), (∀ W : World, W.ownsRow w1.heap.size 41 2 (.slice (some ⟨g, 0, none⟩) ln lc) ln (f.held.map Nm.cs).flatten → NL W (.slice la' (ln - 1) lc') lc' (f.held.drop 1)) → PostS W2 gb f (.bool true) ((w8.setCell ⟨gb, 3, none⟩ (.slice fb fm fd)).setCell ⟨gb, 2, none⟩ (.slice la' (ln - 1) lc')) from fun la' lc' hh => HN.out w8 r fb fm fd la' lc' X8.out hp (by rw [hfm]; exact hown9) hh)
                have hb8 := HS.out.b.ext X8.out
                have p0 := hb8.c3; have p1 := hb8.fr 3
                have hb3 := hb8.put3 (.slice fb fm fd)
                have p2 := hb3.c2; have p3 := hb3.fr 2
                rw [← hfm]
                clear hn7 hp hown8 hown9 hfm x8 hb8 hb3
                go_simp
                refine hK.out _ _ (fun _ => ⟨Ext.cell (Ext.trans X8.out (by (focus (repeat (first | (with_reducible exact Ext.refl _) | (with_reducible apply Ext.drew) | (with_reducible apply Ext.drewN) | (with_reducible apply Ext.alloc)))))) q0_1, Ext.cell (Ext.trans X8.out (by (focus (repeat (first | (with_reducible exact Ext.refl _) | (with_reducible apply Ext.drew) | (with_reducible apply Ext.drewN) | (with_reducible apply Ext.alloc)))))) q0_2, Ext.cell (Ext.trans X8.out (by (focus (repeat (first | (with_reducible exact Ext.refl _) | (with_reducible apply Ext.drew) | (with_reducible apply Ext.drewN) | (with_reducible apply Ext.alloc)))))) q0_3, Ext.cell (Ext.trans X8.out (by (focus (repeat (first | (with_reducible exact Ext.refl _) | (with_reducible apply Ext.drew) | (with_reducible apply Ext.drewN) | (with_reducible apply Ext.alloc)))))) q0_4⟩) ?_
                clear hK K; try simp only [Act.put, List.getElem_toArray, List.getElem_cons_zero, List.getElem_cons_succ, List.setIfInBounds_toArray, List.set_cons_zero, List.set_cons_succ]
                refine anyL_ready (rs := [11]) (by kernel_rfl) (by simp) ?_
                refine AllL.cons rfl (fun K hK => ?_) AllL.nil
                go_simp
                refine hK.out _ _ (fun _ => ⟨Ext.cell (Ext.trans X8.out (by (focus (repeat (first | (with_reducible exact Ext.refl _) | (with_reducible apply Ext.drew) | (with_reducible apply Ext.drewN) | (with_reducible apply Ext.alloc)))))) q0_1, Ext.cell (Ext.trans X8.out (by (focus (repeat (first | (with_reducible exact Ext.refl _) | (with_reducible apply Ext.drew) | (with_reducible apply Ext.drewN) | (with_reducible apply Ext.alloc)))))) q0_2, Ext.cell (Ext.trans X8.out (by (focus (repeat (first | (with_reducible exact Ext.refl _) | (with_reducible apply Ext.drew) | (with_reducible apply Ext.drewN) | (with_reducible apply Ext.alloc)))))) q0_3, Ext.cell (Ext.trans X8.out (by (focus (repeat (first | (with_reducible exact Ext.refl _) | (with_reducible apply Ext.drew) | (with_reducible apply Ext.drewN) | (with_reducible apply Ext.alloc)))))) q0_4⟩) ?_
                clear hK K; try simp only [Act.put, List.getElem_toArray, List.getElem_cons_zero, List.getElem_cons_succ, List.setIfInBounds_toArray, List.set_cons_zero, List.set_cons_succ]
                refine anyL_ready (rs := [12]) (by kernel_rfl) (by simp) ?_
                refine AllL.cons rfl (fun K hK => ?_) AllL.nil
                go_simp
                refine hK.out _ _ (fun h => absurd rfl h) ?_
                clear hK K; try simp only [Act.put, List.getElem_toArray, List.getElem_cons_zero, List.getElem_cons_succ, List.setIfInBounds_toArray, List.set_cons_zero, List.set_cons_succ]
                refine anyL_done (by kernel_rfl) ?_ _
                by_cases hlc1 : lc = 1
                · obtain ⟨hln1, hN1⟩ := HD1.out hlc1
                  have HP := Lib.hid (show PostS W2 gb f (.bool true) ((w8.setCell ⟨gb, 3, none⟩ (.slice fb fm fd)).setCell ⟨gb, 2, none⟩ (.slice (some ⟨g, 0, none⟩) 0 0)) from by have h1 := HNr.out _ _ hN1; rw [show ln - 1 = 0 by omega] at h1; exact h1)
                  have m2 : (1 : Int) ≤ ln := by omega
                  have m3 : (ln : Int) ≤ lc := by omega
                  have m4 : (1 : Int) ≤ lc := by omega
                  clear hN1
                  go_wp2_with fail
                  go_meet
                  case rel => exact HP.out
                · have HP := Lib.hid (HNr.out _ _ HD2.out)
                  obtain ⟨hl1, hl2⟩ := Hlc.out
                  have m2 : (1 : Int) ≤ ln := by omega
                  have m3 : (ln : Int) ≤ lc := by omega
                  have m4 : (1 : Int) ≤ lc := by omega
                  have m6b : ¬ 1 = lc := fun e => hlc1 e.symm
                  clear hl1 hl2
                  go_wp2_with fail
                  go_meet
                  case rel => exact HP.out
            · have m1 : ¬ (0 : Int) < ln := by omega
              have m2 : ¬ 0 < ln := h1
              clear h1
              go_wp2_with fail
              go_meet
              case rel => exact HS.out.same
        case rest =>
          obtain ⟨t1, t2, t3, d1, d2, d3, h1, h2, h3, f1, f2, f3, g, D, rfl, hb, hfb, hfi, hok, hg6, hdec, xa⟩ := hcut
          have XA := Lib.hid xa; have HFk := Lib.hid hfb; have HFIk := Lib.hid hfi; have HOKk := Lib.hid hok; have HBk := Lib.hid hb; have HD := Lib.hid hdec; have HG6 := Lib.hid hg6
          clear xa hfb hfi hok hb hdec hg6 HS HA7
          have XW := Lib.hid (X2.out.trans XA.out)
          have HS1 := Lib.hid (show ∀ w', Ext wc w' → Calls Tryd.prog 11 #[.agg #[.slice (some ⟨f0, 0, none⟩) 6 6, .slice ja jn jc, .slice ia iN ic, .slice ea eN ec], .agg #[.slice t1 t2 t3, .slice d1 d2 d3, .slice h1 h2 h3, .slice f1 f2 f3]] w' fun e w'' => e = .returned (.bool (!D)) ∧ Ext w' w'' from fun w' x' => by
            have h1 := Same_calls _ _ _ _ _ _ _ _ f g w' (HFBf.out.ext (XA.out.trans x')) (HFk.out.ext x')
            rw [HD.out] at h1
            exact h1)
          have HS2 := Lib.hid (show ∀ w', Ext wc w' → Calls Tryd.prog 11 #[.agg #[.slice t1 t2 t3, .slice d1 d2 d3, .slice h1 h2 h3, .slice f1 f2 f3], .agg #[.slice (some ⟨f0, 0, none⟩) 6 6, .slice ja jn jc, .slice ia iN ic, .slice ea eN ec]] w' fun e w'' => e = .returned (.bool (!D)) ∧ Ext w' w'' from fun w' x' => by
            have h1 := Same_calls _ _ _ _ _ _ _ _ g f w' (HFk.out.ext x') (HFBf.out.ext (XA.out.trans x'))
            rw [show decide (g = f) = !D by rw [← HD.out]; exact decide_eq_decide.2 eq_comm] at h1
            exact h1)
          obtain ⟨E, hE⟩ : ∃ E, E = fchk g := ⟨_, rfl⟩
          have HCk := Lib.hid (show ∀ w', Ext wc w' → Calls Tryd.prog 14 #[.agg #[.slice t1 t2 t3, .slice d1 d2 d3, .slice h1 h2 h3, .slice f1 f2 f3]] w' fun e w'' => e = .returned (.int .i64 E) ∧ Ext w' w'' from fun w' x' => by
            rw [hE]; exact Check_calls _ _ _ _ g w' (HFk.out.ext x') HFIk.out (fun _ => HOKk.out))
          obtain ⟨TG, hTG⟩ : ∃ TG, TG = bst (textT g) := ⟨_, rfl⟩
          have HTg2 := Lib.hid (show ∀ w', Ext wc w' → Calls Tryd.prog 12 #[.agg #[.slice t1 t2 t3, .slice d1 d2 d3, .slice h1 h2 h3, .slice f1 f2 f3]] w' fun e w'' => e = .returned (.string TG) ∧ Ext w' w'' from fun w' x' => by
            rw [hTG]; exact Text_calls _ _ _ _ g w' (HFk.out.ext x') HFIk.out (fun _ => HOKk.out) (HT.out.ext (XW.out.trans x')))
          have HTf2 := Lib.hid (show ∀ w', Ext wc w' → Calls Tryd.prog 12 #[.agg #[.slice (some ⟨f0, 0, none⟩) 6 6, .slice ja jn jc, .slice ia iN ic, .slice ea eN ec]] w' fun e w'' => e = .returned (.string TT) ∧ Ext w' w'' from fun w' x' => by
            rw [HTT.out]; exact Text_calls _ _ _ _ f w' (HFBf.out.ext (XA.out.trans x')) HFI.out (fun _ => HOKT.out) (HT.out.ext (XW.out.trans x')))
          have HLv := Lib.hid (show ∀ w', Ext wc w' → Calls Tryd.prog 9 #[] w' fun e w'' => e = .returned (.bool true) ∧ Ext w' w'' from fun w' x' => Lives_calls w' (HT.out.ext (XW.out.trans x')))
          have HTx := Lib.hid (show (E ≠ 0 → (TG.toList == []) = true) ∧ (E = 0 → (TT.toList == TG.toList) = !D) from by
            have h1 : TT.toList = textT f := by rw [HTT.out]; simp [bst]
            have h2 : TG.toList = textT g := by rw [hTG]; simp [bst]
            rw [h1, h2, hE]
            refine ⟨fun h => by rw [textT_bad h]; rfl, fun h => ?_⟩
            rw [← HD.out, Bool.eq_iff_iff, beq_iff_eq, decide_eq_true_iff]
            exact textT_iff (TelF.of (by rw [H6.out.2, H6.out.1]) HOKT.out) (TelF.of HG6.out HOKk.out) HChk.out h)
          have j1 : ((!D) == D) = false := by cases D <;> rfl
          clear hE hTG
          obtain ⟨q0, q1, q2, q3⟩ := B4.cells (HBf.out.ext XA.out)
          obtain ⟨r0, r1, r2, r3⟩ := B4.cells HBk.out
          go_wp2_with fail
          clear q0 q1 q2 q3 r0 r1 r2 r3
          refine (HS1.out wc (Ext.refl _)).mono ?_
          rintro e x1 ⟨rfl, y1⟩
          have Y1 := Lib.hid y1
          clear y1
          obtain ⟨q0, q1, q2, q3⟩ := B4.cells (HBf.out.ext (XA.out.trans Y1.out))
          obtain ⟨r0, r1, r2, r3⟩ := B4.cells (HBk.out.ext Y1.out)
          go_wp2_with fail
          clear q0 q1 q2 q3 r0 r1 r2 r3
          refine (HS2.out x1 Y1.out).mono ?_
          rintro e x2 ⟨rfl, y2⟩
          have Y2 := Lib.hid (Y1.out.trans y2)
          clear y2
          obtain ⟨q0, q1, q2, q3⟩ := B4.cells (HBf.out.ext (XA.out.trans Y2.out))
          obtain ⟨r0, r1, r2, r3⟩ := B4.cells (HBk.out.ext Y2.out)
          go_wp2_with fail
          clear q0 q1 q2 q3 r0 r1 r2 r3
          refine (HCk.out x2 Y2.out).mono ?_
          rintro e x3 ⟨rfl, y3⟩
          have Y3 := Lib.hid (Y2.out.trans y3)
          clear y3
          obtain ⟨q0_1, q0_2, q0_3, q0_4⟩ := B4.cells (HBf.out.ext (XA.out.trans Y3.out))
          obtain ⟨q0_5, q0_6, q0_7, q0_8⟩ := B4.cells (HBk.out.ext Y3.out)
          by_cases hE : E = 0
          · subst hE
            have j2 := HTx.out.2 rfl
            have j3 : ((!D) == (!D)) = true := by simp
            go_upto_region 41 with fail
            refine wp_region_held_drew (S := fun w' => w'.cell? ⟨gf, 0, Option.none⟩ = some (.slice (some ⟨f0, 0, none⟩) 6 6) ∧ w'.cell? ⟨gf, 1, Option.none⟩ = some (.slice ja jn jc) ∧ w'.cell? ⟨gf, 2, Option.none⟩ = some (.slice ia iN ic) ∧ w'.cell? ⟨gf, 3, Option.none⟩ = some (.slice ea eN ec) ∧ w'.cell? ⟨gb, 0, Option.none⟩ = some (.slice t1 t2 t3) ∧ w'.cell? ⟨gb, 1, Option.none⟩ = some (.slice d1 d2 d3) ∧ w'.cell? ⟨gb, 2, Option.none⟩ = some (.slice h1 h2 h3) ∧ w'.cell? ⟨gb, 3, Option.none⟩ = some (.slice f1 f2 f3)) (by kernel_rfl) ?_ (fun hHeld => ?_)
            · exact ⟨q0_1, q0_2, q0_3, q0_4, q0_5, q0_6, q0_7, q0_8⟩
            refine wpAnyH_take (i := 0) (v := ?va1170_0) rfl (by kernel_rfl) (by kernel_rfl) (by kernel_rfl) (fun _ _ _ h => h) (Or.inl ⟨by rfl, fun w hSw => ?ti1170_0⟩) (by assumption) ?rest1170_0
            case ti1170_0 => ((try dsimp only at hSw); go_simp; (first | done | with_reducible rfl))
            try simp only [Act.put, List.getElem_toArray, List.getElem_cons_zero, List.getElem_cons_succ, List.setIfInBounds_toArray, List.set_cons_zero, List.set_cons_succ]
            refine wpAnyH_take (i := 2) (v := ?va1173_2) rfl (by kernel_rfl) (by kernel_rfl) (by kernel_rfl) (fun _ _ _ h => h) (Or.inl ⟨by rfl, fun w hSw => ?ti1173_2⟩) (by assumption) ?rest1173_2
            case ti1173_2 => ((try dsimp only at hSw); go_simp; (first | done | with_reducible rfl))
            try simp only [Act.put, List.getElem_toArray, List.getElem_cons_zero, List.getElem_cons_succ, List.setIfInBounds_toArray, List.set_cons_zero, List.set_cons_succ]
            refine wpAnyH_take (i := 5) (v := ?va1176_5) rfl (by kernel_rfl) (by kernel_rfl) (by kernel_rfl) (fun _ _ _ h => h) (Or.inl ⟨by rfl, fun w hSw => ?ti1176_5⟩) (by assumption) ?rest1176_5
            case ti1176_5 => ((try dsimp only at hSw); go_simp; (first | done | with_reducible rfl))
            try simp only [Act.put, List.getElem_toArray, List.getElem_cons_zero, List.getElem_cons_succ, List.setIfInBounds_toArray, List.set_cons_zero, List.set_cons_succ]
            refine wpAnyH_take (i := 6) (v := ?va1179_6) rfl (by kernel_rfl) (by kernel_rfl) (by kernel_rfl) (fun _ _ _ h => h) (Or.inl ⟨by rfl, fun w hSw => ?ti1179_6⟩) (by assumption) ?rest1179_6
            case ti1179_6 => ((try dsimp only at hSw); go_simp; (first | done | with_reducible rfl))
            try simp only [Act.put, List.getElem_toArray, List.getElem_cons_zero, List.getElem_cons_succ, List.setIfInBounds_toArray, List.set_cons_zero, List.set_cons_succ]
            refine wpAnyH_ready (rs := [1]) (by kernel_rfl) (by simp) ?_
            refine AllReadyH.cons rfl (fun K hK => ?_) AllReadyH.nil
            go_simp
            refine (HTf2.out _ ?_).mono ?_
            · (refine Ext.trans Y3.out ?_; (repeat (first | (with_reducible exact Ext.refl _) | (with_reducible apply Ext.drew) | (with_reducible apply Ext.drewN) | (with_reducible apply Ext.alloc))))
            intro e z1 hh
            obtain ⟨rfl, x⟩ := hh
            have Za : Hid (Ext x3 z1) := Lib.hid (Ext.trans (by ((repeat (first | (with_reducible exact Ext.refl _) | (with_reducible apply Ext.drew) | (with_reducible apply Ext.drewN) | (with_reducible apply Ext.alloc))); done)) x)
            have q1_1 := Za.out.cell q0_1
            have q1_2 := Za.out.cell q0_2
            have q1_3 := Za.out.cell q0_3
            have q1_4 := Za.out.cell q0_4
            have q1_5 := Za.out.cell q0_5
            have q1_6 := Za.out.cell q0_6
            have q1_7 := Za.out.cell q0_7
            have q1_8 := Za.out.cell q0_8
            go_simp
            refine hK.out _ _ ?_ (fun hHeld => ?_)
            · exact ⟨q1_1, q1_2, q1_3, q1_4, q1_5, q1_6, q1_7, q1_8⟩
            clear hK K x
            try simp only [Act.put, List.getElem_toArray, List.getElem_cons_zero, List.getElem_cons_succ, List.setIfInBounds_toArray, List.set_cons_zero, List.set_cons_succ]
            refine wpAnyH_ready (rs := [3]) (by kernel_rfl) (by simp) ?_
            refine AllReadyH.cons rfl (fun K hK => ?_) AllReadyH.nil
            go_simp
            refine (HTg2.out _ ?_).mono ?_
            · (refine Ext.trans (Y3.out.trans Za.out) ?_; (repeat (first | (with_reducible exact Ext.refl _) | (with_reducible apply Ext.drew) | (with_reducible apply Ext.drewN) | (with_reducible apply Ext.alloc))))
            intro e z2 hh
            obtain ⟨rfl, x⟩ := hh
            have Zb : Hid (Ext x3 z2) := Lib.hid (Ext.trans Za.out (Ext.trans (by ((repeat (first | (with_reducible exact Ext.refl _) | (with_reducible apply Ext.drew) | (with_reducible apply Ext.drewN) | (with_reducible apply Ext.alloc))); done)) x))
            have q2_1 := Zb.out.cell q0_1
            have q2_2 := Zb.out.cell q0_2
            have q2_3 := Zb.out.cell q0_3
            have q2_4 := Zb.out.cell q0_4
            have q2_5 := Zb.out.cell q0_5
            have q2_6 := Zb.out.cell q0_6
            have q2_7 := Zb.out.cell q0_7
            have q2_8 := Zb.out.cell q0_8
            go_simp
            refine hK.out _ _ ?_ (fun hHeld => ?_)
            · exact ⟨q2_1, q2_2, q2_3, q2_4, q2_5, q2_6, q2_7, q2_8⟩
            clear hK K x
            try simp only [Act.put, List.getElem_toArray, List.getElem_cons_zero, List.getElem_cons_succ, List.setIfInBounds_toArray, List.set_cons_zero, List.set_cons_succ]
            refine wpAnyH_take (i := 4) (v := ?va1224_4) rfl (by kernel_rfl) (by kernel_rfl) (by kernel_rfl) (fun _ _ _ h => h) (Or.inl ⟨by rfl, fun w hSw => ?ti1224_4⟩) (by assumption) ?rest1224_4
            case ti1224_4 => ((try dsimp only at hSw); go_simp; (first | done | with_reducible rfl))
            try simp only [Act.put, List.getElem_toArray, List.getElem_cons_zero, List.getElem_cons_succ, List.setIfInBounds_toArray, List.set_cons_zero, List.set_cons_succ]
            refine wpAnyH_take (i := 7) (v := ?va1227_7) rfl (by kernel_rfl) (by kernel_rfl) (by kernel_rfl) (fun _ _ _ h => h) (Or.inl ⟨by rfl, fun w hSw => ?ti1227_7⟩) (by assumption) ?rest1227_7
            case ti1227_7 => ((try dsimp only at hSw); go_simp; (first | done | with_reducible rfl))
            try simp only [Act.put, List.getElem_toArray, List.getElem_cons_zero, List.getElem_cons_succ, List.setIfInBounds_toArray, List.set_cons_zero, List.set_cons_succ]
            refine wpAnyH_take (i := 8) (v := ?va1230_8) rfl (by kernel_rfl) (by kernel_rfl) (by kernel_rfl) (fun _ _ _ h => h) (Or.inl ⟨by rfl, fun w hSw => ?ti1230_8⟩) (by assumption) ?rest1230_8
            case ti1230_8 => ((try dsimp only at hSw); go_simp; (first | done | with_reducible rfl))
            try simp only [Act.put, List.getElem_toArray, List.getElem_cons_zero, List.getElem_cons_succ, List.setIfInBounds_toArray, List.set_cons_zero, List.set_cons_succ]
            refine wpAnyH_ready (rs := [9]) (by kernel_rfl) (by simp) ?_
            refine AllReadyH.cons rfl (fun K hK => ?_) AllReadyH.nil
            go_simp
            refine (HLv.out _ ?_).mono ?_
            · (refine Ext.trans (Y3.out.trans Zb.out) ?_; (repeat (first | (with_reducible exact Ext.refl _) | (with_reducible apply Ext.drew) | (with_reducible apply Ext.drewN) | (with_reducible apply Ext.alloc))))
            intro e z3 hh
            obtain ⟨rfl, x⟩ := hh
            have Zc : Hid (Ext x3 z3) := Lib.hid (Ext.trans Zb.out (Ext.trans (by ((repeat (first | (with_reducible exact Ext.refl _) | (with_reducible apply Ext.drew) | (with_reducible apply Ext.drewN) | (with_reducible apply Ext.alloc))); done)) x))
            have q3_1 := Zc.out.cell q0_1
            have q3_2 := Zc.out.cell q0_2
            have q3_3 := Zc.out.cell q0_3
            have q3_4 := Zc.out.cell q0_4
            have q3_5 := Zc.out.cell q0_5
            have q3_6 := Zc.out.cell q0_6
            have q3_7 := Zc.out.cell q0_7
            have q3_8 := Zc.out.cell q0_8
            go_simp
            refine hK.out _ _ ?_ (fun hHeld => ?_)
            · exact ⟨q3_1, q3_2, q3_3, q3_4, q3_5, q3_6, q3_7, q3_8⟩
            clear hK K x
            try simp only [Act.put, List.getElem_toArray, List.getElem_cons_zero, List.getElem_cons_succ, List.setIfInBounds_toArray, List.set_cons_zero, List.set_cons_succ]
            refine wpAnyH_take (i := 10) (v := ?va1254_10) rfl (by kernel_rfl) (by kernel_rfl) (by kernel_rfl) (fun _ _ _ h => h) (Or.inl ⟨by rfl, fun w hSw => ?ti1254_10⟩) (by assumption) ?rest1254_10
            case ti1254_10 => ((try dsimp only at hSw); go_simp; (first | done | with_reducible rfl))
            try simp only [Act.put, List.getElem_toArray, List.getElem_cons_zero, List.getElem_cons_succ, List.setIfInBounds_toArray, List.set_cons_zero, List.set_cons_succ]
            refine wpAnyH_take (i := 11) (v := ?va1257_11) rfl (by kernel_rfl) (by kernel_rfl) (by kernel_rfl) (fun _ _ _ h => h) (Or.inl ⟨by rfl, fun w hSw => ?ti1257_11⟩) (by assumption) ?rest1257_11
            case ti1257_11 => ((try dsimp only at hSw); go_simp; (first | done | with_reducible rfl))
            try simp only [Act.put, List.getElem_toArray, List.getElem_cons_zero, List.getElem_cons_succ, List.setIfInBounds_toArray, List.set_cons_zero, List.set_cons_succ]
            refine wpAnyH_done (by kernel_rfl) ?_ _
            go_wp2
            go_ret
            exact ⟨rfl, XW.out.trans (Y3.out.trans Zc.out)⟩
          · have j2 := HTx.out.1 hE
            have j3 : (E == 0) = false := beq_eq_false_iff_ne.2 hE
            have j4 : (E != 0) = true := by unfold bne; rw [j3]; rfl
            clear hE
            go_wp2_with fail
            refine (HTg2.out x3 Y3.out).mono ?_
            rintro e x4 ⟨rfl, y4⟩
            have Y4 := Lib.hid (Y3.out.trans y4)
            clear y4 q0_1 q0_2 q0_3 q0_4 q0_5 q0_6 q0_7 q0_8
            go_wp2_with fail
            refine (HLv.out x4 Y4.out).mono ?_
            rintro e x5 ⟨rfl, y5⟩
            have Y5 := Lib.hid (Y4.out.trans y5)
            clear y5
            go_wp2
            go_ret
            exact ⟨rfl, XW.out.trans Y5.out⟩
end Go.Proofs.YtlhkehfplcclgaaDoor
