/- Texts of this claim in one file: libraries and walks. -/
import Derived.Deep.CutBlock
import Derived.Test.YtlhkehfplcclgaaDoorL17
import Derived.Test.YtlhkehfplcclgaaDoorMCheck1
import Derived.Test.YtlhkehfplcclgaaDoorMCheck3
/- The law FabricsCheck: the walk. -/
namespace Go.Proofs.YtlhkehfplcclgaaDoor
set_option linter.unusedVariables false
set_option linter.unusedSimpArgs false
set_option maxRecDepth 8000
open Go Go.RowKit Go.Sort

theorem tb_take {w : World} {b o n c l : Nat} {t : Tab} (h : TB w (.slice (some ⟨b, o, none⟩) n c) c t) (hl : l ≤ t.length) : TB w (.slice (some ⟨b, o, none⟩) l c) c (t.take l) := by
  obtain ⟨vs, h1, h2⟩ := h
  have h3 := CK.take h1 (l := l) (by simpa using hl)
  refine ⟨vs, ?_, fun i hi => ?_⟩
  · rw [← List.map_take, List.take_range, Nat.min_eq_left hl] at h3
    rw [List.length_take, Nat.min_eq_left hl]; exact h3
  · rw [List.length_take] at hi
    obtain ⟨d, h4⟩ := h2 i (by omega)
    refine ⟨d, ?_⟩
    have e : yi (t.take l) i = yi t i := by unfold yi; simp [List.getD, List.getElem?_take_of_lt (show i < l by omega)]
    rw [e]; exact h4
/-- What the switch leaves: the fabric's box, a fabric that Check refuses with error c. -/
def PostC (w : World) (gb gi : Nat) (A : Nm) (c : Value) (wx : World) : Prop := ∃ t1 t2 t3 c1 c2 c3 h1 h2 h3 f1 f2 f3 fp E, c = .int .i64 E ∧ B4 wx gb (.slice t1 t2 t3) (.slice c1 c2 c3) (.slice h1 h2 h3) (.slice f1 f2 f3) 35 ∧ FB wx (.slice t1 t2 t3) (.slice c1 c2 c3) (.slice h1 h2 h3) (.slice f1 f2 f3) fp ∧ BN wx gi A ∧ FIn fp ∧ fchk fp = E ∧ E ≠ 0 ∧ (fp.ys.length = 6 → OKT fp.ys) ∧ Ext w wx
theorem PostC.of {w wx : World} {gb gi : Nat} {A : Nm} {t1 t2 t3 c1 c2 c3 h1 h2 h3 f1 f2 f3 fp} {E : Int} (a : B4 wx gb (.slice t1 t2 t3) (.slice c1 c2 c3) (.slice h1 h2 h3) (.slice f1 f2 f3) 35) (b : FB wx (.slice t1 t2 t3) (.slice c1 c2 c3) (.slice h1 h2 h3) (.slice f1 f2 f3) fp) (c : BN wx gi A) (d : FIn fp) (e : fchk fp = E) (e0 : E ≠ 0) (f : fp.ys.length = 6 → OKT fp.ys) (x : Ext w wx) : PostC w gb gi A (.int .i64 E) wx := ⟨_, _, _, _, _, _, _, _, _, _, _, _, fp, E, rfl, a, b, c, d, e, e0, f, x⟩
theorem PostC.ext {w wx wy : World} {gb gi : Nat} {A : Nm} {c : Value} (h : PostC w gb gi A c wx) (x : Ext wx wy) : PostC w gb gi A c wy := by
  obtain ⟨t1, t2, t3, c1, c2, c3, h1, h2, h3, f1, f2, f3, fp, E, rfl, hb, hfb, hid, hfi, hfe, hE0, hfo, xa⟩ := h
  exact ⟨t1, t2, t3, c1, c2, c3, h1, h2, h3, f1, f2, f3, fp, E, rfl, hb.ext x, hfb.ext x, hid.ext x, hfi, hfe, hE0, hfo, xa.trans x⟩
set_option maxHeartbeats 16000000 in
theorem FabricsCheck_walk (tv hv cv : Value) (fal wt wh : Int) (x : FD) (w : World) (ht : PTab w) (h : FDm w tv fal hv cv x) (hwt : 0 ≤ wt ∧ wt ≤ 255) (hwh : 0 ≤ wh ∧ wh ≤ 255) :
    Calls Tryd.prog 4 #[.agg #[tv, .int .u64 fal, hv, cv], .int .u8 wt, .int .u8 wh] w fun e w' => e = .returned (.bool true) ∧ Ext w w' := by
  have HM := Lib.hid h
  obtain ⟨⟨tc, hT⟩, hfal, ⟨hc, hH⟩, ⟨cc, hC⟩, -⟩ := h
  obtain ⟨ta, tn, rfl, htn, -⟩ := hT.open
  obtain ⟨ha, hn, rfl, -⟩ := hH.atD
  obtain ⟨ca, cn, rfl, hcn, hcc, hc9, -⟩ := hC.open
  obtain ⟨W0, hW0⟩ : ∃ W0, W0 = w.alloc (.cells #[.slice ta tn tc, .int .u64 fal, .slice ha hn hc, .slice ca cn cc] 28) := ⟨_, rfl⟩
  have xW : Ext w W0 := by rw [hW0]; exact (Ext.refl _).alloc _
  have HW0 := Lib.hid hW0; have XW := Lib.hid xW
  have HB := Lib.hid (show B4 W0 w.heap.size (.slice ta tn tc) (.int .u64 fal) (.slice ha hn hc) (.slice ca cn cc) 28 by rw [hW0]; exact B4.new _ _ _ _ _ _)
  have HT := Lib.hid ht; have Hcn := Lib.hid hcn; have Htn := Lib.hid htn
  obtain ⟨q0, q1, q2, q3⟩ := B4.cells HB.out
  rw [hW0] at q0 q1 q2 q3
  clear hT hfal hH hC htn hcn hcc hc9 hW0 xW ht
  go_enter Tryd.func4, Tryd.ntmps4
  obtain ⟨BIG, hBIG⟩ : ∃ BIG : Bool, BIG = decide (20 < tn ∨ 30 < cn) := ⟨_, rfl⟩
  have HBIG := Lib.hid hBIG
  clear hBIG
  go_upto_region 1 with fail
  rw [← HW0.out]
  clear q0 q1 q2 q3
  obtain ⟨q0, q1, q2, q3⟩ := B4.cells HB.out
  go_cut [23] from 14 to 24 (fun c wx => c = .bool BIG ∧ W0 = wx)
  case first =>
    by_cases h1 : 20 < tn
    · have f1 : (20 : Int) < tn := by omega
      have f2 : decide ((20 : Int) < tn) = true := decide_eq_true f1
      have hb : BIG = true := by rw [HBIG.out]; exact decide_eq_true (.inl h1)
      subst hb
      go_wp2_with fail
      go_meet
      case rel => exact ⟨rfl, rfl⟩
    · have f1 : ¬ (20 : Int) < tn := by omega
      have f2 : decide ((20 : Int) < tn) = false := decide_eq_false f1
      have hb : BIG = decide ((30 : Int) < cn) := by rw [HBIG.out, Bool.eq_iff_iff]; simp; try omega
      have Hb := Lib.hid hb
      clear hb h1
      go_wp2_with fail
      all_goals go_meet
      all_goals (refine ⟨congrArg Value.bool ?_, rfl⟩; rw [Hb.out]; try simp [*])
  case rest =>
    obtain ⟨rfl, rfl⟩ := hcut
    cases BIG with
    | true =>
      go_wp2_with fail
      clear q0 q1 q2 q3
      refine (Lives_calls W0 (HT.out.ext XW.out)).mono ?_
      rintro e w2 ⟨rfl, x2⟩
      have X2 := Lib.hid (XW.out.trans x2)
      clear x2
      go_wp2
      go_ret
      exact ⟨rfl, X2.out⟩
    | false =>
      have hbig := of_decide_eq_false HBIG.out.symm
      have Hbig := Lib.hid hbig
      clear hbig
      go_wp2_with fail
      clear q0 q1 q2 q3
      refine (OfF_calls _ _ _ fal x W0 (HM.out.ext XW.out)).mono ?_
      rintro e w2 hR
      obtain ⟨g0, F, us, vs, lv, mv, w1, cv', hv', fv', rfl, hg0, hO, hA, hsz, hx, hF⟩ := hR
      have hok := fok x
      have hx30 : x.cross.length ≤ 30 := by rw [← Hcn.out]; have := Hbig.out; omega
      have ht20 : x.t.length ≤ 20 := by rw [← Htn.out]; have := Hbig.out; omega
      have hfin := hok.fin (by omega)
      have hchk := hok.chk (by omega)
      have hOKT := hok.ok
      have hcl : (ofF x).cr.length ≤ 30 := by
        have h1 := ofC_len (ofT x.t).made x.cross []
        show (ofC (ofT x.t).made x.cross).length ≤ 30
        unfold ofC; split
        · simp at h1; omega
        · simp
      have hml : (ofT x.t).made.length ≤ 20 := by rw [(ofT_inv x.t).2, List.length_take]; omega
      have h77 : hasB (ofF x).ys ⟨1 + wh % 6, 77⟩ = false := by
        cases e : hasB (ofF x).ys ⟨1 + wh % 6, 77⟩ with
        | false => rfl
        | true =>
          obtain ⟨y, n, e1, hy, hn⟩ := hasB_iff e
          have h1 := row_len (t := (ofT x.t).t) (z := y) hy
          rw [hok.inv.cnt] at h1
          have h2 : (77 : Int) = n := congrArg Nm.n e1
          have h3 : n < (yi (ofT x.t).t y).length := hn
          omega
      have hHL := hok.len
      have hFB := OF.fb hO hA hF
      have hfe := fun h => ofF_empty (x := x) h
      obtain ⟨mc, hNL⟩ := (hO.agr hA).nl
      obtain ⟨ma, mn, rfl, hmn, -⟩ := hNL.open
      have hhas : ∀ a ∈ (ofT x.t).made, hasB (ofF x).ys a = true := fun a ha => (hok.inv.cov a).2 ha
      have hIn : ∀ a ∈ (ofT x.t).made, a.In := fun a ha => nm_in hok.inv.l6 (by rw [hok.inv.cnt]; omega) ((hok.inv.cov a).2 ha)
      have h6 : (ofT x.t).t.length = 6 := hok.inv.l6
      have hy : (ofF x).ys = (ofT x.t).t := rfl
      obtain ⟨s, hs⟩ : ∃ s, s = ofT x.t := ⟨_, rfl⟩
      rw [← hs] at hO hml hHL hNL hmn hhas hIn h6 hy hfe
      obtain ⟨f, hf⟩ : ∃ f, f = ofF x := ⟨_, rfl⟩
      rw [← hf] at hF hFB hfin hchk hOKT hcl h77 hHL hhas hy hfe
      obtain ⟨ka, kc, rfl, -⟩ := own_slice hF.c
      obtain ⟨la, lc, rfl, hllc⟩ := own_slice hF.h
      obtain ⟨fa, fc, rfl, -⟩ := own_slice hF.f
      obtain ⟨kn, hkn⟩ : ∃ kn, kn = f.cr.length := ⟨_, rfl⟩
      obtain ⟨ln, hln⟩ : ∃ ln, ln = f.held.length := ⟨_, rfl⟩
      obtain ⟨fn, hfn⟩ : ∃ fn, fn = f.fallen.length := ⟨_, rfl⟩
      have hFo := hF
      rw [← hkn, ← hln, ← hfn] at hF hFB ⊢
      rw [← hln, ← hfn] at hHL
      rw [← hln] at hllc
      obtain ⟨W2, hW2⟩ : ∃ W2, W2 = w2.alloc (.cells #[.slice (some ⟨g0, 0, none⟩) 6 6, .slice ka kn kc, .slice la ln lc, .slice fa fn fc] 35) := ⟨_, rfl⟩
      have x22 : Ext w2 W2 := by rw [hW2]; exact (Ext.refl _).alloc _
      have X2 := Lib.hid (show Ext w W2 from (XW.out.trans hx).trans x22)
      obtain ⟨gb, hgb⟩ : ∃ gb, gb = w2.heap.size := ⟨_, rfl⟩
      have HB2 := Lib.hid (show B4 W2 gb (.slice (some ⟨g0, 0, none⟩) 6 6) (.slice ka kn kc) (.slice la ln lc) (.slice fa fn fc) 35 by rw [hW2, hgb]; exact B4.new _ _ _ _ _ _)
      have HOF := Lib.hid (hF.ext x22)
      have HAg := Lib.hid (show Agr g0 w1 W2 from fun i h1 h2 => by rw [Below.block x22 i (by omega)]; exact hA i h1 h2)
      have Hsz := Lib.hid (show w1.heap.size ≤ gb ∧ w.heap.size ≤ gb ∧ w1.heap.size ≤ W2.heap.size ∧ w.heap.size ≤ w1.heap.size from ⟨by rw [hgb]; exact hsz, by rw [hgb]; exact (XW.out.trans hx).size, Nat.le_trans hsz x22.size, by have h1 := XW.out.size; have h2 : g0 < w1.heap.size := hO.tab.lt; omega⟩)
      have HO := Lib.hid hO; have H6 := Lib.hid (And.intro h6 hy)
      have HNL := Lib.hid (hNL.ext x22); have HFB := Lib.hid (hFB.ext x22)
      have HW2 := Lib.hid hW2; have Hgb := Lib.hid hgb; have HChk := Lib.hid hchk; have HOKT := Lib.hid hOKT; have HFI := Lib.hid hfin; have Hcl := Lib.hid hcl; have H77 := Lib.hid h77; have Hhas := Lib.hid hhas; have HIn := Lib.hid hIn; have Hmn := Lib.hid hmn; have Hml := Lib.hid hml; have Hfe := Lib.hid hfe
      have HL := Lib.hid (And.intro hkn (And.intro hln hfn)); have HHL := Lib.hid hHL; have Hllc := Lib.hid hllc
      clear hg0 hO hA hsz hx hF hok hx30 ht20 hfin hchk hOKT hcl hml h77 hHL hFB hfe hNL hmn hhas hIn h6 hy hs hf hkn hln hfn hFo hllc hW2 x22 hgb
      go_upto_region 4 with fail
      rw [← HW2.out, ← Hgb.out]
      obtain ⟨q0, q1, q2, q3⟩ := B4.cells HB2.out
      have HCk := Lib.hid (Check_calls _ _ _ _ f W2 HFB.out HFI.out (fun _ => HOKT.out))
      rw [HChk.out] at HCk
      go_wp2_with fail
      clear q0 q1 q2 q3
      refine HCk.out.mono ?_
      rintro e w3 ⟨rfl, x3⟩
      have X3 := Lib.hid x3
      obtain ⟨q0, q1, q2, q3⟩ := B4.cells (HB2.out.ext x3)
      have hHL := HHL.out; have hml := Hml.out; have hmn := Hmn.out
      have k1 : IntKind.i64.wrap ((ln : Int) + fn) = (ln : Int) + fn := IntWalk.i64_in _ ⟨by omega, by omega⟩
      have k2 : ¬ (mn : Int) < (ln : Int) + fn := by omega
      have k3 : mn ≤ 20 := by omega
      clear x3 hHL hml hmn
      by_cases hm0 : mn = 0
      · have m1 : ((mn : Int) == 0) = true := by rw [hm0]; rfl
        have hfe := Hfe.out (by rw [← Hmn.out]; exact hm0)
        have HFB3 := Lib.hid (HFB.out.ext X3.out)
        have HSm := Lib.hid (show ∀ w' ge, Ext w3 w' → FB w' (.slice (some ⟨ge, 0, none⟩) 6 6) (.slice none 0 0) (.slice none 0 0) (.slice none 0 0) emptyF → Calls Tryd.prog 11 #[.agg #[.slice (some ⟨g0, 0, none⟩) 6 6, .slice ka kn kc, .slice la ln lc, .slice fa fn fc], .agg #[.slice (some ⟨ge, 0, none⟩) 6 6, .slice none 0 0, .slice none 0 0, .slice none 0 0]] w' fun e w'' => e = .returned (.bool true) ∧ Ext w' w'' from fun w' ge x' hE => by
          have h1 := Same_calls _ _ _ _ _ _ _ _ f emptyF w' (HFB3.out.ext x') hE
          rw [decide_eq_true hfe] at h1
          exact h1)
        have HEm := Lib.hid (fun w' => Empty_calls w')
        have HLv := Lib.hid (fun w' (x' : Ext w3 w') => Lives_calls w' (HT.out.ext (X2.out.trans (X3.out.trans x'))))
        go_upto_region 7 with fail
        have q0_1 := q0; have q0_2 := q1; have q0_3 := q2; have q0_4 := q3
        refine wp_region_held_drew (S := fun w' => w'.cell? ⟨gb, 0, Option.none⟩ = some (.slice (some ⟨g0, 0, none⟩) 6 6) ∧ w'.cell? ⟨gb, 1, Option.none⟩ = some (.slice ka kn kc) ∧ w'.cell? ⟨gb, 2, Option.none⟩ = some (.slice la ln lc) ∧ w'.cell? ⟨gb, 3, Option.none⟩ = some (.slice fa fn fc)) (by kernel_rfl) ?_ (fun hHeld => ?_)
        · exact ⟨q0_1, q0_2, q0_3, q0_4⟩
        refine wpAnyH_take (i := 0) (v := ?va181_0) rfl (by kernel_rfl) (by kernel_rfl) (by kernel_rfl) (fun _ _ _ h => h) (Or.inl ⟨by rfl, fun w hSw => ?ti181_0⟩) (by assumption) ?rest181_0
        case ti181_0 => ((try dsimp only at hSw); go_simp; (first | done | with_reducible rfl))
        try simp only [Act.put, List.getElem_toArray, List.getElem_cons_zero, List.getElem_cons_succ, List.setIfInBounds_toArray, List.set_cons_zero, List.set_cons_succ]
        refine wpAnyH_ready (rs := [1]) (by kernel_rfl) (by simp) ?_
        refine AllReadyH.cons rfl (fun K hK => ?_) AllReadyH.nil
        go_simp
        refine (HEm.out _).mono ?_
        intro e v1 hh
        obtain ⟨⟨ge, rfl, hE⟩, x⟩ := hh
        have Xa : Hid (Ext w3 v1) := Lib.hid (Ext.trans (by ((repeat (first | (with_reducible exact Ext.refl _) | (with_reducible apply Ext.drew) | (with_reducible apply Ext.drewN) | (with_reducible apply Ext.alloc))); done)) x)
        have q1_1 := Xa.out.cell q0_1
        have q1_2 := Xa.out.cell q0_2
        have q1_3 := Xa.out.cell q0_3
        have q1_4 := Xa.out.cell q0_4
        go_simp
        refine hK.out _ _ ?_ (fun hHeld => ?_)
        · exact ⟨q1_1, q1_2, q1_3, q1_4⟩
        clear hK K x
        try simp only [Act.put, List.getElem_toArray, List.getElem_cons_zero, List.getElem_cons_succ, List.setIfInBounds_toArray, List.set_cons_zero, List.set_cons_succ]
        refine wpAnyH_ready (rs := [2]) (by kernel_rfl) (by simp) ?_
        refine AllReadyH.cons rfl (fun K hK => ?_) AllReadyH.nil
        go_simp
        refine (HSm.out _ ge ?_ hE).mono ?_
        · (refine Ext.trans Xa.out ?_; (repeat (first | (with_reducible exact Ext.refl _) | (with_reducible apply Ext.drew) | (with_reducible apply Ext.drewN) | (with_reducible apply Ext.alloc))))
        intro e v2 hh
        obtain ⟨rfl, x⟩ := hh
        have Xb : Hid (Ext w3 v2) := Lib.hid (Ext.trans Xa.out (Ext.trans (by ((repeat (first | (with_reducible exact Ext.refl _) | (with_reducible apply Ext.drew) | (with_reducible apply Ext.drewN) | (with_reducible apply Ext.alloc))); done)) x))
        have q2_1 := Xb.out.cell q0_1
        have q2_2 := Xb.out.cell q0_2
        have q2_3 := Xb.out.cell q0_3
        have q2_4 := Xb.out.cell q0_4
        go_simp
        refine hK.out _ _ ?_ (fun hHeld => ?_)
        · exact ⟨q2_1, q2_2, q2_3, q2_4⟩
        clear hK K x
        try simp only [Act.put, List.getElem_toArray, List.getElem_cons_zero, List.getElem_cons_succ, List.setIfInBounds_toArray, List.set_cons_zero, List.set_cons_succ]
        refine wpAnyH_take (i := 3) (v := ?va217_3) rfl (by kernel_rfl) (by kernel_rfl) (by kernel_rfl) (fun _ _ _ h => h) (Or.inl ⟨by rfl, fun w hSw => ?ti217_3⟩) (by assumption) ?rest217_3
        case ti217_3 => ((try dsimp only at hSw); go_simp; (first | done | with_reducible rfl))
        try simp only [Act.put, List.getElem_toArray, List.getElem_cons_zero, List.getElem_cons_succ, List.setIfInBounds_toArray, List.set_cons_zero, List.set_cons_succ]
        refine wpAnyH_ready (rs := [4]) (by kernel_rfl) (by simp) ?_
        refine AllReadyH.cons rfl (fun K hK => ?_) AllReadyH.nil
        go_simp
        refine (HLv.out _ ?_).mono ?_
        · (refine Ext.trans Xb.out ?_; (repeat (first | (with_reducible exact Ext.refl _) | (with_reducible apply Ext.drew) | (with_reducible apply Ext.drewN) | (with_reducible apply Ext.alloc))))
        intro e v3 hh
        obtain ⟨rfl, x⟩ := hh
        have Xc : Hid (Ext w3 v3) := Lib.hid (Ext.trans Xb.out (Ext.trans (by ((repeat (first | (with_reducible exact Ext.refl _) | (with_reducible apply Ext.drew) | (with_reducible apply Ext.drewN) | (with_reducible apply Ext.alloc))); done)) x))
        have q3_1 := Xc.out.cell q0_1
        have q3_2 := Xc.out.cell q0_2
        have q3_3 := Xc.out.cell q0_3
        have q3_4 := Xc.out.cell q0_4
        go_simp
        refine hK.out _ _ ?_ (fun hHeld => ?_)
        · exact ⟨q3_1, q3_2, q3_3, q3_4⟩
        clear hK K x
        try simp only [Act.put, List.getElem_toArray, List.getElem_cons_zero, List.getElem_cons_succ, List.setIfInBounds_toArray, List.set_cons_zero, List.set_cons_succ]
        refine wpAnyH_take (i := 5) (v := ?va237_5) rfl (by kernel_rfl) (by kernel_rfl) (by kernel_rfl) (fun _ _ _ h => h) (Or.inl ⟨by rfl, fun w hSw => ?ti237_5⟩) (by assumption) ?rest237_5
        case ti237_5 => ((try dsimp only at hSw); go_simp; (first | done | with_reducible rfl))
        try simp only [Act.put, List.getElem_toArray, List.getElem_cons_zero, List.getElem_cons_succ, List.setIfInBounds_toArray, List.set_cons_zero, List.set_cons_succ]
        refine wpAnyH_take (i := 6) (v := ?va240_6) rfl (by kernel_rfl) (by kernel_rfl) (by kernel_rfl) (fun _ _ _ h => h) (Or.inl ⟨by rfl, fun w hSw => ?ti240_6⟩) (by assumption) ?rest240_6
        case ti240_6 => ((try dsimp only at hSw); go_simp; (first | done | with_reducible rfl))
        try simp only [Act.put, List.getElem_toArray, List.getElem_cons_zero, List.getElem_cons_succ, List.setIfInBounds_toArray, List.set_cons_zero, List.set_cons_succ]
        refine wpAnyH_done (by kernel_rfl) ?_ _
        go_wp2
        go_ret
        exact ⟨rfl, X2.out.trans (X3.out.trans Xc.out)⟩
      · have k4 : 0 < mn := by omega
        have k5 : ¬ ((mn : Int) = 0) := by omega
        have k6 : ((mn : Int) == 0) = false := beq_eq_false_iff_ne.2 k5
        obtain ⟨wi, hwi⟩ : ∃ wi, wi = wh.toNat % mn := ⟨_, rfl⟩
        have hwil : wi < mn := by rw [hwi]; exact Nat.mod_lt _ k4
        have z1 : wrap64 wh = wh := IntWalk.wrap64_in _ ⟨by omega, by omega⟩
        have z1' : IntKind.i64.wrap wh = wh := IntWalk.i64_in _ ⟨by omega, by omega⟩
        have z3 : wh.tmod (mn : Int) = (wi : Int) := by
          rw [Int.tmod_eq_emod_of_nonneg hwh.1, hwi]
          have h1 : wh = (wh.toNat : Int) := by omega
          conv => lhs; rw [h1]
          rw [← Int.natCast_emod]
        have z6 : (wi : Int) < mn := by omega
        have z7 : (0 : Int) ≤ wi := by omega
        obtain ⟨r6, hr6⟩ : ∃ r6, r6 = wh % 6 := ⟨_, rfl⟩
        have z8 : wh.tmod 6 = r6 := by rw [Int.tmod_eq_emod_of_nonneg hwh.1, hr6]
        have z9 : IntKind.u8.wrap (1 + r6) = 1 + r6 := IntWalk.u8_in _ ⟨by omega, by omega⟩
        obtain ⟨w9, hw9⟩ : ∃ w9, w9 = wt % 9 := ⟨_, rfl⟩
        have z10 : wt.tmod 9 = w9 := by rw [Int.tmod_eq_emod_of_nonneg hwt.1, hw9]
        have hw9b : w9 = 0 ∨ w9 = 1 ∨ w9 = 2 ∨ w9 = 3 ∨ w9 = 4 ∨ w9 = 5 ∨ w9 = 6 ∨ w9 = 7 ∨ w9 = 8 := by omega
        obtain ⟨r3, hr3⟩ : ∃ r3, r3 = wh % 3 := ⟨_, rfl⟩
        have HR3 := Lib.hid (show wh.tmod 3 = r3 ∧ (r3 = 0 ∨ r3 = 1 ∨ r3 = 2) from ⟨by rw [Int.tmod_eq_emod_of_nonneg hwh.1, hr3], by omega⟩)
        obtain ⟨NN, hNN⟩ : ∃ NN : Nm, NN = ⟨1 + r6, 77⟩ := ⟨_, rfl⟩
        have HNNin := Lib.hid (show NN.In by rw [hNN]; exact ⟨⟨by dsimp only; omega, by dsimp only; omega⟩, by dsimp only; omega, by dsimp only; omega⟩)
        have HNN := Lib.hid (show hasB f.ys NN = false by rw [hNN, hr6]; exact H77.out)
        obtain ⟨ma', mn', e, -, -, -, hMat⟩ := HNL.out.open
        cases e
        obtain ⟨bm, om, rfl, hAa⟩ := hMat wi hwil
        obtain ⟨A, hA⟩ : ∃ A, A = ni s.made wi := ⟨_, rfl⟩
        have hAm : A ∈ s.made := by rw [hA]; exact ni_mem (by rw [← Hmn.out]; exact hwil)
        have HhA := Lib.hid (Hhas.out A hAm); have HAin := Lib.hid (HIn.out A hAm)
        rw [← hA] at hAa
        obtain ⟨p0, p1⟩ := hAa.ext X3.out
        have HA := Lib.hid (And.intro hwi (And.intro hr6 (And.intro hw9 hr3)))
        have hz5 : ¬ mn = 0 := hm0
        clear hwi hr6 hw9 hr3 hA hAm hAa hMat
        go_upto_block 0 with fail
        obtain ⟨W5, hW5⟩ : ∃ W5, W5 = (w3.alloc (.cells #[.int .u8 A.y, .int .i64 A.n] 41)).alloc (.cells #[.int .u8 (1 + r6), .int .i64 77] 41) := ⟨_, rfl⟩
        rw [← hW5]
        obtain ⟨gi', hgi⟩ : ∃ gi', gi' = w3.heap.size := ⟨_, rfl⟩
        have x35 : Ext w3 W5 := by rw [hW5]; exact ((Ext.refl _).alloc _).alloc _
        have X5 := Lib.hid (X3.out.trans x35)
        have HIdA := Lib.hid (show BN W5 gi' A by rw [hW5, hgi]; exact (BN.new w3 A).ext ((Ext.refl _).alloc _))
        have HIdN := Lib.hid (show BN W5 (gi' + 1) NN by rw [hW5, hgi, hNN]; have h1 := BN.new (w3.alloc (.cells #[.int .u8 A.y, .int .i64 A.n] 41)) ⟨1 + r6, 77⟩; simpa using h1)
        have Hgi := Lib.hid (show W2.heap.size ≤ gi' by rw [hgi]; exact X3.out.size)
        rw [← hgi]
        have HBx := Lib.hid (HB2.out.ext X5.out)
        have HOF5 := Lib.hid (HOF.out.ext X5.out)
        have HAg5 := Lib.hid (show Agr g0 w1 W5 from fun i h1 h2 => by rw [Below.block X5.out i (by have := Hsz.out; omega)]; exact HAg.out i h1 h2)
        have XL5 := Lib.hid (X2.out.trans X5.out)
        have Hs5 := Lib.hid (show w1.heap.size ≤ W5.heap.size from Nat.le_trans Hsz.out.2.2.1 X5.out.size)
        have Hneh := Lib.hid (show ∀ g, (Value.slice la ln lc).ownBlock = some g → g < gi' from fun g e => Nat.lt_of_lt_of_le (HOF.out.h.lt g e).2 Hgi.out)
        have Hnef := Lib.hid (show ∀ g, (Value.slice fa fn fc).ownBlock = some g → g < gi' from fun g e => Nat.lt_of_lt_of_le (HOF.out.f.lt g e).2 Hgi.out)
        have Hoh := Lib.hid (show W5.ownsRow w1.heap.size 41 2 (.slice la ln lc) ln (f.held.map Nm.cs).flatten by have h1 := HOF5.out.h; rw [← HL.out.2.1] at h1; exact h1)
        have Hof := Lib.hid (show W5.ownsRow w1.heap.size 41 2 (.slice fa fn fc) fn (f.fallen.map Nm.cs).flatten by have h1 := HOF5.out.f; rw [← HL.out.2.2] at h1; exact h1)
        have Hoc := Lib.hid (show W5.ownsRow w1.heap.size 52 5 (.slice ka kn kc) kn (f.cr.map Xg.cs).flatten by have h1 := HOF5.out.c; rw [← HL.out.1] at h1; exact h1)
        have hb9 : ln ≤ 1000 ∧ fn ≤ 1000 ∧ kn ≤ 1000 := by
          have h1 := HFI.out.n1; have h2 := HFI.out.n2; have h3 := HFI.out.n3; have h4 := HL.out; omega
        obtain ⟨hb91, hb92, hb93⟩ := hb9
        clear p0 p1 q0 q1 q2 q3 z1 z1' z3 z6 z7 z8 z9 z10 hW5 hgi x35 hNN hz5 k1 k2 k5 k6
        go_cut [11] from 14 to 173 (fun c wx => PostC w gb gi' A c wx)
        case first =>
          rcases hw9b with rfl | rfl | rfl | rfl | rfl | rfl | rfl | rfl | rfl
          · as_aux_lemma =>
            obtain ⟨q0, q1, q2, q3⟩ := B4.cells HBx.out
            obtain ⟨i0, i1⟩ := HIdA.out.at
            simp only [Nat.zero_add] at i1
            have hs5 := Hs5.out
            go_wp2_with (at_builtin; refine app_at ekN rfl _ _ rfl w1.heap.size _ ln (f.held.map Nm.cs) rfl (own_extk Hoh.out ((Ext.refl _).alloc _)) _ 1 [Nm.cs A] rfl (CK.of_blk (Deep.blk_alloc_new _ _) (Ks.nm [A]) rfl (Nat.le_refl _) (by omega) rfl) (Ks.nm [A]) ?f1 ?f2 ?f3 ?_)
            case f1 => first | omega | (simp; omega)
            case f2 => first | omega | (simp; omega)
            case f3 => first | omega | (simp; omega)
            intro v8 w8 hown hgr hat
            obtain ⟨a8, c8, rfl, _⟩ := own_slice hown
            clear q0 q1 q2 q3 i0 i1
            have xl : Ext W5 (W5.alloc (.cells #[.int .u8 A.y, .int .i64 A.n] 41)) := (Ext.refl _).alloc _
            have hB8 : B4 w8 gb (.slice (some ⟨g0, 0, none⟩) 6 6) (.slice ka kn kc) (.slice la ln lc) (.slice fa fn fc) 35 := own_ne_grown (own_extk Hoh.out xl) (HBx.out.ext xl) (by decide) hgr
            have hc8 := own_keep (own_extk Hoc.out xl) hgr (own_ty (own_extk Hoc.out xl) (own_extk Hoh.out xl) (by decide))
            have ho8 := own_keep (own_extk Hof.out xl) hgr HOF5.out.d.symm
            have hown2 : w8.ownsRow w1.heap.size 41 2 (.slice a8 (ln + 1) c8) (ln + 1) ((f.held ++ [A]).map Nm.cs).flatten := by simpa using hown
            have p0 := hB8.c2; have p1 := hB8.fr 2
            obtain ⟨WA, hWA⟩ : ∃ WA, WA = w8.setCell ⟨gb, 2, none⟩ (.slice a8 (ln + 1) c8) := ⟨_, rfl⟩
            have XA := Lib.hid (show Ext w WA by rw [hWA]; exact Ext.setCell (Ext.grown (XL5.out.trans xl) hgr fun g e => Nat.le_trans Hsz.out.2.2.2 ((own_extk Hoh.out xl).lt g e).1) Hsz.out.2.1 _)
            have hag : Agr g0 w1 WA := by
              rw [hWA]
              exact (Agr.grown (fun i h1 h2 => by rw [Below.block xl i (by have := Hs5.out; omega)]; exact HAg5.out i h1 h2) (Nat.le_trans Hs5.out xl.size) hgr fun g e => ((own_extk Hoh.out xl).lt g e).1).set (.inr Hsz.out.1) _
            have HBk := Lib.hid (show B4 WA gb (.slice (some ⟨g0, 0, none⟩) 6 6) (.slice ka kn kc) (.slice a8 (ln + 1) c8) (.slice fa fn fc) 35 by rw [hWA]; exact hB8.put2 _)
            have HFk := Lib.hid (show FB WA (.slice (some ⟨g0, 0, none⟩) 6 6) (.slice ka kn kc) (.slice a8 (ln + 1) c8) (.slice fa fn fc) { f with held := f.held ++ [A] } from fb_of HO.out H6.out.1 hag H6.out.2
              (by rw [hWA]; exact own_xl (own_box hc8 hB8 (by decide) _ _) HL.out.1)
              (by rw [hWA]; exact own_nl (own_box hown2 hB8 (by decide) _ _) (by rw [List.length_append, HL.out.2.1]; rfl))
              (by rw [hWA]; exact own_nl (own_box ho8 hB8 (by decide) _ _) HL.out.2.2))
            have HIdA := Lib.hid (show BN WA gi' A by rw [hWA]; exact BN.set (BN.grown (HIdA.out.ext xl) hgr (fun e => by have := Hneh.out gi' e; omega)) (by dsimp only; have h1 := (HB2.out).lt; have h2 := Hgi.out; omega) _)
            have HFIk := Lib.hid (show FIn { f with held := f.held ++ [A] } from ⟨fun a ha => (List.mem_append.1 ha).elim (HFI.out.held a) fun h => by rw [List.mem_singleton.1 h]; exact HAin.out, HFI.out.fallen, HFI.out.cr, HFI.out.ys, by have h1 := HHL.out; have h2 := Hml.out; have h3 := HL.out; simp; omega, HFI.out.n2, HFI.out.n3, HFI.out.n4, HFI.out.n5, HFI.out.n6⟩)
            have HEk := Lib.hid (show fchk { f with held := f.held ++ [A] } = 6 from spoil0 HChk.out HhA.out)
            have HOk := Lib.hid (show ({ f with held := f.held ++ [A] } : Fab).ys.length = 6 → OKT ({ f with held := f.held ++ [A] } : Fab).ys from fun _ => HOKT.out)
            have HWA := Lib.hid hWA
            clear hown hgr hat xl hB8 hc8 ho8 hown2 hWA hag hs5
            go_wp2_with fail
            rw [← HWA.out]
            clear p0 p1
            go_meet
            case rel => exact PostC.of (fp := { f with held := f.held ++ [A] }) HBk.out HFk.out HIdA.out HFIk.out HEk.out (by decide) HOk.out XA.out
          · as_aux_lemma =>
            obtain ⟨q0, q1, q2, q3⟩ := B4.cells HBx.out
            obtain ⟨i0, i1⟩ := HIdN.out.at
            simp only [Nat.zero_add] at i1
            have hs5 := Hs5.out
            go_wp2_with (at_builtin; refine app_at ekN rfl _ _ rfl w1.heap.size _ ln (f.held.map Nm.cs) rfl (own_extk Hoh.out ((Ext.refl _).alloc _)) _ 1 [Nm.cs NN] rfl (CK.of_blk (Deep.blk_alloc_new _ _) (Ks.nm [NN]) rfl (Nat.le_refl _) (by omega) rfl) (Ks.nm [NN]) ?f1 ?f2 ?f3 ?_)
            case f1 => first | omega | (simp; omega)
            case f2 => first | omega | (simp; omega)
            case f3 => first | omega | (simp; omega)
            intro v8 w8 hown hgr hat
            obtain ⟨a8, c8, rfl, _⟩ := own_slice hown
            clear q0 q1 q2 q3 i0 i1
            have xl : Ext W5 (W5.alloc (.cells #[.int .u8 NN.y, .int .i64 NN.n] 41)) := (Ext.refl _).alloc _
            have hB8 : B4 w8 gb (.slice (some ⟨g0, 0, none⟩) 6 6) (.slice ka kn kc) (.slice la ln lc) (.slice fa fn fc) 35 := own_ne_grown (own_extk Hoh.out xl) (HBx.out.ext xl) (by decide) hgr
            have hc8 := own_keep (own_extk Hoc.out xl) hgr (own_ty (own_extk Hoc.out xl) (own_extk Hoh.out xl) (by decide))
            have ho8 := own_keep (own_extk Hof.out xl) hgr HOF5.out.d.symm
            have hown2 : w8.ownsRow w1.heap.size 41 2 (.slice a8 (ln + 1) c8) (ln + 1) ((f.held ++ [NN]).map Nm.cs).flatten := by simpa using hown
            have p0 := hB8.c2; have p1 := hB8.fr 2
            obtain ⟨WA, hWA⟩ : ∃ WA, WA = w8.setCell ⟨gb, 2, none⟩ (.slice a8 (ln + 1) c8) := ⟨_, rfl⟩
            have XA := Lib.hid (show Ext w WA by rw [hWA]; exact Ext.setCell (Ext.grown (XL5.out.trans xl) hgr fun g e => Nat.le_trans Hsz.out.2.2.2 ((own_extk Hoh.out xl).lt g e).1) Hsz.out.2.1 _)
            have hag : Agr g0 w1 WA := by
              rw [hWA]
              exact (Agr.grown (fun i h1 h2 => by rw [Below.block xl i (by have := Hs5.out; omega)]; exact HAg5.out i h1 h2) (Nat.le_trans Hs5.out xl.size) hgr fun g e => ((own_extk Hoh.out xl).lt g e).1).set (.inr Hsz.out.1) _
            have HBk := Lib.hid (show B4 WA gb (.slice (some ⟨g0, 0, none⟩) 6 6) (.slice ka kn kc) (.slice a8 (ln + 1) c8) (.slice fa fn fc) 35 by rw [hWA]; exact hB8.put2 _)
            have HFk := Lib.hid (show FB WA (.slice (some ⟨g0, 0, none⟩) 6 6) (.slice ka kn kc) (.slice a8 (ln + 1) c8) (.slice fa fn fc) { f with held := f.held ++ [NN] } from fb_of HO.out H6.out.1 hag H6.out.2
              (by rw [hWA]; exact own_xl (own_box hc8 hB8 (by decide) _ _) HL.out.1)
              (by rw [hWA]; exact own_nl (own_box hown2 hB8 (by decide) _ _) (by rw [List.length_append, HL.out.2.1]; rfl))
              (by rw [hWA]; exact own_nl (own_box ho8 hB8 (by decide) _ _) HL.out.2.2))
            have HIdA := Lib.hid (show BN WA gi' A by rw [hWA]; exact BN.set (BN.grown (HIdA.out.ext xl) hgr (fun e => by have := Hneh.out gi' e; omega)) (by dsimp only; have h1 := (HB2.out).lt; have h2 := Hgi.out; omega) _)
            have HFIk := Lib.hid (show FIn { f with held := f.held ++ [NN] } from ⟨fun a ha => (List.mem_append.1 ha).elim (HFI.out.held a) fun h => by rw [List.mem_singleton.1 h]; exact HNNin.out, HFI.out.fallen, HFI.out.cr, HFI.out.ys, by have h1 := HHL.out; have h2 := Hml.out; have h3 := HL.out; simp; omega, HFI.out.n2, HFI.out.n3, HFI.out.n4, HFI.out.n5, HFI.out.n6⟩)
            have HEk := Lib.hid (show fchk { f with held := f.held ++ [NN] } = 7 from (spoil7 HChk.out HNN.out).1)
            have HOk := Lib.hid (show ({ f with held := f.held ++ [NN] } : Fab).ys.length = 6 → OKT ({ f with held := f.held ++ [NN] } : Fab).ys from fun _ => HOKT.out)
            have HWA := Lib.hid hWA
            clear hown hgr hat xl hB8 hc8 ho8 hown2 hWA hag hs5
            go_wp2_with fail
            rw [← HWA.out]
            clear p0 p1
            go_meet
            case rel => exact PostC.of (fp := { f with held := f.held ++ [NN] }) HBk.out HFk.out HIdA.out HFIk.out HEk.out (by decide) HOk.out XA.out
          · as_aux_lemma =>
            obtain ⟨q0, q1, q2, q3⟩ := B4.cells HBx.out
            obtain ⟨i0, i1⟩ := HIdN.out.at
            simp only [Nat.zero_add] at i1
            have hs5 := Hs5.out
            go_wp2_with (at_builtin; refine app_at ekN rfl _ _ rfl w1.heap.size _ fn (f.fallen.map Nm.cs) rfl (own_extk Hof.out ((Ext.refl _).alloc _)) _ 1 [Nm.cs NN] rfl (CK.of_blk (Deep.blk_alloc_new _ _) (Ks.nm [NN]) rfl (Nat.le_refl _) (by omega) rfl) (Ks.nm [NN]) ?f1 ?f2 ?f3 ?_)
            case f1 => first | omega | (simp; omega)
            case f2 => first | omega | (simp; omega)
            case f3 => first | omega | (simp; omega)
            intro v8 w8 hown hgr hat
            obtain ⟨a8, c8, rfl, _⟩ := own_slice hown
            clear q0 q1 q2 q3 i0 i1
            have xl : Ext W5 (W5.alloc (.cells #[.int .u8 NN.y, .int .i64 NN.n] 41)) := (Ext.refl _).alloc _
            have hB8 : B4 w8 gb (.slice (some ⟨g0, 0, none⟩) 6 6) (.slice ka kn kc) (.slice la ln lc) (.slice fa fn fc) 35 := own_ne_grown (own_extk Hof.out xl) (HBx.out.ext xl) (by decide) hgr
            have hc8 := own_keep (own_extk Hoc.out xl) hgr (own_ty (own_extk Hoc.out xl) (own_extk Hof.out xl) (by decide))
            have ho8 := own_keep (own_extk Hoh.out xl) hgr HOF5.out.d
            have hown2 : w8.ownsRow w1.heap.size 41 2 (.slice a8 (fn + 1) c8) (fn + 1) ((f.fallen ++ [NN]).map Nm.cs).flatten := by simpa using hown
            have p0 := hB8.c3; have p1 := hB8.fr 3
            obtain ⟨WA, hWA⟩ : ∃ WA, WA = w8.setCell ⟨gb, 3, none⟩ (.slice a8 (fn + 1) c8) := ⟨_, rfl⟩
            have XA := Lib.hid (show Ext w WA by rw [hWA]; exact Ext.setCell (Ext.grown (XL5.out.trans xl) hgr fun g e => Nat.le_trans Hsz.out.2.2.2 ((own_extk Hof.out xl).lt g e).1) Hsz.out.2.1 _)
            have hag : Agr g0 w1 WA := by
              rw [hWA]
              exact (Agr.grown (fun i h1 h2 => by rw [Below.block xl i (by have := Hs5.out; omega)]; exact HAg5.out i h1 h2) (Nat.le_trans Hs5.out xl.size) hgr fun g e => ((own_extk Hof.out xl).lt g e).1).set (.inr Hsz.out.1) _
            have HBk := Lib.hid (show B4 WA gb (.slice (some ⟨g0, 0, none⟩) 6 6) (.slice ka kn kc) (.slice la ln lc) (.slice a8 (fn + 1) c8) 35 by rw [hWA]; exact hB8.put3 _)
            have HFk := Lib.hid (show FB WA (.slice (some ⟨g0, 0, none⟩) 6 6) (.slice ka kn kc) (.slice la ln lc) (.slice a8 (fn + 1) c8) { f with fallen := f.fallen ++ [NN] } from fb_of HO.out H6.out.1 hag H6.out.2
              (by rw [hWA]; exact own_xl (own_box hc8 hB8 (by decide) _ _) HL.out.1)
              (by rw [hWA]; exact own_nl (own_box ho8 hB8 (by decide) _ _) HL.out.2.1)
              (by rw [hWA]; exact own_nl (own_box hown2 hB8 (by decide) _ _) (by rw [List.length_append, HL.out.2.2]; rfl)))
            have HIdA := Lib.hid (show BN WA gi' A by rw [hWA]; exact BN.set (BN.grown (HIdA.out.ext xl) hgr (fun e => by have := Hnef.out gi' e; omega)) (by dsimp only; have h1 := (HB2.out).lt; have h2 := Hgi.out; omega) _)
            have HFIk := Lib.hid (show FIn { f with fallen := f.fallen ++ [NN] } from ⟨HFI.out.held, fun a ha => (List.mem_append.1 ha).elim (HFI.out.fallen a) fun h => by rw [List.mem_singleton.1 h]; exact HNNin.out, HFI.out.cr, HFI.out.ys, HFI.out.n1, by have h1 := HHL.out; have h2 := Hml.out; have h3 := HL.out; simp; omega, HFI.out.n3, HFI.out.n4, HFI.out.n5, HFI.out.n6⟩)
            have HEk := Lib.hid (show fchk { f with fallen := f.fallen ++ [NN] } = 7 from (spoil7 HChk.out HNN.out).2)
            have HOk := Lib.hid (show ({ f with fallen := f.fallen ++ [NN] } : Fab).ys.length = 6 → OKT ({ f with fallen := f.fallen ++ [NN] } : Fab).ys from fun _ => HOKT.out)
            have HWA := Lib.hid hWA
            clear hown hgr hat xl hB8 hc8 ho8 hown2 hWA hag hs5
            go_wp2_with fail
            rw [← HWA.out]
            clear p0 p1
            go_meet
            case rel => exact PostC.of (fp := { f with fallen := f.fallen ++ [NN] }) HBk.out HFk.out HIdA.out HFIk.out HEk.out (by decide) HOk.out XA.out
          · as_aux_lemma =>
            have hllc := Hllc.out
            by_cases hl0 : ln = 0
            · have m1 : ((ln : Int) == 0) = true := by rw [hl0]; rfl
              obtain ⟨q0, q1, q2, q3⟩ := B4.cells HBx.out
              go_wp2_with fail
              refine (Lives_calls W5 (HT.out.ext XL5.out)).mono ?_
              rintro e wD ⟨rfl, xD⟩
              have XD := Lib.hid (XL5.out.trans xD)
              clear xD
              go_wp2
              go_ret
              exact ⟨rfl, XD.out⟩
            · have m1 : ((ln : Int) == 0) = false := beq_eq_false_iff_ne.2 (by omega)
              have m2 : (1 : Int) ≤ ln := by omega
              have m3 : (ln : Int) ≤ lc := by omega
              have m4 : (1 : Int) ≤ lc := by omega
              by_cases hlc1 : lc = 1
              · have m5 : ln = 1 := by omega
                obtain ⟨q0, q1, q2, q3⟩ := B4.cells HBx.out
                have p1 := HBx.out.fr 2
                obtain ⟨WA, hWA⟩ : ∃ WA, WA = W5.setCell ⟨gb, 2, none⟩ (.slice la 0 0) := ⟨_, rfl⟩
                have XA := Lib.hid (show Ext w WA by rw [hWA]; exact Ext.setCell XL5.out Hsz.out.2.1 _)
                have hag : Agr g0 w1 WA := by rw [hWA]; exact HAg5.out.set (.inr Hsz.out.1) _
                have HBk := Lib.hid (show B4 WA gb (.slice (some ⟨g0, 0, none⟩) 6 6) (.slice ka kn kc) (.slice la 0 0) (.slice fa fn fc) 35 by rw [hWA]; exact HBx.out.put2 _)
                have hohA : WA.ownsRow w1.heap.size 41 2 (.slice la ln lc) ln (f.held.map Nm.cs).flatten := by rw [hWA]; exact own_box Hoh.out HBx.out (by decide) _ _
                have HFk := Lib.hid (show FB WA (.slice (some ⟨g0, 0, none⟩) 6 6) (.slice ka kn kc) (.slice la 0 0) (.slice fa fn fc) { f with held := f.held.drop 1 } from fb_of HO.out H6.out.1 hag H6.out.2
                  (by rw [hWA]; exact own_xl (own_box Hoc.out HBx.out (by decide) _ _) HL.out.1)
                  ⟨_, by
                    have h1 := CK.drop' (own_ck hohA HL.out.2.1) (D := 1) (by rw [List.length_map, ← HL.out.2.1]; omega)
                    rw [← List.map_drop] at h1
                    rw [if_pos hlc1, m5, hlc1] at h1; exact h1⟩
                  (by rw [hWA]; exact own_nl (own_box Hof.out HBx.out (by decide) _ _) HL.out.2.2))
                have HIdA := Lib.hid (show BN WA gi' A by rw [hWA]; exact BN.set HIdA.out (by dsimp only; have h1 := (HB2.out).lt; have h2 := Hgi.out; omega) _)
                have HFIk := Lib.hid (show FIn { f with held := f.held.drop 1 } from ⟨fun a ha => HFI.out.held a (List.mem_of_mem_drop ha), HFI.out.fallen, HFI.out.cr, HFI.out.ys, by have := HFI.out.n1; simp; omega, HFI.out.n2, HFI.out.n3, HFI.out.n4, HFI.out.n5, HFI.out.n6⟩)
                have HEk := Lib.hid (show fchk { f with held := f.held.drop 1 } = 6 from spoil3 HChk.out (fun e => by have h1 := HL.out.2.1; rw [e] at h1; simp at h1; omega))
                have HOk := Lib.hid (show ({ f with held := f.held.drop 1 } : Fab).ys.length = 6 → OKT ({ f with held := f.held.drop 1 } : Fab).ys from fun _ => HOKT.out)
                have HWA := Lib.hid hWA
                clear hWA hag hohA
                go_wp2_with fail
                rw [← HWA.out]
                clear q0 q1 q2 q3 p1
                go_meet
                case rel => exact PostC.of (fp := { f with held := f.held.drop 1 }) HBk.out HFk.out HIdA.out HFIk.out HEk.out (by decide) HOk.out XA.out
              · have hpt := CK.ptr (own_ck Hoh.out HL.out.2.1)
                obtain ⟨lb, lo, hla⟩ : ∃ b o, la = some ⟨b, o, none⟩ := by
                  rcases hpt.2 with h | ⟨_, b, o, h⟩
                  · omega
                  · exact ⟨b, o, h⟩
                subst hla
                clear hpt
                have m6 : ¬ lc = 1 := hlc1
                have m6b : ¬ 1 = lc := fun e => hlc1 e.symm
                obtain ⟨q0, q1, q2, q3⟩ := B4.cells HBx.out
                have p1 := HBx.out.fr 2
                obtain ⟨WA, hWA⟩ : ∃ WA, WA = W5.setCell ⟨gb, 2, none⟩ (.slice (some ⟨lb, lo + 2, none⟩) (ln - 1) (lc - 1)) := ⟨_, rfl⟩
                have XA := Lib.hid (show Ext w WA by rw [hWA]; exact Ext.setCell XL5.out Hsz.out.2.1 _)
                have hag : Agr g0 w1 WA := by rw [hWA]; exact HAg5.out.set (.inr Hsz.out.1) _
                have HBk := Lib.hid (show B4 WA gb (.slice (some ⟨g0, 0, none⟩) 6 6) (.slice ka kn kc) (.slice (some ⟨lb, lo + 2, none⟩) (ln - 1) (lc - 1)) (.slice fa fn fc) 35 by rw [hWA]; exact HBx.out.put2 _)
                have hohA : WA.ownsRow w1.heap.size 41 2 (.slice (some ⟨lb, lo, none⟩) ln lc) ln (f.held.map Nm.cs).flatten := by rw [hWA]; exact own_box Hoh.out HBx.out (by decide) _ _
                have HFk := Lib.hid (show FB WA (.slice (some ⟨g0, 0, none⟩) 6 6) (.slice ka kn kc) (.slice (some ⟨lb, lo + 2, none⟩) (ln - 1) (lc - 1)) (.slice fa fn fc) { f with held := f.held.drop 1 } from fb_of HO.out H6.out.1 hag H6.out.2
                  (by rw [hWA]; exact own_xl (own_box Hoc.out HBx.out (by decide) _ _) HL.out.1)
                  ⟨_, by
                    have h1 := CK.drop' (own_ck hohA HL.out.2.1) (D := 1) (by rw [List.length_map, ← HL.out.2.1]; omega)
                    rw [← List.map_drop] at h1
                    rw [if_neg hlc1] at h1; exact h1⟩
                  (by rw [hWA]; exact own_nl (own_box Hof.out HBx.out (by decide) _ _) HL.out.2.2))
                have HIdA := Lib.hid (show BN WA gi' A by rw [hWA]; exact BN.set HIdA.out (by dsimp only; have h1 := (HB2.out).lt; have h2 := Hgi.out; omega) _)
                have HFIk := Lib.hid (show FIn { f with held := f.held.drop 1 } from ⟨fun a ha => HFI.out.held a (List.mem_of_mem_drop ha), HFI.out.fallen, HFI.out.cr, HFI.out.ys, by have := HFI.out.n1; simp; omega, HFI.out.n2, HFI.out.n3, HFI.out.n4, HFI.out.n5, HFI.out.n6⟩)
                have HEk := Lib.hid (show fchk { f with held := f.held.drop 1 } = 6 from spoil3 HChk.out (fun e => by have h1 := HL.out.2.1; rw [e] at h1; simp at h1; omega))
                have HOk := Lib.hid (show ({ f with held := f.held.drop 1 } : Fab).ys.length = 6 → OKT ({ f with held := f.held.drop 1 } : Fab).ys from fun _ => HOKT.out)
                have HWA := Lib.hid hWA
                clear hWA hag hohA
                go_wp2_with fail
                rw [← HWA.out]
                clear q0 q1 q2 q3 p1
                go_meet
                case rel => exact PostC.of (fp := { f with held := f.held.drop 1 }) HBk.out HFk.out HIdA.out HFIk.out HEk.out (by decide) HOk.out XA.out
          · as_aux_lemma =>
            by_cases hf2 : fn < 2
            · have m1 : (fn : Int) < 2 := by omega
              obtain ⟨q0, q1, q2, q3⟩ := B4.cells HBx.out
              go_wp2_with fail
              refine (Lives_calls W5 (HT.out.ext XL5.out)).mono ?_
              rintro e wD ⟨rfl, xD⟩
              have XD := Lib.hid (XL5.out.trans xD)
              clear xD
              go_wp2
              go_ret
              exact ⟨rfl, XD.out⟩
            · have m1 : ¬ (fn : Int) < 2 := by omega
              have m2 : (1 : Int) < fn := by omega
              have m3 : (0 : Int) < fn := by omega
              obtain ⟨g, cap, e, hgw, _⟩ := Hof.out.form (by omega)
              cases e
              obtain ⟨b1, o1, e, hA0⟩ := own_at2 Hof.out HL.out.2.2 (i := 0) (by omega)
              cases e
              obtain ⟨b2, o2, e, hA1⟩ := own_at2 Hof.out HL.out.2.2 (i := 1) (by omega)
              cases e
              obtain ⟨X, hX⟩ : ∃ X, X = ni f.fallen 0 := ⟨_, rfl⟩
              obtain ⟨Y, hY⟩ : ∃ Y, Y = ni f.fallen 1 := ⟨_, rfl⟩
              rw [← hX] at hA0
              rw [← hY] at hA1
              obtain ⟨p0, p1⟩ := hA0
              obtain ⟨p2, p3⟩ := hA1
              simp only [Nat.zero_add, Nat.zero_mul, Nat.one_mul, Nat.add_zero] at p0 p1 p2 p3
              obtain ⟨q0, q1, q2, q3⟩ := B4.cells HBx.out
              go_upto_region 29 with fail
              have hfz : ∀ o, W5.frozen? ⟨g, o, none⟩ = false := fun o => by
                obtain ⟨_, h2 | ⟨g', cap', cur, h3, h4, h5, h6⟩⟩ := Hof.out
                · cases h2.1
                · cases h3; simp [World.frozen?, h5]
              have z0 := hfz 0; have z1 := hfz 1; have z2 := hfz 2; have z3 := hfz 3
              have hg1 := (Hof.out.lt g rfl)
              obtain ⟨WA, hWA⟩ : ∃ WA, WA = ((((W5.setCell ⟨g, 0, none⟩ (.int .u8 Y.y)).setCell ⟨g, 1, none⟩ (.int .i64 Y.n)).setCell ⟨g, 2, none⟩ (.int .u8 X.y)).setCell ⟨g, 3, none⟩ (.int .i64 X.n)).drew := ⟨_, rfl⟩
              have hgw : w.heap.size ≤ g := Nat.le_trans Hsz.out.2.2.2 hg1.1
              have XA := Lib.hid (show Ext w WA by rw [hWA]; exact Ext.drew (Ext.setCell (Ext.setCell (Ext.setCell (Ext.setCell XL5.out hgw _) hgw _) hgw _) hgw _))
              have hag : Agr g0 w1 WA := by rw [hWA]; exact (((HAg5.out.set (.inr hg1.1) _).set (.inr hg1.1) _).set (.inr hg1.1) _).set (.inr hg1.1) _
              have hgb : gb ≠ g := fun e => own_b4 Hof.out HBx.out (by decide) (by rw [e]; rfl)
              have HBk := Lib.hid (show B4 WA gb (.slice (some ⟨g0, 0, none⟩) 6 6) (.slice ka kn kc) (.slice la ln lc) (.slice (some ⟨g, 0, none⟩) fn fc) 35 by rw [hWA]; exact B4.set (B4.set (B4.set (B4.set HBx.out hgb _) hgb _) hgb _) hgb _)
              have hdc : (Value.slice ka kn kc).ownBlock ≠ some g := fun e => own_ty Hoc.out Hof.out (by decide) g e rfl
              have hdh : (Value.slice la ln lc).ownBlock ≠ some g := fun e => HOF5.out.d g e rfl
              have hl2 : (f.fallen.map Nm.cs).flatten.length = fn * 2 := by rw [(Ks.nm _).len, List.length_map, ← HL.out.2.2]
              have hof4 : WA.ownsRow w1.heap.size 41 2 (.slice (some ⟨g, 0, none⟩) fn fc) fn ((swp f.fallen 1).map Nm.cs).flatten := by
                have h1 := own_setAt (own_setAt Hof.out (o := 0) (by rw [hl2]; omega) (.int .u8 Y.y)) (o := 1) (by rw [List.length_set, hl2]; omega) (.int .i64 Y.n)
                have e1 := cs_set f.fallen 0 Y (by have := HL.out.2.2; omega)
                simp only [Nat.zero_mul, Nat.zero_add] at e1
                rw [e1] at h1
                have hl3 : ((f.fallen.set 0 Y).map Nm.cs).flatten.length = fn * 2 := by rw [(Ks.nm _).len, List.length_map, List.length_set, ← HL.out.2.2]
                have h2 := own_setAt (own_setAt h1 (o := 2) (by rw [hl3]; omega) (.int .u8 X.y)) (o := 3) (by rw [List.length_set, hl3]; omega) (.int .i64 X.n)
                have e2 := cs_set (f.fallen.set 0 Y) 1 X (by rw [List.length_set]; have := HL.out.2.2; omega)
                simp only [Nat.one_mul] at e2
                rw [e2] at h2
                have e3 : swp f.fallen 1 = (f.fallen.set 0 Y).set 1 X := by unfold swp; rw [hX, hY]; exact List.set_comm _ _ (by decide)
                rw [hWA, e3]; exact h2
              have HFk := Lib.hid (show FB WA (.slice (some ⟨g0, 0, none⟩) 6 6) (.slice ka kn kc) (.slice la ln lc) (.slice (some ⟨g, 0, none⟩) fn fc) { f with fallen := swp f.fallen 1 } from fb_of HO.out H6.out.1 hag H6.out.2
                (by rw [hWA]; exact own_xl (own_set (own_set (own_set (own_set Hoc.out hdc _) hdc _) hdc _) hdc _) HL.out.1)
                (by rw [hWA]; exact own_nl (own_set (own_set (own_set (own_set Hoh.out hdh _) hdh _) hdh _) hdh _) HL.out.2.1)
                (own_nl hof4 (by show fn = (swp f.fallen 1).length; rw [swp_len]; exact HL.out.2.2)))
              have HIdA := Lib.hid (show BN WA gi' A from by
                have hne : gi' ≠ g := by have := Hnef.out g rfl; omega
                rw [hWA]; exact BN.set (BN.set (BN.set (BN.set HIdA.out hne _) hne _) hne _) hne _)
              have HFIk := Lib.hid (show FIn { f with fallen := swp f.fallen 1 } from ⟨HFI.out.held, fun a ha => HFI.out.fallen a ((swp_perm (by decide) (by have := HL.out.2.2; omega)).mem_iff.1 ha), HFI.out.cr, HFI.out.ys, HFI.out.n1, by show (swp f.fallen 1).length ≤ 1000; rw [swp_len]; exact HFI.out.n2, HFI.out.n3, HFI.out.n4, HFI.out.n5, HFI.out.n6⟩)
              have HEk := Lib.hid (show fchk { f with fallen := swp f.fallen 1 } = 6 from spoil4 HChk.out (by have := HL.out.2.2; omega))
              have HOk := Lib.hid (show ({ f with fallen := swp f.fallen 1 } : Fab).ys.length = 6 → OKT ({ f with fallen := swp f.fallen 1 } : Fab).ys from fun _ => HOKT.out)
              have HWA := Lib.hid hWA
              clear hfz hX hY hWA hag hgb hdc hdh hl2 hof4 hg1 hgw
              go_region
              go_wp2_with fail
              rw [← HWA.out]
              clear p0 p1 p2 p3 q0 q1 q2 q3 z0 z1 z2 z3
              go_meet
              case rel => exact PostC.of (fp := { f with fallen := swp f.fallen 1 }) HBk.out HFk.out HIdA.out HFIk.out HEk.out (by decide) HOk.out XA.out
          · as_aux_lemma =>
            obtain ⟨q0, q1, q2, q3⟩ := B4.cells HBx.out
            obtain ⟨i0, i1⟩ := HIdA.out.at
            simp only [Nat.zero_add] at i1
            have xl : Ext W5 (W5.alloc (.cells #[.int .u8 A.y, .int .i64 A.n, .int .u8 A.y, .int .i64 A.n, .int .i64 1] 52)) := (Ext.refl _).alloc _
            have HXl := Lib.hid (show ((W5.alloc (.cells #[.int .u8 A.y, .int .i64 A.n, .int .u8 A.y, .int .i64 A.n, .int .i64 1] 52)).ownsRow W5.heap.size 52 5 (.slice (some ⟨W5.heap.size, 0, none⟩) 1 1) 1 [Xg.cs ⟨A, A, 1⟩].flatten) from own_lit1 W5 (Xg.cs ⟨A, A, 1⟩) _ 5 rfl)
            have HXk := Lib.hid (show XL W5 (.slice ka kn kc) kc f.cr from by
              obtain ⟨c', hc⟩ := own_xl Hoc.out HL.out.1
              obtain ⟨ao', n', e, _⟩ := XL.open hc
              have e2 := Value.slice.inj e
              rw [e2.2.2]
              rw [e2.2.2] at hc
              exact hc)
            have ql := HBx.out.lt
            go_wp2_with (at_builtin; refine app_at ekX rfl _ _ rfl W5.heap.size _ 1 [Xg.cs ⟨A, A, 1⟩] rfl HXl.out _ kc (f.cr.map Xg.cs) rfl (HXk.out.ext xl) (Ks.xg _) ?f1 ?f2 ?f3 ?_)
            case f1 => have := HL.out.1; simp; omega
            case f2 => have := HL.out.1; simp; omega
            case f3 => exact xl.size
            intro v8 w8 hown hgr hat
            have hown2 : w8.ownsRow W5.heap.size 52 5 v8 (1 + kn) ((⟨A, A, 1⟩ :: f.cr).map Xg.cs).flatten := by
              have h1 := HL.out.1
              rw [h1]; simpa using hown
            obtain ⟨a8, c8, rfl, _⟩ := own_slice hown2
            clear q0 q1 q2 q3 i0 i1
            have hB8 : B4 w8 gb (.slice (some ⟨g0, 0, none⟩) 6 6) (.slice ka kn kc) (.slice la ln lc) (.slice fa fn fc) 35 := own_ne_grown HXl.out (HBx.out.ext xl) (by decide) hgr
            have hh8 := own_keep (own_extk Hoh.out xl) hgr (own_ty (own_extk Hoh.out xl) HXl.out (by decide))
            have hf8 := own_keep (own_extk Hof.out xl) hgr (own_ty (own_extk Hof.out xl) HXl.out (by decide))
            have p0 := hB8.c1; have p1 := hB8.fr 1
            obtain ⟨WA, hWA⟩ : ∃ WA, WA = w8.setCell ⟨gb, 1, none⟩ (.slice a8 (1 + kn) c8) := ⟨_, rfl⟩
            have XA := Lib.hid (show Ext w WA by rw [hWA]; exact Ext.setCell (Ext.grown (XL5.out.trans xl) hgr fun g e => Nat.le_trans XL5.out.size (HXl.out.lt g e).1) Hsz.out.2.1 _)
            have hag : Agr g0 w1 WA := by
              rw [hWA]
              exact (Agr.grown (fun i h1 h2 => by rw [Below.block xl i (by have := Hs5.out; omega)]; exact HAg5.out i h1 h2) (Nat.le_trans Hs5.out xl.size) hgr fun g e => Nat.le_trans Hs5.out (HXl.out.lt g e).1).set (.inr Hsz.out.1) _
            have HBk := Lib.hid (show B4 WA gb (.slice (some ⟨g0, 0, none⟩) 6 6) (.slice a8 (1 + kn) c8) (.slice la ln lc) (.slice fa fn fc) 35 by rw [hWA]; exact hB8.put1 _)
            have HFk := Lib.hid (show FB WA (.slice (some ⟨g0, 0, none⟩) 6 6) (.slice a8 (1 + kn) c8) (.slice la ln lc) (.slice fa fn fc) { f with cr := ⟨A, A, 1⟩ :: f.cr } from fb_of HO.out H6.out.1 hag H6.out.2
              (by rw [hWA]; exact own_xl (own_box hown2 hB8 (by decide) _ _) (by rw [List.length_cons, ← HL.out.1]; omega))
              (by rw [hWA]; exact own_nl (own_box hh8 hB8 (by decide) _ _) HL.out.2.1)
              (by rw [hWA]; exact own_nl (own_box hf8 hB8 (by decide) _ _) HL.out.2.2))
            have HIdA := Lib.hid (show BN WA gi' A by rw [hWA]; exact BN.set (BN.grown (HIdA.out.ext xl) hgr (fun e => by have h1 := (HXl.out.lt gi' e).1; have h2 := HIdA.out.lt; omega)) (by dsimp only; have h1 := (HB2.out).lt; have h2 := Hgi.out; omega) _)
            have HFIk := Lib.hid (show FIn { f with cr := ⟨A, A, 1⟩ :: f.cr } from ⟨HFI.out.held, HFI.out.fallen, fun c hc => by
              rcases List.mem_cons.1 hc with rfl | hc
              · exact ⟨HAin.out, HAin.out, by dsimp only; omega, by dsimp only; omega⟩
              · exact HFI.out.cr c hc, HFI.out.ys, HFI.out.n1, HFI.out.n2, by have := Hcl.out; simp; omega, HFI.out.n4, HFI.out.n5, HFI.out.n6⟩)
            have HEk := Lib.hid (show fchk { f with cr := ⟨A, A, 1⟩ :: f.cr } = 1 from spoil5 HChk.out A)
            have HOk := Lib.hid (show ({ f with cr := ⟨A, A, 1⟩ :: f.cr } : Fab).ys.length = 6 → OKT ({ f with cr := ⟨A, A, 1⟩ :: f.cr } : Fab).ys from fun _ => HOKT.out)
            have HWA := Lib.hid hWA
            clear hown hown2 hgr hat xl hB8 hh8 hf8 hWA hag
            go_wp2_with fail
            rw [← HWA.out]
            clear p0 p1
            go_meet
            case rel => exact PostC.of (fp := { f with cr := ⟨A, A, 1⟩ :: f.cr }) HBk.out HFk.out HIdA.out HFIk.out HEk.out (by decide) HOk.out XA.out
          · as_aux_lemma =>
            by_cases hk0 : kn = 0
            · have m1 : ((kn : Int) == 0) = true := by rw [hk0]; rfl
              obtain ⟨q0, q1, q2, q3⟩ := B4.cells HBx.out
              go_wp2_with fail
              refine (Lives_calls W5 (HT.out.ext XL5.out)).mono ?_
              rintro e wD ⟨rfl, xD⟩
              have XD := Lib.hid (XL5.out.trans xD)
              clear xD
              go_wp2
              go_ret
              exact ⟨rfl, XD.out⟩
            · have m1 : ((kn : Int) == 0) = false := beq_eq_false_iff_ne.2 (by omega)
              have m6 : (0 : Int) < kn := by omega
              have m6n : 0 < kn := by omega
              obtain ⟨g, cap, e, hgw, _⟩ := Hoc.out.form (by omega)
              cases e
              obtain ⟨q0, q1, q2, q3⟩ := B4.cells HBx.out
              have ql := HBx.out.lt
              have hgl := (Hoc.out.lt g rfl).2
              have z4 := cells_fz Hoc.out 4
              have hkn := HL.out.1
              have h0 : f.cr ≠ [] := fun e => by rw [e] at hkn; simp at hkn; omega
              have hgi : gi' ≠ g := fun e => by have h1 := (HOF.out.c.lt g rfl).2; have h2 := Hgi.out; omega
              have hgb : gb ≠ g := fun e => own_b4 Hoc.out HBx.out (by decide) (by rw [e]; rfl)
              have hdh : (Value.slice la ln lc).ownBlock ≠ some g := fun e => own_ty Hoh.out Hoc.out (by decide) g e rfl
              have hdf : (Value.slice fa fn fc).ownBlock ≠ some g := fun e => own_ty Hof.out Hoc.out (by decide) g e rfl
              have hl2 : (f.cr.map Xg.cs).flatten.length = kn * 5 := by rw [(Ks.xg _).len, List.length_map, ← HL.out.1]
              have HN := Lib.hid (show ∀ v W6, (v = 0 ∨ v = 1048577 ∨ v = -1048577) → Ext W5 W6 → PostC w gb gi' A (.int .i64 1) (W6.setCell ⟨g, 4, none⟩ (.int .i64 v)) from fun v W6 hv x6 => by
                have h2 := own_setAt (own_extk Hoc.out x6) (o := 4) (by rw [hl2]; omega) (.int .i64 v)
                rw [cs_set4 _ h0] at h2
                exact PostC.of (fp := { f with cr := f.cr.set 0 ⟨(xi f.cr 0).a, (xi f.cr 0).b, v⟩ }) (B4.set (HBx.out.ext x6) hgb _)
                  (fb_of HO.out H6.out.1 (Agr.set (fun i h1 h2 => by rw [Below.block x6 i (by have := Hs5.out; omega)]; exact HAg5.out i h1 h2) (.inr hgw) _) H6.out.2 (own_xl h2 (by rw [List.length_set]; exact hkn)) (own_nl (own_set (own_extk Hoh.out x6) hdh _) HL.out.2.1) (own_nl (own_set (own_extk Hof.out x6) hdf _) HL.out.2.2))
                  (BN.set (HIdA.out.ext x6) hgi _)
                  ⟨HFI.out.held, HFI.out.fallen, fun c hc => by
                    rcases List.mem_or_eq_of_mem_set hc with hc | hc
                    · exact HFI.out.cr c hc
                    · have h3 := HFI.out.cr _ (xi_mem (l := f.cr) (i := 0) (by omega))
                      rw [hc]
                      exact ⟨h3.1, h3.2.1, by dsimp only; omega, by dsimp only; omega⟩, HFI.out.ys, HFI.out.n1, HFI.out.n2, by rw [List.length_set]; exact HFI.out.n3, HFI.out.n4, HFI.out.n5, HFI.out.n6⟩
                  (spoil6 HChk.out h0 hv) (by decide) (fun _ => HOKT.out) (Ext.setCell (XL5.out.trans x6) (Nat.le_trans Hsz.out.2.2.2 hgw) _))
              obtain ⟨hr1, hr2⟩ := HR3.out
              have p4 := xs_cell Hoc.out h0
              clear hgi hgb hdh hdf hl2 h0 hkn
              rcases hr2 with rfl | rfl | rfl
              · go_upto_region 36 with fail
                go_region
                all_goals go_wp2_with fail
                all_goals go_meet
                all_goals exact PostC.ext (HN.out 0 _ (by decide) (by (focus (repeat (first | (with_reducible exact Ext.refl _) | (with_reducible apply Ext.drew) | (with_reducible apply Ext.drewN) | (with_reducible apply Ext.alloc)))))) (by (focus (repeat (first | (with_reducible exact Ext.refl _) | (with_reducible apply Ext.drew) | (with_reducible apply Ext.drewN) | (with_reducible apply Ext.alloc)))))
              · go_upto_region 36 with fail
                go_region
                all_goals go_wp2_with fail
                all_goals go_meet
                all_goals exact PostC.ext (HN.out 1048577 _ (by decide) (by (focus (repeat (first | (with_reducible exact Ext.refl _) | (with_reducible apply Ext.drew) | (with_reducible apply Ext.drewN) | (with_reducible apply Ext.alloc)))))) (by (focus (repeat (first | (with_reducible exact Ext.refl _) | (with_reducible apply Ext.drew) | (with_reducible apply Ext.drewN) | (with_reducible apply Ext.alloc)))))
              · go_upto_region 36 with fail
                go_region
                all_goals go_wp2_with fail
                all_goals go_meet
                all_goals exact PostC.ext (HN.out (-1048577) _ (by decide) (by (focus (repeat (first | (with_reducible exact Ext.refl _) | (with_reducible apply Ext.drew) | (with_reducible apply Ext.drewN) | (with_reducible apply Ext.alloc)))))) (by (focus (repeat (first | (with_reducible exact Ext.refl _) | (with_reducible apply Ext.drew) | (with_reducible apply Ext.drewN) | (with_reducible apply Ext.alloc)))))
          · as_aux_lemma =>
            by_cases hk0 : kn = 0
            · have m1 : ((kn : Int) == 0) = true := by rw [hk0]; rfl
              obtain ⟨q0, q1, q2, q3⟩ := B4.cells HBx.out
              go_wp2_with fail
              refine (Lives_calls W5 (HT.out.ext XL5.out)).mono ?_
              rintro e wD ⟨rfl, xD⟩
              have XD := Lib.hid (XL5.out.trans xD)
              clear xD
              go_wp2
              go_ret
              exact ⟨rfl, XD.out⟩
            · have m1 : ((kn : Int) == 0) = false := beq_eq_false_iff_ne.2 (by omega)
              have m2 : IntKind.i64.wrap ((kn : Int) - 1) = (kn : Int) - 1 := IntWalk.i64_in _ ⟨by omega, by omega⟩
              have m3 : ((kn : Int) - 1).toNat = kn - 1 := by omega
              have m4 : (0 : Int) ≤ (kn : Int) - 1 := by omega
              have m5 : (kn : Int) - 1 < kn := by omega
              have m6 : (1 : Int) ≤ kn := by omega
              have m7 : 1 ≤ kn := by omega
              obtain ⟨g, cap, e, hgw, _⟩ := Hoc.out.form (by omega)
              cases e
              obtain ⟨cX, hXk⟩ := own_xl Hoc.out HL.out.1
              obtain ⟨ao', n', e, -, -, -, hat⟩ := XL.open hXk
              cases e
              obtain ⟨bx, ox, e, hP⟩ := hat (kn - 1) (by omega)
              cases e
              obtain ⟨y, hy⟩ : ∃ y, y = xi f.cr (f.cr.length - 1) := ⟨_, rfl⟩
              rw [show kn - 1 = f.cr.length - 1 by rw [HL.out.1]] at hP
              rw [← hy] at hP
              rw [← HL.out.1, Nat.zero_add] at hP
              obtain ⟨ya, hya⟩ : ∃ ya, ya = y.a.y := ⟨_, rfl⟩
              obtain ⟨yb, hyb⟩ : ∃ yb, yb = y.a.n := ⟨_, rfl⟩
              obtain ⟨yc, hyc⟩ : ∃ yc, yc = y.b.y := ⟨_, rfl⟩
              obtain ⟨yd, hyd⟩ : ∃ yd, yd = y.b.n := ⟨_, rfl⟩
              obtain ⟨ye, hye⟩ : ∃ ye, ye = y.n := ⟨_, rfl⟩
              have hyy : y = ⟨⟨ya, yb⟩, ⟨yc, yd⟩, ye⟩ := by rw [hya, hyb, hyc, hyd, hye]
              obtain ⟨q0_2, q0_3, q0_4, q0_5, q0_6⟩ := hP
              rw [← hya] at q0_2; rw [← hyb] at q0_3; rw [← hyc] at q0_4; rw [← hyd] at q0_5; rw [← hye] at q0_6
              have q0_1 := HBx.out.c1
              have hkn := HL.out.1
              have h0 : f.cr ≠ [] := fun e => by rw [e] at hkn; simp at hkn; omega
              have HN := Lib.hid (show ∀ w8 a8 c8, w8.ownsRow w1.heap.size 52 5 (.slice a8 (kn + 1) c8) (kn + 1) ((f.cr ++ [y]).map Xg.cs).flatten → Ext w w8 → Agr g0 w1 w8 → B4 w8 gb (.slice (some ⟨g0, 0, none⟩) 6 6) (.slice (some ⟨g, 0, none⟩) kn kc) (.slice la ln lc) (.slice fa fn fc) 35 → w8.ownsRow w1.heap.size 41 2 (.slice la ln lc) ln (f.held.map Nm.cs).flatten → w8.ownsRow w1.heap.size 41 2 (.slice fa fn fc) fn (f.fallen.map Nm.cs).flatten → BN w8 gi' A → PostC w gb gi' A (.int .i64 1) (w8.setCell ⟨gb, 1, none⟩ (.slice a8 (kn + 1) c8)) from fun w8 a8 c8 hown x8 hag hB8 hh8 hf8 hid => by
                refine PostC.of (fp := { f with cr := f.cr ++ [y] }) (hB8.put1 _) (fb_of HO.out H6.out.1 (hag.set (.inr Hsz.out.1) _) H6.out.2 (own_xl (own_box hown hB8 (by decide) _ _) (by rw [List.length_append, ← hkn]; rfl)) (own_nl (own_box hh8 hB8 (by decide) _ _) HL.out.2.1) (own_nl (own_box hf8 hB8 (by decide) _ _) HL.out.2.2))
                  (BN.set hid (by dsimp only; have h1 := (HB2.out).lt; have h2 := Hgi.out; omega) _)
                  ⟨HFI.out.held, HFI.out.fallen, fun c hc => ?_, HFI.out.ys, HFI.out.n1, HFI.out.n2, by have := Hcl.out; simp; omega, HFI.out.n4, HFI.out.n5, HFI.out.n6⟩
                  (by rw [hy]; exact spoil7c HChk.out h0) (by decide) (fun _ => HOKT.out) (Ext.setCell x8 Hsz.out.2.1 _)
                rcases List.mem_append.1 hc with hc | hc
                · exact HFI.out.cr c hc
                · rw [List.mem_singleton.1 hc, hy]; exact HFI.out.cr _ (xi_mem (by omega)))
              obtain ⟨CRL, hCRL⟩ : ∃ CRL, CRL = f.cr.map Xg.cs := ⟨_, rfl⟩
              have hOc := Hoc.out
              rw [← hCRL] at hOc
              have HOc := Lib.hid hOc
              have hgi : gi' ≠ g := fun e => by have h1 := (HOF.out.c.lt g rfl).2; have h2 := Hgi.out; omega
              have HG := Lib.hid (show ∀ Wc w8 v8, Ext W5 Wc → w8.ownsRow w1.heap.size 52 5 v8 (kn + 1) (CRL ++ [Xg.cs ⟨⟨ya, yb⟩, ⟨yc, yd⟩, ye⟩]).flatten → Wc.grownBy w8 (Value.slice (some ⟨g, 0, none⟩) kn kc).ownBlock → ∃ a8 c8, v8 = .slice a8 (kn + 1) c8 ∧ PostC w gb gi' A (.int .i64 1) (w8.setCell ⟨gb, 1, none⟩ (.slice a8 (kn + 1) c8)) ∧ B4 w8 gb (.slice (some ⟨g0, 0, none⟩) 6 6) (.slice (some ⟨g, 0, none⟩) kn kc) (.slice la ln lc) (.slice fa fn fc) 35 from fun Wc w8 v8 x hown hgr => by
                obtain ⟨a8, c8, rfl, _⟩ := own_slice hown
                have hB8 := own_ne_grown (own_extk Hoc.out x) (HBx.out.ext x) (by decide) hgr
                refine ⟨a8, c8, rfl, HN.out w8 a8 c8 ?_ (Ext.grown (XL5.out.trans x) hgr fun g' e => ?_) (Agr.grown (fun i h1 h2 => by rw [Below.block x i (by have := Hs5.out; omega)]; exact HAg5.out i h1 h2) (Nat.le_trans Hs5.out x.size) hgr fun g' e => ?_) hB8 (own_keep (own_extk Hoh.out x) hgr (own_ty (own_extk Hoh.out x) (own_extk Hoc.out x) (by decide))) (own_keep (own_extk Hof.out x) hgr (own_ty (own_extk Hof.out x) (own_extk Hoc.out x) (by decide))) (BN.grown (HIdA.out.ext x) hgr fun e => hgi (Option.some.inj e).symm), hB8⟩
                · rw [hyy, List.map_append, ← hCRL]; exact hown
                · cases e; exact Nat.le_trans Hsz.out.2.2.2 hgw
                · cases e; exact hgw)
              have HCRL := Lib.hid (show CRL.length = kn ∧ kn ≤ 100 from ⟨by rw [hCRL, List.length_map]; exact hkn.symm, by have := Hcl.out; omega⟩)
              clear hy hat hXk hya hyb hyc hyd hye hyy hkn h0 hOc hCRL hgi
              go_upto_region 41 with fail
              refine region_L (L := 13) (S := fun w' => w'.cell? ⟨gb, 1, Option.none⟩ = some (.slice (some ⟨g, 0, none⟩) kn kc)) (by kernel_rfl) ?_ (fun hHeld => ?_)
              · exact q0_1
              refine anyL_take (i := 0) (v := ?va758_0) rfl (by kernel_rfl) (by kernel_rfl) (by kernel_rfl) (by kernel_rfl) (fun _ _ _ h => h) (Or.inl ⟨by rfl, fun w hSw => ?ti758_0⟩) (by assumption) ?rest758_0
              case ti758_0 => ((try dsimp only at hSw); go_simp; (first | done | with_reducible rfl))
              try simp only [Act.put, List.getElem_toArray, List.getElem_cons_zero, List.getElem_cons_succ, List.setIfInBounds_toArray, List.set_cons_zero, List.set_cons_succ]
              refine anyL_take (i := 1) (v := ?va761_1) rfl (by kernel_rfl) (by kernel_rfl) (by kernel_rfl) (by kernel_rfl) (fun _ _ _ h => h) (Or.inl ⟨by rfl, fun w hSw => ?ti761_1⟩) (by assumption) ?rest761_1
              case ti761_1 => ((try dsimp only at hSw); go_simp; (first | done | with_reducible rfl))
              try simp only [Act.put, List.getElem_toArray, List.getElem_cons_zero, List.getElem_cons_succ, List.setIfInBounds_toArray, List.set_cons_zero, List.set_cons_succ]
              refine anyL_take (i := 2) (v := ?va764_2) rfl (by kernel_rfl) (by kernel_rfl) (by kernel_rfl) (by kernel_rfl) (fun _ _ _ h => h) (Or.inl ⟨by rfl, fun w hSw => ?ti764_2⟩) (by assumption) ?rest764_2
              case ti764_2 => ((try dsimp only at hSw); go_simp; (first | done | with_reducible rfl))
              try simp only [Act.put, List.getElem_toArray, List.getElem_cons_zero, List.getElem_cons_succ, List.setIfInBounds_toArray, List.set_cons_zero, List.set_cons_succ]
              refine anyL_take (i := 3) (v := ?va767_3) rfl (by kernel_rfl) (by kernel_rfl) (by kernel_rfl) (by kernel_rfl) (fun _ _ _ h => h) (Or.inl ⟨by rfl, fun w hSw => ?ti767_3⟩) (by assumption) ?rest767_3
              case ti767_3 => ((try dsimp only at hSw); go_simp; (first | done | with_reducible rfl))
              try simp only [Act.put, List.getElem_toArray, List.getElem_cons_zero, List.getElem_cons_succ, List.setIfInBounds_toArray, List.set_cons_zero, List.set_cons_succ]
              refine anyL_take (i := 4) (v := ?va770_4) rfl (by kernel_rfl) (by kernel_rfl) (by kernel_rfl) (by kernel_rfl) (fun _ _ _ h => h) (Or.inl ⟨by rfl, fun w hSw => ?ti770_4⟩) (by assumption) ?rest770_4
              case ti770_4 => ((try dsimp only at hSw); go_simp; (first | done | with_reducible rfl))
              try simp only [Act.put, List.getElem_toArray, List.getElem_cons_zero, List.getElem_cons_succ, List.setIfInBounds_toArray, List.set_cons_zero, List.set_cons_succ]
              refine anyL_take (i := 5) (v := ?va773_5) rfl (by kernel_rfl) (by kernel_rfl) (by kernel_rfl) (by kernel_rfl) (fun _ _ _ h => h) (Or.inl ⟨by rfl, fun w hSw => ?ti773_5⟩) (by assumption) ?rest773_5
              case ti773_5 => ((try dsimp only at hSw); go_simp; (first | done | with_reducible rfl))
              try simp only [Act.put, List.getElem_toArray, List.getElem_cons_zero, List.getElem_cons_succ, List.setIfInBounds_toArray, List.set_cons_zero, List.set_cons_succ]
              refine anyL_take (i := 6) (v := ?va776_6) rfl (by kernel_rfl) (by kernel_rfl) (by kernel_rfl) (by kernel_rfl) (fun _ _ _ h => h) (Or.inl ⟨by rfl, fun w hSw => ?ti776_6⟩) (by assumption) ?rest776_6
              case ti776_6 => ((try dsimp only at hSw); go_simp; (first | done | with_reducible rfl))
              try simp only [Act.put, List.getElem_toArray, List.getElem_cons_zero, List.getElem_cons_succ, List.setIfInBounds_toArray, List.set_cons_zero, List.set_cons_succ]
              refine anyL_take (i := 7) (v := ?va779_7) rfl (by kernel_rfl) (by kernel_rfl) (by kernel_rfl) (by kernel_rfl) (fun _ _ _ h => h) (Or.inl ⟨by rfl, fun w hSw => ?ti779_7⟩) (by assumption) ?rest779_7
              case ti779_7 => ((try dsimp only at hSw); go_simp; (first | done | with_reducible rfl))
              try simp only [Act.put, List.getElem_toArray, List.getElem_cons_zero, List.getElem_cons_succ, List.setIfInBounds_toArray, List.set_cons_zero, List.set_cons_succ]
              refine anyL_take (i := 8) (v := ?va782_8) rfl (by kernel_rfl) (by kernel_rfl) (by kernel_rfl) (by kernel_rfl) (fun _ _ _ h => h) (Or.inl ⟨by rfl, fun w hSw => ?ti782_8⟩) (by assumption) ?rest782_8
              case ti782_8 => ((try dsimp only at hSw); go_simp; (first | done | with_reducible rfl))
              try simp only [Act.put, List.getElem_toArray, List.getElem_cons_zero, List.getElem_cons_succ, List.setIfInBounds_toArray, List.set_cons_zero, List.set_cons_succ]
              refine anyL_ready (rs := [9]) (by kernel_rfl) (by simp) ?_
              refine AllL.cons rfl (fun K hK => ?_) AllL.nil
              go_simp
              refine hK.out _ _ (fun _ => Ext.cell (by (focus (repeat (first | (with_reducible exact Ext.refl _) | (with_reducible apply Ext.drew) | (with_reducible apply Ext.drewN) | (with_reducible apply Ext.alloc))))) q0_1) ?_
              clear hK K; try simp only [Act.put, List.getElem_toArray, List.getElem_cons_zero, List.getElem_cons_succ, List.setIfInBounds_toArray, List.set_cons_zero, List.set_cons_succ]
              obtain ⟨VA, hVA⟩ : ∃ VA, VA = Value.agg #[.int .u8 ya, .int .i64 yb, .int .u8 yc, .int .i64 yd, .int .i64 ye] := ⟨_, rfl⟩
              rw [← hVA]
              have HVA := Lib.hid hVA
              clear hVA
              refine anyL_ready (rs := [10]) (by kernel_rfl) (by simp) ?_
              refine AllL.cons rfl (fun K hK => ?_) AllL.nil
              go_simp
              generalize hR : Sem.run Tryd.prog _ W5.drew = R
              have hR2 : R = Result.ok (Value.slice (some ⟨W5.heap.size, 0, none⟩) 1 1) (W5.drew.alloc (.cells #[.int .u8 ya, .int .i64 yb, .int .u8 yc, .int .i64 yd, .int .i64 ye] 52)) := by rw [← hR, HVA.out]; rfl
              subst hR2
              clear hR
              go_simp
              refine hK.out _ _ (fun _ => Ext.cell (by (focus (repeat (first | (with_reducible exact Ext.refl _) | (with_reducible apply Ext.drew) | (with_reducible apply Ext.drewN) | (with_reducible apply Ext.alloc))))) q0_1) ?_
              clear hK K; try simp only [Act.put, List.getElem_toArray, List.getElem_cons_zero, List.getElem_cons_succ, List.setIfInBounds_toArray, List.set_cons_zero, List.set_cons_succ]
              refine anyL_ready (rs := [11]) (by kernel_rfl) (by simp) ?_
              refine AllL.cons rfl (fun K hK => ?_) AllL.nil
              have hcl := HCRL.out.1
              have hcl9 := HCRL.out.2
              refine step_app ekX (by rfl) _ _ (by rfl) w1.heap.size (.slice (some ⟨g, 0, none⟩) kn kc) kn CRL (by rfl) (own_extk HOc.out (by (focus (repeat (first | (with_reducible exact Ext.refl _) | (with_reducible apply Ext.drew) | (with_reducible apply Ext.drewN) | (with_reducible apply Ext.alloc)))))) _ 1 [Xg.cs ⟨⟨ya, yb⟩, ⟨yc, yd⟩, ye⟩] (by rfl) (CK.of_blk (Deep.blk_alloc_new _ _) (Ks.xg [⟨⟨ya, yb⟩, ⟨yc, yd⟩, ye⟩]) rfl (Nat.le_refl _) (by omega) rfl) (Ks.xg [⟨⟨ya, yb⟩, ⟨yc, yd⟩, ye⟩]) (by simp; omega) (by simp; omega) (Nat.le_trans Hs5.out (Ext.size (by (focus (repeat (first | (with_reducible exact Ext.refl _) | (with_reducible apply Ext.drew) | (with_reducible apply Ext.drewN) | (with_reducible apply Ext.alloc))))))) ?_
              clear hcl hcl9
              intro v8 w8 hown hgr hat
              obtain ⟨a8, c8, rfl, hP, hB8⟩ := HG.out _ _ _ (by (focus (repeat (first | (with_reducible exact Ext.refl _) | (with_reducible apply Ext.drew) | (with_reducible apply Ext.drewN) | (with_reducible apply Ext.alloc))))) hown hgr
              have HP := Lib.hid hP
              have p0 := hB8.c1; have p1 := hB8.fr 1
              clear hown hgr hat hP hB8
              refine hK.out _ _ (fun _ => p0) ?_
              clear hK K; try simp only [Act.put, List.getElem_toArray, List.getElem_cons_zero, List.getElem_cons_succ, List.setIfInBounds_toArray, List.set_cons_zero, List.set_cons_succ]
              refine anyL_ready (rs := [12]) (by kernel_rfl) (by simp) ?_
              refine AllL.cons rfl (fun K hK => ?_) AllL.nil
              go_simp
              refine hK.out _ _ (fun _ => Ext.cell (by (focus (repeat (first | (with_reducible exact Ext.refl _) | (with_reducible apply Ext.drew) | (with_reducible apply Ext.drewN) | (with_reducible apply Ext.alloc))))) p0) ?_
              clear hK K; try simp only [Act.put, List.getElem_toArray, List.getElem_cons_zero, List.getElem_cons_succ, List.setIfInBounds_toArray, List.set_cons_zero, List.set_cons_succ]
              refine anyL_ready (rs := [13]) (by kernel_rfl) (by simp) ?_
              refine AllL.cons rfl (fun K hK => ?_) AllL.nil
              go_simp
              refine hK.out _ _ (fun h => absurd rfl h) ?_
              clear hK K; try simp only [Act.put, List.getElem_toArray, List.getElem_cons_zero, List.getElem_cons_succ, List.setIfInBounds_toArray, List.set_cons_zero, List.set_cons_succ]
              refine anyL_done (by kernel_rfl) ?_ _
              go_wp2_with fail
              go_meet
              case rel => exact HP.out
          · as_aux_lemma =>
            obtain ⟨q0, q1, q2, q3⟩ := B4.cells HBx.out
            have p1 := HBx.out.fr 0
            obtain ⟨WA, hWA⟩ : ∃ WA, WA = W5.setCell ⟨gb, 0, none⟩ (.slice (some ⟨g0, 0, none⟩) 5 6) := ⟨_, rfl⟩
            have XA := Lib.hid (show Ext w WA by rw [hWA]; exact Ext.setCell XL5.out Hsz.out.2.1 _)
            have hag : Agr g0 w1 WA := by rw [hWA]; exact HAg5.out.set (.inr Hsz.out.1) _
            have HBk := Lib.hid (show B4 WA gb (.slice (some ⟨g0, 0, none⟩) 5 6) (.slice ka kn kc) (.slice la ln lc) (.slice fa fn fc) 35 by rw [hWA]; exact HBx.out.put0 _)
            have HFk := Lib.hid (show FB WA (.slice (some ⟨g0, 0, none⟩) 5 6) (.slice ka kn kc) (.slice la ln lc) (.slice fa fn fc) { f with ys := f.ys.take 5 } from ⟨⟨6, by
                have h1 := (HO.out.agr hag).tb H6.out.1
                rw [← H6.out.2] at h1
                exact tb_take h1 (by rw [H6.out.2, H6.out.1]; decide)⟩, by rw [hWA]; exact own_xl (own_box Hoc.out HBx.out (by decide) _ _) HL.out.1, by rw [hWA]; exact own_nl (own_box Hoh.out HBx.out (by decide) _ _) HL.out.2.1, by rw [hWA]; exact own_nl (own_box Hof.out HBx.out (by decide) _ _) HL.out.2.2⟩)
            have HIdA := Lib.hid (show BN WA gi' A by rw [hWA]; exact BN.set HIdA.out (by dsimp only; have h1 := (HB2.out).lt; have h2 := Hgi.out; omega) _)
            have HFIk := Lib.hid (show FIn { f with ys := f.ys.take 5 } from ⟨HFI.out.held, HFI.out.fallen, HFI.out.cr, fun r hr => HFI.out.ys r (List.mem_of_mem_take hr), HFI.out.n1, HFI.out.n2, HFI.out.n3, by show (f.ys.take 5).length ≤ 100; rw [List.length_take]; omega, fun r hr => HFI.out.n5 r (List.mem_of_mem_take hr), fun r hr => HFI.out.n6 r (List.mem_of_mem_take hr)⟩)
            have HEk := Lib.hid (show fchk { f with ys := f.ys.take 5 } = 5 from spoil8 (by rw [H6.out.2]; exact H6.out.1))
            have HOk := Lib.hid (show ({ f with ys := f.ys.take 5 } : Fab).ys.length = 6 → OKT ({ f with ys := f.ys.take 5 } : Fab).ys from fun h => by exfalso; have h2 : (f.ys.take 5).length = 6 := h; rw [List.length_take] at h2; omega)
            have HWA := Lib.hid hWA
            clear hWA hag
            go_wp2_with fail
            rw [← HWA.out]
            clear q0 q1 q2 q3 p1
            go_meet
            case rel => exact PostC.of (fp := { f with ys := f.ys.take 5 }) HBk.out HFk.out HIdA.out HFIk.out HEk.out (by decide) HOk.out XA.out
        case rest =>
          obtain ⟨t1, t2, t3, c1, c2, c3, h1, h2, h3, f1, f2, f3, fp, E, rfl, hb, hfb, hid, hfi, hfe, hE0, hfo, xa⟩ := hcut
          have HBk := Lib.hid hb; have HFk := Lib.hid hfb; have HFIk := Lib.hid hfi; have HEk := Lib.hid hfe; have HE0 := Lib.hid hE0; have HOk := Lib.hid hfo; have XA := Lib.hid xa; have HIdA := Lib.hid hid
          have hEE : (E == E) = true := by simp
          clear hb hfb hfi hfe hE0 hfo xa hid
          obtain ⟨q0, q1, q2, q3⟩ := B4.cells HBk.out
          obtain ⟨i0, i1⟩ := HIdA.out.at
          simp only [Nat.zero_add] at i1
          have HCr := Lib.hid (show Calls Tryd.prog 16 #[.agg #[.slice t1 t2 t3, .slice c1 c2 c3, .slice h1 h2 h3, .slice f1 f2 f3], .agg #[.int .u8 A.y, .int .i64 A.n], .agg #[.int .u8 A.y, .int .i64 A.n], .int .i64 1] wc (RetCr wc E (crossF fp A A 1)) from by
            have h1 := Cross_calls _ _ _ _ fp A A 1 wc HFk.out HFIk.out HOk.out HAin.out HAin.out (by omega)
            rw [bad_cross HEk.out HE0.out] at h1
            exact h1)
          have HC2 := Lib.hid (show ∀ w', Ext wc w' → Calls Tryd.prog 14 #[.agg #[.slice t1 t2 t3, .slice c1 c2 c3, .slice h1 h2 h3, .slice f1 f2 f3]] w' fun e w'' => e = .returned (.int .i64 E) ∧ Ext w' w'' from fun w' x' => by
            have h1 := Check_calls _ _ _ _ fp w' (HFk.out.ext x') HFIk.out HOk.out
            rw [HEk.out] at h1
            exact h1)
          go_wp2_with fail
          clear q0 q1 q2 q3 i0 i1
          refine HCr.out.mono ?_
          rintro e wB hr
          obtain ⟨k1, m1, s1, k2, m2, s2, k3, m3, s3, k4, m4, s4, rfl, xB, -, -⟩ := hr.open
          have XB := Lib.hid (xB.alloc (.cells #[.slice k1 m1 s1, .slice k2 m2 s2, .slice k3 m3 s3, .slice k4 m4 s4] 35))
          obtain ⟨q0, q1, q2, q3⟩ := B4.cells (HBk.out.ext XB.out)
          clear hr xB
          go_wp2_with fail
          clear q0 q1 q2 q3
          refine (HC2.out _ XB.out).mono ?_
          rintro e wC ⟨rfl, xC⟩
          have XC := Lib.hid (XA.out.trans (XB.out.trans xC))
          clear xC
          go_wp2_with fail
          refine (Lives_calls wC (HT.out.ext XC.out)).mono ?_
          rintro e wD ⟨rfl, xD⟩
          have XD := Lib.hid (XC.out.trans xD)
          clear xD
          go_wp2
          go_ret
          exact ⟨rfl, XD.out⟩
end Go.Proofs.YtlhkehfplcclgaaDoor
