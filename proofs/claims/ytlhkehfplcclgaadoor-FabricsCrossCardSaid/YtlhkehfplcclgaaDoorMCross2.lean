/- Texts of this claim in one file: libraries and walks. -/
import Derived.Deep.CutBlock
import Derived.Test.YtlhkehfplcclgaaDoorMCross1
/- The law FabricsCross: the walk. -/
namespace Go.Proofs.YtlhkehfplcclgaaDoor
set_option linter.unusedVariables false
set_option linter.unusedSimpArgs false
set_option maxRecDepth 8000
open Go Go.RowKit Go.Sort

theorem Agr.trans' {N : Nat} {a b c : World} (h : Agr N a b) (hs : a.heap.size ≤ b.heap.size) (k : Agr N b c) : Agr N a c := fun i h1 h2 => by
  rw [k i h1 (by omega)]; exact h i h1 h2
theorem Agr.ext' {N : Nat} {a b c : World} (x : Ext a b) (k : Agr N b c) : Agr N a c := Agr.trans' (Agr.ext x) x.size k
set_option maxHeartbeats 16000000 in
theorem FabricsCross_walk (tv hv cv lv : Value) (lc : Nat) (fal : Int) (x : FD) (L : List (Int × Int × Int)) (w : World) (ht : PTab w) (h : FDm w tv fal hv cv x) (hL : CL3 w lv lc L) (hLi : ∀ c ∈ L, C3.In c) :
    Calls Tryd.prog 8 #[.agg #[tv, .int .u64 fal, hv, cv], lv] w fun e w' => e = .returned (.bool true) ∧ Ext w w' := by
  have HM := Lib.hid h
  obtain ⟨⟨tc, hT⟩, hfal, ⟨hc, hH⟩, ⟨cc, hC⟩, -⟩ := h
  obtain ⟨ta, tn, rfl, htn, -⟩ := hT.open
  obtain ⟨ha, hn, rfl, -⟩ := hH.atD
  obtain ⟨ca, cn, rfl, hcn, hcc, hc9, -⟩ := hC.open
  obtain ⟨va, vn, rfl, hvn, hvc, hv9, hVat⟩ := hL.open
  obtain ⟨W0, hW0⟩ : ∃ W0, W0 = w.alloc (.cells #[.slice ta tn tc, .int .u64 fal, .slice ha hn hc, .slice ca cn cc] 28) := ⟨_, rfl⟩
  have xW : Ext w W0 := by rw [hW0]; exact (Ext.refl _).alloc _
  have HW0 := Lib.hid hW0; have XW := Lib.hid xW
  have HB := Lib.hid (show B4 W0 w.heap.size (.slice ta tn tc) (.int .u64 fal) (.slice ha hn hc) (.slice ca cn cc) 28 by rw [hW0]; exact B4.new _ _ _ _ _ _)
  have HT := Lib.hid ht; have Hcn := Lib.hid hcn; have Hvn := Lib.hid hvn
  have HV := Lib.hid (fun i (hi : i < vn) => (And.intro (by obtain ⟨b, o, e, ha⟩ := hVat i hi; exact ⟨b, o, e, ha.ext xW⟩) (hLi _ (c3_mem (by omega))) : (∃ b o, va = some ⟨b, o, none⟩ ∧ At3 W0 b (o + i * 3) (c3 L i)) ∧ C3.In (c3 L i)))
  obtain ⟨q0, q1, q2, q3⟩ := B4.cells HB.out
  rw [hW0] at q0 q1 q2 q3
  clear hT hfal hH hC hL htn hcn hcc hc9 hW0 xW ht hvn hVat hLi hvc
  go_enter Tryd.func8, Tryd.ntmps8
  obtain ⟨BIG, hBIG⟩ : ∃ BIG : Bool, BIG = decide (20 < tn ∨ 30 < cn ∨ 30 < vn) := ⟨_, rfl⟩
  have HBIG := Lib.hid hBIG
  clear hBIG
  go_upto_region 1 with fail
  rw [← HW0.out]
  clear q0 q1 q2 q3
  obtain ⟨q0, q1, q2, q3⟩ := B4.cells HB.out
  go_cut [31] from 17 to 32 (fun c wx => c = .bool BIG ∧ W0 = wx)
  case first =>
    by_cases h1 : 20 < tn
    · have f1 : (20 : Int) < tn := by omega
      have f2 : decide ((20 : Int) < tn) = true := decide_eq_true f1
      have hb : BIG = true := by rw [HBIG.out]; exact decide_eq_true (.inl h1)
      subst hb
      go_wp2_with fail
      go_meet
      case rel => exact ⟨rfl, rfl⟩
    · have f1 : ¬ (20 : Int) < tn := by omega
      have f2 : decide ((20 : Int) < tn) = false := decide_eq_false f1
      by_cases h2 : 30 < cn
      · have f3 : (30 : Int) < cn := by omega
        have f4 : decide ((30 : Int) < cn) = true := decide_eq_true f3
        have hb : BIG = true := by rw [HBIG.out]; exact decide_eq_true (.inr (.inl h2))
        subst hb
        go_wp2_with fail
        go_meet
        case rel => exact ⟨rfl, rfl⟩
      · have f3 : ¬ (30 : Int) < cn := by omega
        have f4 : decide ((30 : Int) < cn) = false := decide_eq_false f3
        by_cases h3 : 30 < vn
        · have f5 : (30 : Int) < vn := by omega
          have f6 : decide ((30 : Int) < vn) = true := decide_eq_true f5
          have hb : BIG = true := by rw [HBIG.out]; exact decide_eq_true (.inr (.inr h3))
          subst hb
          go_wp2_with fail
          go_meet
          case rel => exact ⟨rfl, rfl⟩
        · have f5 : ¬ (30 : Int) < vn := by omega
          have f6 : decide ((30 : Int) < vn) = false := decide_eq_false f5
          have hb : BIG = false := by rw [HBIG.out]; exact decide_eq_false (fun e => by omega)
          subst hb
          go_wp2_with fail
          go_meet
          case rel => exact ⟨rfl, rfl⟩
  case rest =>
    obtain ⟨rfl, rfl⟩ := hcut
    cases BIG with
    | true =>
      go_wp2_with fail
      clear q0 q1 q2 q3
      refine (Lives_calls W0 (HT.out.ext XW.out)).mono ?_
      rintro e w2 ⟨rfl, x2⟩
      have X2 := Lib.hid (XW.out.trans x2)
      clear x2
      go_wp2
      go_ret
      exact ⟨rfl, X2.out⟩
    | false =>
      have hbig := of_decide_eq_false HBIG.out.symm
      have Hbig := Lib.hid hbig
      have hv30 : vn ≤ 30 := by omega
      clear hbig
      go_wp2_with fail
      clear q0 q1 q2 q3
      refine (OfF_calls _ _ _ fal x W0 (HM.out.ext XW.out)).mono ?_
      rintro e w2 hR
      obtain ⟨g0, ka, kn, kc, la, ln, lc', fa, fn, fc, ma, mn, mc, rfl, ⟨hkn, hln, hfn, hmn⟩, hFB, hNL, hx⟩ := hR.open
      have hok := fok x
      have hx30 : x.cross.length ≤ 30 := by rw [← Hcn.out]; have := Hbig.out; omega
      have hfin := hok.fin (by omega)
      have hchk := hok.chk (by omega)
      have hOKT := hok.ok
      have hcr := hok.cr.mono (k' := 30) (by omega)
      have hcl : (ofF x).cr.length ≤ 30 := by
        have h1 := ofC_len (ofT x.t).made x.cross []
        show (ofC (ofT x.t).made x.cross).length ≤ 30
        unfold ofC; split
        · simp at h1; omega
        · simp
      have hhas : ∀ i, i < mn → hasB (ofF x).ys (ni (ofT x.t).made i) = true := fun i hi => (hok.inv.cov _).2 (ni_mem (by omega))
      have hin : ∀ a, hasB (ofF x).ys a = true → a.In := fun a ha => nm_in hok.inv.l6 (by rw [hok.inv.cnt]; have := hok.m60; omega) ha
      have h6 : (ofF x).ys.length = 6 := hok.inv.l6
      have hm60 : mn ≤ 60 := by have := hok.m60; omega
      obtain ⟨made, hmade⟩ : ∃ made, made = (ofT x.t).made := ⟨_, rfl⟩
      obtain ⟨f, hf⟩ : ∃ f, f = ofF x := ⟨_, rfl⟩
      have hys : (ofT x.t).t = f.ys := by rw [hf]; rfl
      rw [hys] at hcr
      rw [← hf] at hkn hln hfn hFB hfin hchk hOKT hcr hcl hhas hin h6
      rw [← hmade] at hNL hhas hmn
      obtain ⟨W2, hW2⟩ : ∃ W2, W2 = w2.alloc (.cells #[.slice (some ⟨g0, 0, none⟩) 6 6, .slice ka kn kc, .slice la ln lc', .slice fa fn fc] 35) := ⟨_, rfl⟩
      have X2 := Lib.hid (show Ext w W2 by rw [hW2]; exact (XW.out.trans hx).alloc _)
      have X02 := Lib.hid (show Ext W0 W2 by rw [hW2]; exact hx.alloc _)
      have hFB2 : FB W2 (.slice (some ⟨g0, 0, none⟩) 6 6) (.slice ka kn kc) (.slice la ln lc') (.slice fa fn fc) f := by rw [hW2]; exact hFB.ext ((Ext.refl _).alloc _)
      obtain ⟨gb, hgb⟩ : ∃ gb, gb = w2.heap.size := ⟨_, rfl⟩
      have HB2 := Lib.hid (show B4 W2 gb (.slice (some ⟨g0, 0, none⟩) 6 6) (.slice ka kn kc) (.slice la ln lc') (.slice fa fn fc) 35 by rw [hW2, hgb]; exact B4.new _ _ _ _ _ _)
      have HNL := Lib.hid (show NL W2 (.slice ma mn mc) mc made by rw [hW2]; exact hNL.ext ((Ext.refl _).alloc _))
      have HFB := Lib.hid hFB2; have HW2 := Lib.hid hW2; have Hgb := Lib.hid hgb; have HChk := Lib.hid hchk; have HOKT := Lib.hid hOKT; have HFI := Lib.hid hfin; have Hcr := Lib.hid (And.intro hcr hcl); have Hhas := Lib.hid hhas; have HIn := Lib.hid hin; have H6 := Lib.hid h6; have Hmn := Lib.hid hmn
      have HCk := Lib.hid (Check_calls (.slice (some ⟨g0, 0, none⟩) 6 6) (.slice ka kn kc) (.slice la ln lc') (.slice fa fn fc) f W2 hFB2 hfin (fun _ => hOKT))
      rw [hchk] at HCk
      clear hR hkn hln hfn hmn hFB hNL hx hok hchk hOKT hf hW2 hFB2 hgb hx30 hfin hcr hcl hhas hin h6 hys hmade
      go_upto_region 4 with fail
      rw [← HW2.out, ← Hgb.out]
      obtain ⟨q0, q1, q2, q3⟩ := B4.cells HB2.out
      go_wp2_with fail
      clear q0 q1 q2 q3
      refine HCk.out.mono ?_
      rintro e w3 ⟨rfl, x3⟩
      have X3 := Lib.hid x3
      obtain ⟨q0, q1, q2, q3⟩ := B4.cells (HB2.out.ext x3)
      clear x3
      by_cases hm2 : mn < 2
      · have f1 : (mn : Int) < 2 := by omega
        have XL2 := Lib.hid (X2.out.trans X3.out)
        clear hm2
        go_wp2_with fail
        clear q0 q1 q2 q3
        refine (Lives_calls w3 (HT.out.ext XL2.out)).mono ?_
        rintro e w4 ⟨rfl, x4⟩
        have X4 := Lib.hid (XL2.out.trans x4)
        clear x4
        go_wp2
        go_ret
        exact ⟨rfl, X4.out⟩
      · have f1 : ¬ (mn : Int) < 2 := by omega
        obtain ⟨W4, hW4⟩ : ∃ W4, W4 = w3.alloc (.cells #[.slice (some ⟨g0, 0, none⟩) 6 6, .slice ka kn kc, .slice la ln lc', .slice fa fn fc] 35) := ⟨_, rfl⟩
        obtain ⟨gg, hgg⟩ : ∃ gg, gg = w3.heap.size := ⟨_, rfl⟩
        have X4 := Lib.hid (show Ext w3 W4 by rw [hW4]; exact (Ext.refl _).alloc _)
        have HB4 := Lib.hid (show B4 W4 gg (.slice (some ⟨g0, 0, none⟩) 6 6) (.slice ka kn kc) (.slice la ln lc') (.slice fa fn fc) 35 by rw [hW4, hgg]; exact B4.new _ _ _ _ _ _)
        have HW4 := Lib.hid hW4; have Hgg := Lib.hid hgg
        have HF3 := Lib.hid (HFB.out.ext X3.out)
        clear hW4 hgg
        go_upto_region 9 with fail
        rw [← HW4.out, ← Hgg.out]
        clear q0 q1 q2 q3
        obtain ⟨q0, q1, q2, q3⟩ := B4.cells ((HB2.out.ext X3.out).ext X4.out)
        go_wp2_with fail
        clear q0 q1 q2 q3
        go_loopg [8, 9, 10, 11, 12, 13, 14, 15, 16] vn (fun g wv iv _ _ _ _ _ _ _ wr => ∃ (i : Nat) (l : List Xg) (a1 a2 a3 a4 wa : Option Addr) (n1 n2 n3 n4 d1 d2 d3 d4 wn wc : Nat), g + i = vn ∧ iv = .int .i64 i ∧ wv = .slice wa wn wc ∧ Hid (Ext w3 wr ∧ B4 wr gg (.slice a1 n1 d1) (.slice a2 n2 d2) (.slice a3 n3 d3) (.slice a4 n4 d4) 35 ∧ FB wr (.slice a1 n1 d1) (.slice a2 n2 d2) (.slice a3 n3 d3) (.slice a4 n4 d4) (f.wc l) ∧ XL wr (.slice wa wn wc) wc l ∧ XOk f.ys (30 + i) l ∧ l.length ≤ 30 + i))
        case atStart =>
          obtain ⟨cx, hXc⟩ := HF3.out.c
          have hXc' : XL w3 (.slice ka kn kc) kc f.cr := by
            obtain ⟨a', n', e, _⟩ := XL.open hXc
            cases e; exact hXc
          exact ⟨0, f.cr, _, _, _, _, ka, _, _, _, _, _, _, _, _, kn, kc, by omega, rfl, rfl, Lib.hid ⟨X4.out, HB4.out, HF3.out.ext X4.out, hXc'.ext X4.out, Hcr.out.1, Hcr.out.2⟩⟩
        case round =>
          obtain ⟨i, l, a1, a2, a3, a4, wa, n1, n2, n3, n4, d1, d2, d3, d4, wn, wc', hgi, rfl, rfl, G⟩ := hrel
          have Hgi := Lib.hid hgi
          by_cases hiv : i < vn
          · have f2 : (i : Int) < vn := by omega
            have f4 : (0 : Int) ≤ i := by omega
            clear hgi
            obtain ⟨C, hC⟩ : ∃ C, C = c3 L i := ⟨_, rfl⟩
            obtain ⟨⟨bq, oq, rfl, hq⟩, hCi⟩ := HV.out i hiv
            rw [← hC] at hq hCi
            obtain ⟨ia, hia⟩ : ∃ ia, ia = C.1.toNat % mn := ⟨_, rfl⟩
            obtain ⟨ib, hib⟩ : ∃ ib, ib = C.2.1.toNat % mn := ⟨_, rfl⟩
            have hial : ia < mn := by rw [hia]; exact Nat.mod_lt _ (by omega)
            have hibl : ib < mn := by rw [hib]; exact Nat.mod_lt _ (by omega)
            have z1 : wrap64 C.1 = C.1 := IntWalk.wrap64_in _ ⟨by have := hCi.1; omega, by have := hCi.1; omega⟩
            have z2 : wrap64 C.2.1 = C.2.1 := IntWalk.wrap64_in _ ⟨by have := hCi.2.1; omega, by have := hCi.2.1; omega⟩
            have z1' : IntKind.i64.wrap C.1 = C.1 := IntWalk.i64_in _ ⟨by have := hCi.1; omega, by have := hCi.1; omega⟩
            have z2' : IntKind.i64.wrap C.2.1 = C.2.1 := IntWalk.i64_in _ ⟨by have := hCi.2.1; omega, by have := hCi.2.1; omega⟩
            have z3 : C.1.tmod (mn : Int) = (ia : Int) := by
              rw [Int.tmod_eq_emod_of_nonneg hCi.1.1, hia]
              have h1 : C.1 = (C.1.toNat : Int) := by have := hCi.1; omega
              conv => lhs; rw [h1]
              rw [← Int.natCast_emod]
            have z4 : C.2.1.tmod (mn : Int) = (ib : Int) := by
              rw [Int.tmod_eq_emod_of_nonneg hCi.2.1.1, hib]
              have h1 : C.2.1 = (C.2.1.toNat : Int) := by have := hCi.2.1; omega
              conv => lhs; rw [h1]
              rw [← Int.natCast_emod]
            have z5 : ¬ (mn = 0) := by omega
            have z6 : (ia : Int) < mn := by omega
            have z7 : (ib : Int) < mn := by omega
            obtain ⟨ma', mn', e, -, -, -, hMat⟩ := HNL.out.open
            cases e
            obtain ⟨bm, om, rfl, hAa⟩ := hMat ia hial
            obtain ⟨b', o', e, hAb⟩ := hMat ib hibl
            cases e
            obtain ⟨A, hA⟩ : ∃ A, A = ni made ia := ⟨_, rfl⟩
            obtain ⟨B, hB⟩ : ∃ B, B = ni made ib := ⟨_, rfl⟩
            have HhA := Lib.hid (show hasB f.ys A = true by rw [hA]; exact Hhas.out ia hial)
            have HhB := Lib.hid (show hasB f.ys B = true by rw [hB]; exact Hhas.out ib hibl)
            rw [← hA] at hAa
            rw [← hB] at hAb
            have XR := Lib.hid (X3.out.trans G.out.1)
            obtain ⟨q0_1, q0_2, q0_7⟩ := hq.ext (X02.out.trans XR.out)
            obtain ⟨q0_3, q0_4⟩ := hAa.ext XR.out
            obtain ⟨q0_5, q0_6⟩ := hAb.ext XR.out
            have HC := Lib.hid hCi; have Hq := Lib.hid hq
            clear hC hCi hq hA hB hAa hAb hia hib hMat
            obtain ⟨wo, hwo⟩ : ∃ wo, wo = wr := ⟨_, rfl⟩
            subst hwo
            go_upto_region 13 with fail
            go_cut [10, 11] from 48 to 167 (fun pa pb wx => ∃ ga gb', pa = .pointer (some ⟨ga, 0, none⟩) ∧ pb = .pointer (some ⟨gb', 0, none⟩) ∧ Hid (Ext wo wx ∧ wo.heap.size ≤ ga ∧ wo.heap.size ≤ gb' ∧ ga ≠ gb' ∧ BN wx ga A ∧ BN wx gb' B))
            case first =>
              refine wp_region_held_drew (S := fun w' => w'.cell? ⟨bq, oq + i * 3, Option.none⟩ = some (.int .u8 C.1) ∧ w'.cell? ⟨bq, oq + i * 3 + 1, Option.none⟩ = some (.int .u8 C.2.1) ∧ w'.cell? ⟨bm, om + ia * 2, Option.none⟩ = some (.int .u8 A.y) ∧ w'.cell? ⟨bm, om + ia * 2 + 1, Option.none⟩ = some (.int .i64 A.n) ∧ w'.cell? ⟨bm, om + ib * 2, Option.none⟩ = some (.int .u8 B.y) ∧ w'.cell? ⟨bm, om + ib * 2 + 1, Option.none⟩ = some (.int .i64 B.n)) (by kernel_rfl) ?_ (fun hHeld => ?_)
              · exact ⟨q0_1, q0_2, q0_3, q0_4, q0_5, q0_6⟩
              refine wpAnyH_take (i := 0) (v := ?va230_0) rfl (by kernel_rfl) (by kernel_rfl) (by kernel_rfl) (fun _ _ _ h => h) (Or.inl ⟨by rfl, fun w hSw => ?ti230_0⟩) (by assumption) ?rest230_0
              case ti230_0 => ((try dsimp only at hSw); go_simp; (first | done | with_reducible rfl))
              try simp only [Act.put, List.getElem_toArray, List.getElem_cons_zero, List.getElem_cons_succ, List.setIfInBounds_toArray, List.set_cons_zero, List.set_cons_succ]
              refine wpAnyH_take (i := 1) (v := ?va233_1) rfl (by kernel_rfl) (by kernel_rfl) (by kernel_rfl) (fun _ _ _ h => h) (Or.inl ⟨by rfl, fun w hSw => ?ti233_1⟩) (by assumption) ?rest233_1
              case ti233_1 => ((try dsimp only at hSw); go_simp; (first | done | with_reducible rfl))
              try simp only [Act.put, List.getElem_toArray, List.getElem_cons_zero, List.getElem_cons_succ, List.setIfInBounds_toArray, List.set_cons_zero, List.set_cons_succ]
              refine wpAnyH_take (i := 2) (v := ?va236_2) rfl (by kernel_rfl) (by kernel_rfl) (by kernel_rfl) (fun _ _ _ h => h) (Or.inl ⟨by rfl, fun w hSw => ?ti236_2⟩) (by assumption) ?rest236_2
              case ti236_2 => ((try dsimp only at hSw); go_simp; (first | done | with_reducible rfl))
              try simp only [Act.put, List.getElem_toArray, List.getElem_cons_zero, List.getElem_cons_succ, List.setIfInBounds_toArray, List.set_cons_zero, List.set_cons_succ]
              refine wpAnyH_take (i := 3) (v := ?va239_3) rfl (by kernel_rfl) (by kernel_rfl) (by kernel_rfl) (fun _ _ _ h => h) (Or.inl ⟨by rfl, fun w hSw => ?ti239_3⟩) (by assumption) ?rest239_3
              case ti239_3 => ((try dsimp only at hSw); go_simp; (first | done | with_reducible rfl))
              try simp only [Act.put, List.getElem_toArray, List.getElem_cons_zero, List.getElem_cons_succ, List.setIfInBounds_toArray, List.set_cons_zero, List.set_cons_succ]
              refine wpAnyH_take (i := 4) (v := ?va242_4) rfl (by kernel_rfl) (by kernel_rfl) (by kernel_rfl) (fun _ _ _ h => h) (Or.inl ⟨by rfl, fun w hSw => ?ti242_4⟩) (by assumption) ?rest242_4
              case ti242_4 => ((try dsimp only at hSw); go_simp; (first | done | with_reducible rfl))
              try simp only [Act.put, List.getElem_toArray, List.getElem_cons_zero, List.getElem_cons_succ, List.setIfInBounds_toArray, List.set_cons_zero, List.set_cons_succ]
              refine wpAnyH_take (i := 5) (v := ?va245_5) rfl (by kernel_rfl) (by kernel_rfl) (by kernel_rfl) (fun _ _ _ h => h) (Or.inl ⟨by rfl, fun w hSw => ?ti245_5⟩) (by assumption) ?rest245_5
              case ti245_5 => ((try dsimp only at hSw); go_simp; (first | done | with_reducible rfl))
              try simp only [Act.put, List.getElem_toArray, List.getElem_cons_zero, List.getElem_cons_succ, List.setIfInBounds_toArray, List.set_cons_zero, List.set_cons_succ]
              refine wpAnyH_take (i := 6) (v := ?va248_6) rfl (by kernel_rfl) (by kernel_rfl) (by kernel_rfl) (fun _ _ _ h => h) (Or.inl ⟨by rfl, fun w hSw => ?ti248_6⟩) (by assumption) ?rest248_6
              case ti248_6 => ((try dsimp only at hSw); go_simp; (first | done | with_reducible rfl))
              try simp only [Act.put, List.getElem_toArray, List.getElem_cons_zero, List.getElem_cons_succ, List.setIfInBounds_toArray, List.set_cons_zero, List.set_cons_succ]
              refine wpAnyH_take (i := 7) (v := ?va251_7) rfl (by kernel_rfl) (by kernel_rfl) (by kernel_rfl) (fun _ _ _ h => h) (Or.inl ⟨by rfl, fun w hSw => ?ti251_7⟩) (by assumption) ?rest251_7
              case ti251_7 => ((try dsimp only at hSw); go_simp; (first | done | with_reducible rfl))
              try simp only [Act.put, List.getElem_toArray, List.getElem_cons_zero, List.getElem_cons_succ, List.setIfInBounds_toArray, List.set_cons_zero, List.set_cons_succ]
              refine wpAnyH_take (i := 8) (v := ?va254_8) rfl (by kernel_rfl) (by kernel_rfl) (by kernel_rfl) (fun _ _ _ h => h) (Or.inl ⟨by rfl, fun w hSw => ?ti254_8⟩) (by assumption) ?rest254_8
              case ti254_8 => ((try dsimp only at hSw); go_simp; (first | done | with_reducible rfl))
              try simp only [Act.put, List.getElem_toArray, List.getElem_cons_zero, List.getElem_cons_succ, List.setIfInBounds_toArray, List.set_cons_zero, List.set_cons_succ]
              refine wpAnyH_take (i := 9) (v := ?va257_9) rfl (by kernel_rfl) (by kernel_rfl) (by kernel_rfl) (fun _ _ _ h => h) (Or.inl ⟨by rfl, fun w hSw => ?ti257_9⟩) (by assumption) ?rest257_9
              case ti257_9 => ((try dsimp only at hSw); go_simp; (first | done | with_reducible rfl))
              try simp only [Act.put, List.getElem_toArray, List.getElem_cons_zero, List.getElem_cons_succ, List.setIfInBounds_toArray, List.set_cons_zero, List.set_cons_succ]
              refine wpAnyH_take (i := 10) (v := ?va260_10) rfl (by kernel_rfl) (by kernel_rfl) (by kernel_rfl) (fun _ _ _ h => h) (Or.inl ⟨by rfl, fun w hSw => ?ti260_10⟩) (by assumption) ?rest260_10
              case ti260_10 => ((try dsimp only at hSw); go_simp; (first | done | with_reducible rfl))
              try simp only [Act.put, List.getElem_toArray, List.getElem_cons_zero, List.getElem_cons_succ, List.setIfInBounds_toArray, List.set_cons_zero, List.set_cons_succ]
              refine wpAnyH_take (i := 11) (v := ?va263_11) rfl (by kernel_rfl) (by kernel_rfl) (by kernel_rfl) (fun _ _ _ h => h) (Or.inl ⟨by rfl, fun w hSw => ?ti263_11⟩) (by assumption) ?rest263_11
              case ti263_11 => ((try dsimp only at hSw); go_simp; (first | done | with_reducible rfl))
              try simp only [Act.put, List.getElem_toArray, List.getElem_cons_zero, List.getElem_cons_succ, List.setIfInBounds_toArray, List.set_cons_zero, List.set_cons_succ]
              refine wpAnyH_take (i := 12) (v := ?va266_12) rfl (by kernel_rfl) (by kernel_rfl) (by kernel_rfl) (fun _ _ _ h => h) (Or.inl ⟨by rfl, fun w hSw => ?ti266_12⟩) (by assumption) ?rest266_12
              case ti266_12 => ((try dsimp only at hSw); go_simp; (first | done | with_reducible rfl))
              try simp only [Act.put, List.getElem_toArray, List.getElem_cons_zero, List.getElem_cons_succ, List.setIfInBounds_toArray, List.set_cons_zero, List.set_cons_succ]
              refine wpAnyH_take (i := 13) (v := ?va269_13) rfl (by kernel_rfl) (by kernel_rfl) (by kernel_rfl) (fun _ _ _ h => h) (Or.inl ⟨by rfl, fun w hSw => ?ti269_13⟩) (by assumption) ?rest269_13
              case ti269_13 => ((try dsimp only at hSw); go_simp; (first | done | with_reducible rfl))
              try simp only [Act.put, List.getElem_toArray, List.getElem_cons_zero, List.getElem_cons_succ, List.setIfInBounds_toArray, List.set_cons_zero, List.set_cons_succ]
              refine wpAnyH_take (i := 14) (v := ?va272_14) rfl (by kernel_rfl) (by kernel_rfl) (by kernel_rfl) (fun _ _ _ h => h) (Or.inl ⟨by rfl, fun w hSw => ?ti272_14⟩) (by assumption) ?rest272_14
              case ti272_14 => ((try dsimp only at hSw); go_simp; (first | done | with_reducible rfl))
              try simp only [Act.put, List.getElem_toArray, List.getElem_cons_zero, List.getElem_cons_succ, List.setIfInBounds_toArray, List.set_cons_zero, List.set_cons_succ]
              refine wpAnyH_take (i := 15) (v := ?va275_15) rfl (by kernel_rfl) (by kernel_rfl) (by kernel_rfl) (fun _ _ _ h => h) (Or.inl ⟨by rfl, fun w hSw => ?ti275_15⟩) (by assumption) ?rest275_15
              case ti275_15 => ((try dsimp only at hSw); go_simp; (first | done | with_reducible rfl))
              try simp only [Act.put, List.getElem_toArray, List.getElem_cons_zero, List.getElem_cons_succ, List.setIfInBounds_toArray, List.set_cons_zero, List.set_cons_succ]
              refine wpAnyH_take (i := 16) (v := ?va278_16) rfl (by kernel_rfl) (by kernel_rfl) (by kernel_rfl) (fun _ _ _ h => h) (Or.inl ⟨by rfl, fun w hSw => ?ti278_16⟩) (by assumption) ?rest278_16
              case ti278_16 => ((try dsimp only at hSw); go_simp; (first | done | with_reducible rfl))
              try simp only [Act.put, List.getElem_toArray, List.getElem_cons_zero, List.getElem_cons_succ, List.setIfInBounds_toArray, List.set_cons_zero, List.set_cons_succ]
              refine wpAnyH_take (i := 17) (v := ?va281_17) rfl (by kernel_rfl) (by kernel_rfl) (by kernel_rfl) (fun _ _ _ h => h) (Or.inl ⟨by rfl, fun w hSw => ?ti281_17⟩) (by assumption) ?rest281_17
              case ti281_17 => ((try dsimp only at hSw); go_simp; (first | done | with_reducible rfl))
              try simp only [Act.put, List.getElem_toArray, List.getElem_cons_zero, List.getElem_cons_succ, List.setIfInBounds_toArray, List.set_cons_zero, List.set_cons_succ]
              refine wpAnyH_take (i := 18) (v := ?va284_18) rfl (by kernel_rfl) (by kernel_rfl) (by kernel_rfl) (fun _ _ _ h => h) (Or.inl ⟨by rfl, fun w hSw => ?ti284_18⟩) (by assumption) ?rest284_18
              case ti284_18 => ((try dsimp only at hSw); go_simp; (first | done | with_reducible rfl))
              try simp only [Act.put, List.getElem_toArray, List.getElem_cons_zero, List.getElem_cons_succ, List.setIfInBounds_toArray, List.set_cons_zero, List.set_cons_succ]
              refine wpAnyH_take (i := 19) (v := ?va287_19) rfl (by kernel_rfl) (by kernel_rfl) (by kernel_rfl) (fun _ _ _ h => h) (Or.inl ⟨by rfl, fun w hSw => ?ti287_19⟩) (by assumption) ?rest287_19
              case ti287_19 => ((try dsimp only at hSw); go_simp; (first | done | with_reducible rfl))
              try simp only [Act.put, List.getElem_toArray, List.getElem_cons_zero, List.getElem_cons_succ, List.setIfInBounds_toArray, List.set_cons_zero, List.set_cons_succ]
              refine wpAnyH_take (i := 20) (v := ?va290_20) rfl (by kernel_rfl) (by kernel_rfl) (by kernel_rfl) (fun _ _ _ h => h) (Or.inl ⟨by rfl, fun w hSw => ?ti290_20⟩) (by assumption) ?rest290_20
              case ti290_20 => ((try dsimp only at hSw); go_simp; (first | done | with_reducible rfl))
              try simp only [Act.put, List.getElem_toArray, List.getElem_cons_zero, List.getElem_cons_succ, List.setIfInBounds_toArray, List.set_cons_zero, List.set_cons_succ]
              refine wpAnyH_take (i := 21) (v := ?va293_21) rfl (by kernel_rfl) (by kernel_rfl) (by kernel_rfl) (fun _ _ _ h => h) (Or.inl ⟨by rfl, fun w hSw => ?ti293_21⟩) (by assumption) ?rest293_21
              case ti293_21 => ((try dsimp only at hSw); go_simp; (first | done | with_reducible rfl))
              try simp only [Act.put, List.getElem_toArray, List.getElem_cons_zero, List.getElem_cons_succ, List.setIfInBounds_toArray, List.set_cons_zero, List.set_cons_succ]
              refine wpAnyH_take (i := 22) (v := ?va296_22) rfl (by kernel_rfl) (by kernel_rfl) (by kernel_rfl) (fun _ _ _ h => h) (Or.inl ⟨by rfl, fun w hSw => ?ti296_22⟩) (by assumption) ?rest296_22
              case ti296_22 => ((try dsimp only at hSw); go_simp; (first | done | with_reducible rfl))
              try simp only [Act.put, List.getElem_toArray, List.getElem_cons_zero, List.getElem_cons_succ, List.setIfInBounds_toArray, List.set_cons_zero, List.set_cons_succ]
              refine wpAnyH_take (i := 23) (v := ?va299_23) rfl (by kernel_rfl) (by kernel_rfl) (by kernel_rfl) (fun _ _ _ h => h) (Or.inl ⟨by rfl, fun w hSw => ?ti299_23⟩) (by assumption) ?rest299_23
              case ti299_23 => ((try dsimp only at hSw); go_simp; (first | done | with_reducible rfl))
              try simp only [Act.put, List.getElem_toArray, List.getElem_cons_zero, List.getElem_cons_succ, List.setIfInBounds_toArray, List.set_cons_zero, List.set_cons_succ]
              refine wpAnyH_ready (rs := [24, 25]) (by kernel_rfl) (by simp) ?_
              refine AllReadyH.cons rfl (fun K hK => ?_) (AllReadyH.cons rfl (fun K hK => ?_) AllReadyH.nil)
              · as_aux_lemma =>
                go_simp
                refine hK.out _ _ ⟨Ext.cell (by (focus (repeat (first | (with_reducible exact Ext.refl _) | (with_reducible apply Ext.drew) | (with_reducible apply Ext.drewN) | (with_reducible apply Ext.alloc))))) q0_1, Ext.cell (by (focus (repeat (first | (with_reducible exact Ext.refl _) | (with_reducible apply Ext.drew) | (with_reducible apply Ext.drewN) | (with_reducible apply Ext.alloc))))) q0_2, Ext.cell (by (focus (repeat (first | (with_reducible exact Ext.refl _) | (with_reducible apply Ext.drew) | (with_reducible apply Ext.drewN) | (with_reducible apply Ext.alloc))))) q0_3, Ext.cell (by (focus (repeat (first | (with_reducible exact Ext.refl _) | (with_reducible apply Ext.drew) | (with_reducible apply Ext.drewN) | (with_reducible apply Ext.alloc))))) q0_4, Ext.cell (by (focus (repeat (first | (with_reducible exact Ext.refl _) | (with_reducible apply Ext.drew) | (with_reducible apply Ext.drewN) | (with_reducible apply Ext.alloc))))) q0_5, Ext.cell (by (focus (repeat (first | (with_reducible exact Ext.refl _) | (with_reducible apply Ext.drew) | (with_reducible apply Ext.drewN) | (with_reducible apply Ext.alloc))))) q0_6⟩ (fun hHeld => ?_)
                clear hK K; try simp only [Act.put, List.getElem_toArray, List.getElem_cons_zero, List.getElem_cons_succ, List.setIfInBounds_toArray, List.set_cons_zero, List.set_cons_succ]
                refine wpAnyH_ready (rs := [25]) (by kernel_rfl) (by simp) ?_
                refine AllReadyH.cons rfl (fun K hK => ?_) AllReadyH.nil
                go_simp
                refine hK.out _ _ ⟨Ext.cell (by (focus (repeat (first | (with_reducible exact Ext.refl _) | (with_reducible apply Ext.drew) | (with_reducible apply Ext.drewN) | (with_reducible apply Ext.alloc))))) q0_1, Ext.cell (by (focus (repeat (first | (with_reducible exact Ext.refl _) | (with_reducible apply Ext.drew) | (with_reducible apply Ext.drewN) | (with_reducible apply Ext.alloc))))) q0_2, Ext.cell (by (focus (repeat (first | (with_reducible exact Ext.refl _) | (with_reducible apply Ext.drew) | (with_reducible apply Ext.drewN) | (with_reducible apply Ext.alloc))))) q0_3, Ext.cell (by (focus (repeat (first | (with_reducible exact Ext.refl _) | (with_reducible apply Ext.drew) | (with_reducible apply Ext.drewN) | (with_reducible apply Ext.alloc))))) q0_4, Ext.cell (by (focus (repeat (first | (with_reducible exact Ext.refl _) | (with_reducible apply Ext.drew) | (with_reducible apply Ext.drewN) | (with_reducible apply Ext.alloc))))) q0_5, Ext.cell (by (focus (repeat (first | (with_reducible exact Ext.refl _) | (with_reducible apply Ext.drew) | (with_reducible apply Ext.drewN) | (with_reducible apply Ext.alloc))))) q0_6⟩ (fun hHeld => ?_)
                clear hK K; try simp only [Act.put, List.getElem_toArray, List.getElem_cons_zero, List.getElem_cons_succ, List.setIfInBounds_toArray, List.set_cons_zero, List.set_cons_succ]
                refine wpAnyH_ready (rs := [26]) (by kernel_rfl) (by simp) ?_
                refine AllReadyH.cons rfl (fun K hK => ?_) AllReadyH.nil
                go_simp
                refine hK.out _ _ ⟨Ext.cell (by (focus (repeat (first | (with_reducible exact Ext.refl _) | (with_reducible apply Ext.drew) | (with_reducible apply Ext.drewN) | (with_reducible apply Ext.alloc))))) q0_1, Ext.cell (by (focus (repeat (first | (with_reducible exact Ext.refl _) | (with_reducible apply Ext.drew) | (with_reducible apply Ext.drewN) | (with_reducible apply Ext.alloc))))) q0_2, Ext.cell (by (focus (repeat (first | (with_reducible exact Ext.refl _) | (with_reducible apply Ext.drew) | (with_reducible apply Ext.drewN) | (with_reducible apply Ext.alloc))))) q0_3, Ext.cell (by (focus (repeat (first | (with_reducible exact Ext.refl _) | (with_reducible apply Ext.drew) | (with_reducible apply Ext.drewN) | (with_reducible apply Ext.alloc))))) q0_4, Ext.cell (by (focus (repeat (first | (with_reducible exact Ext.refl _) | (with_reducible apply Ext.drew) | (with_reducible apply Ext.drewN) | (with_reducible apply Ext.alloc))))) q0_5, Ext.cell (by (focus (repeat (first | (with_reducible exact Ext.refl _) | (with_reducible apply Ext.drew) | (with_reducible apply Ext.drewN) | (with_reducible apply Ext.alloc))))) q0_6⟩ (fun hHeld => ?_)
                clear hK K; try simp only [Act.put, List.getElem_toArray, List.getElem_cons_zero, List.getElem_cons_succ, List.setIfInBounds_toArray, List.set_cons_zero, List.set_cons_succ]
                refine wpAnyH_ready (rs := [27]) (by kernel_rfl) (by simp) ?_
                refine AllReadyH.cons rfl (fun K hK => ?_) AllReadyH.nil
                go_simp
                refine hK.out _ _ ⟨Ext.cell (by (focus (repeat (first | (with_reducible exact Ext.refl _) | (with_reducible apply Ext.drew) | (with_reducible apply Ext.drewN) | (with_reducible apply Ext.alloc))))) q0_1, Ext.cell (by (focus (repeat (first | (with_reducible exact Ext.refl _) | (with_reducible apply Ext.drew) | (with_reducible apply Ext.drewN) | (with_reducible apply Ext.alloc))))) q0_2, Ext.cell (by (focus (repeat (first | (with_reducible exact Ext.refl _) | (with_reducible apply Ext.drew) | (with_reducible apply Ext.drewN) | (with_reducible apply Ext.alloc))))) q0_3, Ext.cell (by (focus (repeat (first | (with_reducible exact Ext.refl _) | (with_reducible apply Ext.drew) | (with_reducible apply Ext.drewN) | (with_reducible apply Ext.alloc))))) q0_4, Ext.cell (by (focus (repeat (first | (with_reducible exact Ext.refl _) | (with_reducible apply Ext.drew) | (with_reducible apply Ext.drewN) | (with_reducible apply Ext.alloc))))) q0_5, Ext.cell (by (focus (repeat (first | (with_reducible exact Ext.refl _) | (with_reducible apply Ext.drew) | (with_reducible apply Ext.drewN) | (with_reducible apply Ext.alloc))))) q0_6⟩ (fun hHeld => ?_)
                clear hK K; try simp only [Act.put, List.getElem_toArray, List.getElem_cons_zero, List.getElem_cons_succ, List.setIfInBounds_toArray, List.set_cons_zero, List.set_cons_succ]
                refine wpAnyH_done (by kernel_rfl) ?_ _
                go_wp2_with fail
                go_meet
                case rel => exact ⟨_, _, rfl, rfl, Lib.hid ⟨by (focus (repeat (first | (with_reducible exact Ext.refl _) | (with_reducible apply Ext.drew) | (with_reducible apply Ext.drewN) | (with_reducible apply Ext.alloc)))), Nat.le_refl _, Nat.le_succ _, by omega, BN.ext (BN.new wo A) (by (focus (repeat (first | (with_reducible exact Ext.refl _) | (with_reducible apply Ext.drew) | (with_reducible apply Ext.drewN) | (with_reducible apply Ext.alloc))))), BN.ext (show BN ((wo.alloc (Obj.cells #[.int .u8 A.y, .int .i64 A.n] 41)).alloc (Obj.cells #[.int .u8 B.y, .int .i64 B.n] 41)) (wo.heap.size + 1) B by have h1 := BN.new (wo.alloc (Obj.cells #[.int .u8 A.y, .int .i64 A.n] 41)) B; simpa using h1) (by (focus (repeat (first | (with_reducible exact Ext.refl _) | (with_reducible apply Ext.drew) | (with_reducible apply Ext.drewN) | (with_reducible apply Ext.alloc)))))⟩⟩
              · as_aux_lemma =>
                go_simp
                refine hK.out _ _ ⟨Ext.cell (by (focus (repeat (first | (with_reducible exact Ext.refl _) | (with_reducible apply Ext.drew) | (with_reducible apply Ext.drewN) | (with_reducible apply Ext.alloc))))) q0_1, Ext.cell (by (focus (repeat (first | (with_reducible exact Ext.refl _) | (with_reducible apply Ext.drew) | (with_reducible apply Ext.drewN) | (with_reducible apply Ext.alloc))))) q0_2, Ext.cell (by (focus (repeat (first | (with_reducible exact Ext.refl _) | (with_reducible apply Ext.drew) | (with_reducible apply Ext.drewN) | (with_reducible apply Ext.alloc))))) q0_3, Ext.cell (by (focus (repeat (first | (with_reducible exact Ext.refl _) | (with_reducible apply Ext.drew) | (with_reducible apply Ext.drewN) | (with_reducible apply Ext.alloc))))) q0_4, Ext.cell (by (focus (repeat (first | (with_reducible exact Ext.refl _) | (with_reducible apply Ext.drew) | (with_reducible apply Ext.drewN) | (with_reducible apply Ext.alloc))))) q0_5, Ext.cell (by (focus (repeat (first | (with_reducible exact Ext.refl _) | (with_reducible apply Ext.drew) | (with_reducible apply Ext.drewN) | (with_reducible apply Ext.alloc))))) q0_6⟩ (fun hHeld => ?_)
                clear hK K; try simp only [Act.put, List.getElem_toArray, List.getElem_cons_zero, List.getElem_cons_succ, List.setIfInBounds_toArray, List.set_cons_zero, List.set_cons_succ]
                refine wpAnyH_ready (rs := [24]) (by kernel_rfl) (by simp) ?_
                refine AllReadyH.cons rfl (fun K hK => ?_) AllReadyH.nil
                go_simp
                refine hK.out _ _ ⟨Ext.cell (by (focus (repeat (first | (with_reducible exact Ext.refl _) | (with_reducible apply Ext.drew) | (with_reducible apply Ext.drewN) | (with_reducible apply Ext.alloc))))) q0_1, Ext.cell (by (focus (repeat (first | (with_reducible exact Ext.refl _) | (with_reducible apply Ext.drew) | (with_reducible apply Ext.drewN) | (with_reducible apply Ext.alloc))))) q0_2, Ext.cell (by (focus (repeat (first | (with_reducible exact Ext.refl _) | (with_reducible apply Ext.drew) | (with_reducible apply Ext.drewN) | (with_reducible apply Ext.alloc))))) q0_3, Ext.cell (by (focus (repeat (first | (with_reducible exact Ext.refl _) | (with_reducible apply Ext.drew) | (with_reducible apply Ext.drewN) | (with_reducible apply Ext.alloc))))) q0_4, Ext.cell (by (focus (repeat (first | (with_reducible exact Ext.refl _) | (with_reducible apply Ext.drew) | (with_reducible apply Ext.drewN) | (with_reducible apply Ext.alloc))))) q0_5, Ext.cell (by (focus (repeat (first | (with_reducible exact Ext.refl _) | (with_reducible apply Ext.drew) | (with_reducible apply Ext.drewN) | (with_reducible apply Ext.alloc))))) q0_6⟩ (fun hHeld => ?_)
                clear hK K; try simp only [Act.put, List.getElem_toArray, List.getElem_cons_zero, List.getElem_cons_succ, List.setIfInBounds_toArray, List.set_cons_zero, List.set_cons_succ]
                refine wpAnyH_ready (rs := [26]) (by kernel_rfl) (by simp) ?_
                refine AllReadyH.cons rfl (fun K hK => ?_) AllReadyH.nil
                go_simp
                refine hK.out _ _ ⟨Ext.cell (by (focus (repeat (first | (with_reducible exact Ext.refl _) | (with_reducible apply Ext.drew) | (with_reducible apply Ext.drewN) | (with_reducible apply Ext.alloc))))) q0_1, Ext.cell (by (focus (repeat (first | (with_reducible exact Ext.refl _) | (with_reducible apply Ext.drew) | (with_reducible apply Ext.drewN) | (with_reducible apply Ext.alloc))))) q0_2, Ext.cell (by (focus (repeat (first | (with_reducible exact Ext.refl _) | (with_reducible apply Ext.drew) | (with_reducible apply Ext.drewN) | (with_reducible apply Ext.alloc))))) q0_3, Ext.cell (by (focus (repeat (first | (with_reducible exact Ext.refl _) | (with_reducible apply Ext.drew) | (with_reducible apply Ext.drewN) | (with_reducible apply Ext.alloc))))) q0_4, Ext.cell (by (focus (repeat (first | (with_reducible exact Ext.refl _) | (with_reducible apply Ext.drew) | (with_reducible apply Ext.drewN) | (with_reducible apply Ext.alloc))))) q0_5, Ext.cell (by (focus (repeat (first | (with_reducible exact Ext.refl _) | (with_reducible apply Ext.drew) | (with_reducible apply Ext.drewN) | (with_reducible apply Ext.alloc))))) q0_6⟩ (fun hHeld => ?_)
                clear hK K; try simp only [Act.put, List.getElem_toArray, List.getElem_cons_zero, List.getElem_cons_succ, List.setIfInBounds_toArray, List.set_cons_zero, List.set_cons_succ]
                refine wpAnyH_ready (rs := [27]) (by kernel_rfl) (by simp) ?_
                refine AllReadyH.cons rfl (fun K hK => ?_) AllReadyH.nil
                go_simp
                refine hK.out _ _ ⟨Ext.cell (by (focus (repeat (first | (with_reducible exact Ext.refl _) | (with_reducible apply Ext.drew) | (with_reducible apply Ext.drewN) | (with_reducible apply Ext.alloc))))) q0_1, Ext.cell (by (focus (repeat (first | (with_reducible exact Ext.refl _) | (with_reducible apply Ext.drew) | (with_reducible apply Ext.drewN) | (with_reducible apply Ext.alloc))))) q0_2, Ext.cell (by (focus (repeat (first | (with_reducible exact Ext.refl _) | (with_reducible apply Ext.drew) | (with_reducible apply Ext.drewN) | (with_reducible apply Ext.alloc))))) q0_3, Ext.cell (by (focus (repeat (first | (with_reducible exact Ext.refl _) | (with_reducible apply Ext.drew) | (with_reducible apply Ext.drewN) | (with_reducible apply Ext.alloc))))) q0_4, Ext.cell (by (focus (repeat (first | (with_reducible exact Ext.refl _) | (with_reducible apply Ext.drew) | (with_reducible apply Ext.drewN) | (with_reducible apply Ext.alloc))))) q0_5, Ext.cell (by (focus (repeat (first | (with_reducible exact Ext.refl _) | (with_reducible apply Ext.drew) | (with_reducible apply Ext.drewN) | (with_reducible apply Ext.alloc))))) q0_6⟩ (fun hHeld => ?_)
                clear hK K; try simp only [Act.put, List.getElem_toArray, List.getElem_cons_zero, List.getElem_cons_succ, List.setIfInBounds_toArray, List.set_cons_zero, List.set_cons_succ]
                refine wpAnyH_done (by kernel_rfl) ?_ _
                go_wp2_with fail
                go_meet
                case rel => exact ⟨_, _, rfl, rfl, Lib.hid ⟨by (focus (repeat (first | (with_reducible exact Ext.refl _) | (with_reducible apply Ext.drew) | (with_reducible apply Ext.drewN) | (with_reducible apply Ext.alloc)))), Nat.le_succ _, Nat.le_refl _, by omega, BN.ext (show BN ((wo.alloc (Obj.cells #[.int .u8 B.y, .int .i64 B.n] 41)).alloc (Obj.cells #[.int .u8 A.y, .int .i64 A.n] 41)) (wo.heap.size + 1) A by have h1 := BN.new (wo.alloc (Obj.cells #[.int .u8 B.y, .int .i64 B.n] 41)) A; simpa using h1) (by (focus (repeat (first | (with_reducible exact Ext.refl _) | (with_reducible apply Ext.drew) | (with_reducible apply Ext.drewN) | (with_reducible apply Ext.alloc))))), BN.ext (BN.new wo B) (by (focus (repeat (first | (with_reducible exact Ext.refl _) | (with_reducible apply Ext.drew) | (with_reducible apply Ext.drewN) | (with_reducible apply Ext.alloc)))))⟩⟩
            case rest =>
              obtain ⟨ga, gb', rfl, rfl, G5⟩ := hcut
              obtain ⟨w5, hw5⟩ : ∃ w5, w5 = wc := ⟨_, rfl⟩
              subst hw5
              clear q0_1 q0_2 q0_3 q0_4 q0_5 q0_6 q0_7 z1 z2 z3 z4 z5 z6 z7 z1' z2'
              have q7 := (Hq.out.ext ((X02.out.trans XR.out).trans G5.out.1)).2.2
              obtain ⟨d, hd⟩ : ∃ d, d = C.2.2 % 2 := ⟨_, rfl⟩
              have hd2 : 0 ≤ d ∧ d ≤ 1 := by omega
              have e1 : C.2.2.tmod 2 = d := by rw [Int.tmod_eq_emod_of_nonneg HC.out.2.2.1, hd]
              have e2 : IntKind.i64.wrap d = d := IntWalk.i64_in _ ⟨by omega, by omega⟩
              have e2' : wrap64 d = d := IntWalk.wrap64_in _ ⟨by omega, by omega⟩
              have e3 : IntKind.i64.wrap (2 * d) = 2 * d := IntWalk.i64_in _ ⟨by omega, by omega⟩
              have e3' : wrap64 (2 * d) = 2 * d := IntWalk.wrap64_in _ ⟨by omega, by omega⟩
              have e4 : IntKind.i64.wrap (1 - 2 * d) = 1 - 2 * d := IntWalk.i64_in _ ⟨by omega, by omega⟩
              have e4' : wrap64 (1 - 2 * d) = 1 - 2 * d := IntWalk.wrap64_in _ ⟨by omega, by omega⟩
              obtain ⟨sg, hsg⟩ : ∃ sg, sg = 1 - 2 * d := ⟨_, rfl⟩
              have Hsg := Lib.hid hsg
              go_upto_region 14 with fail
              go_cut [12] from 48 to 167 (fun sv wx => sv = .int .i64 sg ∧ w5 = wx)
              case first =>
                clear hsg
                go_wp2_with fail
                go_meet
                case rel => exact ⟨by rw [Hsg.out, hd], rfl⟩
              case rest =>
              obtain ⟨rfl, rfl⟩ := hcut
              have hs1 : sg = 1 ∨ sg = -1 := by omega
              clear e1 e2 e2' e3 e3' e4 e4' hd hd2 hsg q7
              have hxo := G.out.2.2.2.2.1
              have hll := G.out.2.2.2.2.2
              have hFIl := wc_in HFI.out HIn.out hxo (by omega) (by omega)
              have hcE := wc_crossE HChk.out hxo (by omega) (by omega) HhA.out HhB.out hs1
              have hCr := Cross2_calls _ _ _ _ (f.wc l) A B sg w5 (G.out.2.2.1.ext G5.out.1) hFIl (fun _ => HOKT.out) (HIn.out A HhA.out) (HIn.out B HhB.out) (by omega)
              rw [hcE, wc_crossF] at hCr
              obtain ⟨PX, hPX⟩ : ∃ PX, PX = pairX A B := ⟨_, rfl⟩
              rw [← hPX] at hCr
              obtain ⟨EV, hEV⟩ : ∃ EV : Int, EV = if A = B then 1 else 0 := ⟨_, rfl⟩
              rw [← hEV] at hCr
              have HEV := Lib.hid hEV
              have HCr := Lib.hid hCr
              clear hEV
              have HPX := Lib.hid hPX; have Hs1 := Lib.hid hs1
              have HFIl := Lib.hid hFIl
              clear hxo hll hFIl hcE hCr hPX
              obtain ⟨q0, q1, q2, q3⟩ := B4.cells (G.out.2.1.ext G5.out.1)
              obtain ⟨x0, x1⟩ := G5.out.2.2.2.2.1.at
              obtain ⟨y0, y1⟩ := G5.out.2.2.2.2.2.at
              simp only [Nat.zero_add] at x1 y1
              go_wp2_with fail
              clear q0 q1 q2 q3 x0 x1 y0 y1
              refine HCr.out.mono ?_
              rintro e w6 hr6
              obtain ⟨k1, m1, s1, k2, m2, s2, k3, m3, s3, k4, m4, s4, rfl, x6, hN0, hN1⟩ := hr6.open
              obtain ⟨W7, hW7⟩ : ∃ W7, W7 = w6.alloc (.cells #[.slice k1 m1 s1, .slice k2 m2 s2, .slice k3 m3 s3, .slice k4 m4 s4] 35) := ⟨_, rfl⟩
              obtain ⟨gn, hgn⟩ : ∃ gn, gn = w6.heap.size := ⟨_, rfl⟩
              have X57 := Lib.hid (show Ext w5 W7 by rw [hW7]; exact x6.alloc _)
              have HBn := Lib.hid (show B4 W7 gn (.slice k1 m1 s1) (.slice k2 m2 s2) (.slice k3 m3 s3) (.slice k4 m4 s4) 35 by rw [hW7, hgn]; exact B4.new _ _ _ _ _ _)
              have HW7 := Lib.hid hW7; have Hgn := Lib.hid hgn
              have Hx56 := Lib.hid x6.size
              have x67 : Ext w6 W7 := by rw [hW7]; exact (Ext.refl _).alloc _
              have HN0 := Lib.hid (show EV = 0 → (∀ w'', Agr w5.heap.size W7 w'' → FB w'' (.slice k1 m1 s1) (.slice k2 m2 s2) (.slice k3 m3 s3) (.slice k4 m4 s4) (f.wc (addX l PX.a PX.b sg)) ∧ XL w'' (.slice k2 m2 s2) s2 (addX l PX.a PX.b sg)) ∧ s2 = m2 from fun e => ⟨fun w'' u => (hN0 e).1 w'' (Agr.ext' x67 u), (hN0 e).2⟩)
              have HN1 := Lib.hid hN1
              have X7 := Lib.hid (G5.out.1.trans X57.out)
              clear hr6 hN0 hN1 x6 x67 hW7 hgn
              have HA7 := Lib.hid (G5.out.2.2.2.2.1.ext X57.out)
              have HB7 := Lib.hid (G5.out.2.2.2.2.2.ext X57.out)
              obtain ⟨E, hE⟩ : ∃ E, E = decide (A = B) := ⟨_, rfl⟩
              have HE := Lib.hid hE
              clear hE
              go_upto_region 16 with fail
              rw [← HW7.out, ← Hgn.out]
              obtain ⟨x0, x1⟩ := HA7.out.at
              obtain ⟨y0, y1⟩ := HB7.out.at
              simp only [Nat.zero_add] at x1 y1
              go_cut [97] from 48 to 167 (fun c wx => c = .bool E ∧ W7 = wx)
              case first =>
                go_wp2_with fail
                all_goals go_meet
                all_goals (refine ⟨congrArg Value.bool ?_, rfl⟩; rw [HE.out, ← nm_dec]; simp [*])
              case rest =>
                obtain ⟨rfl, rfl⟩ := hcut
                clear x0 x1 y0 y1
                cases E with
                | true =>
                  have hAB : A = B := of_decide_eq_true HE.out.symm
                  have hev : EV = 1 := by rw [HEV.out, if_pos hAB]
                  have hm1 : m1 = 0 := HN1.out (by rw [hev]; decide)
                  obtain ⟨q0, q1, q2, q3⟩ := B4.cells HBn.out
                  have HR := Lib.hid (show Ext w3 W7 ∧ B4 W7 gg (.slice a1 n1 d1) (.slice a2 n2 d2) (.slice a3 n3 d3) (.slice a4 n4 d4) 35 ∧ FB W7 (.slice a1 n1 d1) (.slice a2 n2 d2) (.slice a3 n3 d3) (.slice a4 n4 d4) (f.wc l) ∧ XL W7 (.slice wa wn wc') wc' l ∧ XOk f.ys (30 + ((i + 1 : Nat) : Int)) l ∧ l.length ≤ 30 + (i + 1) from
                    ⟨G.out.1.trans X7.out, G.out.2.1.ext X7.out, G.out.2.2.1.ext X7.out, G.out.2.2.2.1.ext X7.out, G.out.2.2.2.2.1.mono (by omega), by have := G.out.2.2.2.2.2; omega⟩)
                  subst hm1
                  subst hev
                  clear hAB
                  go_wp2_with fail
                  go_roundg (vn - (i + 1))
                  case measure => have := Hgi.out; omega
                  case rel => exact ⟨i + 1, l, _, _, _, _, wa, _, _, _, _, _, _, _, _, wn, wc', by have := Hgi.out; omega, by go_num, rfl, HR⟩
                | false =>
                  have hAB : A ≠ B := of_decide_eq_false HE.out.symm
                  have HAB := Lib.hid hAB
                  have hev : EV = 0 := by rw [HEV.out, if_neg hAB]
                  have hN := HN0.out hev
                  subst hev
                  obtain ⟨lx, hlx⟩ : ∃ lx, lx = addX l PX.a PX.b sg := ⟨_, rfl⟩
                  rw [← hlx] at hN
                  have HN := Lib.hid hN
                  have Hlx := Lib.hid hlx
                  clear hAB hN hlx
                  obtain ⟨x0, x1⟩ := HA7.out.at
                  obtain ⟨y0, y1⟩ := HB7.out.at
                  simp only [Nat.zero_add] at x1 y1
                  go_wp2_with fail
                  refine (Less_calls B A W7).mono ?_
                  rintro e w8 ⟨rfl, x8⟩
                  have X8 := Lib.hid (X7.out.trans x8)
                  have X78 := Lib.hid x8
                  have HBA := Lib.hid (HA7.out.ext x8)
                  have HBB := Lib.hid (HB7.out.ext x8)
                  have HLa := Lib.hid (And.intro G5.out.2.2.2.2.1.lt G5.out.2.2.2.2.2.lt)
                  have HBn8 := Lib.hid (HBn.out.ext x8)
                  have Hgn5 := Lib.hid (show w5.heap.size ≤ gn from by have h1 := X57.out.size; have h2 := HW7.out; have h3 := Hgn.out; rw [h2] at h1; rw [h3]; exact Hx56.out)
                  clear x0 x1 y0 y1 x8
                  go_upto_if 109 with fail
                  go_cut [] from 48 to 167 (fun wx => Hid (Ext wo wx ∧ BN wx ga PX.a ∧ BN wx gb' PX.b ∧ (∀ w'', Agr w5.heap.size wx w'' → FB w'' (.slice k1 m1 s1) (.slice k2 m2 s2) (.slice k3 m3 s3) (.slice k4 m4 s4) (f.wc lx) ∧ XL w'' (.slice k2 m2 s2) s2 lx) ∧ B4 wx gn (.slice k1 m1 s1) (.slice k2 m2 s2) (.slice k3 m3 s3) (.slice k4 m4 s4) 35))
                  case first =>
                    by_cases hlt : ltN B A
                    · have hl' : lessI B A = 1 := by unfold lessI; rw [if_pos (cmpN_lt.2 hlt)]
                      have hP : PX = ⟨B, A, 0⟩ := by rw [HPX.out]; unfold pairX; rw [if_pos (cmpN_gt.2 hlt)]
                      rw [hl']
                      obtain ⟨x0, x1⟩ := HBA.out.at
                      obtain ⟨y0, y1⟩ := HBB.out.at
                      simp only [Nat.zero_add] at x1 y1
                      have g1 := G5.out.2.1; have g2 := G5.out.2.2.1; have g3 := G5.out.2.2.2.1
                      have hl5 := HLa.out
                      have hg5 := Hgn5.out
                      have HN2 := Lib.hid (show ∀ W', W' = ((((w8.setCell ⟨ga, 0, none⟩ (.int .u8 B.y)).setCell ⟨ga, 1, none⟩ (.int .i64 B.n)).setCell ⟨gb', 0, none⟩ (.int .u8 A.y)).setCell ⟨gb', 1, none⟩ (.int .i64 A.n)) → Ext wo W' ∧ BN W' ga PX.a ∧ BN W' gb' PX.b ∧ (∀ w'', Agr w5.heap.size W' w'' → FB w'' (.slice k1 m1 s1) (.slice k2 m2 s2) (.slice k3 m3 s3) (.slice k4 m4 s4) (f.wc lx) ∧ XL w'' (.slice k2 m2 s2) s2 lx) ∧ B4 W' gn (.slice k1 m1 s1) (.slice k2 m2 s2) (.slice k3 m3 s3) (.slice k4 m4 s4) 35 from fun W' hW' => by
                        subst hW'
                        refine ⟨Ext.setCell (Ext.setCell (Ext.setCell (Ext.setCell X8.out g1 _) g1 _) g2 _) g2 _, by rw [hP]; exact BN.set (BN.set (BN.put HBA.out B) g3 _) g3 _, by rw [hP]; exact BN.put (BN.set (BN.set HBB.out (Ne.symm g3) _) (Ne.symm g3) _) A, fun w'' u => HN.out.1 w'' ?_, ?_⟩
                        · refine Agr.trans' (b := _) ((((Agr.ext X78.out).set (.inl (by dsimp only; omega)) _).set (.inl (by dsimp only; omega)) _).set (.inl (by dsimp only; omega)) _ |>.set (.inl (by dsimp only; omega)) _) ?_ u
                          have := X78.out.size; simpa using this
                        · exact B4.set (B4.set (B4.set (B4.set HBn8.out (by dsimp only; omega) _) (by dsimp only; omega) _) (by dsimp only; omega) _) (by dsimp only; omega) _)
                      have fA0 := BN.fr HBA.out 0; have fA1 := BN.fr HBA.out 1; have fB0 := BN.fr HBB.out 0; have fB1 := BN.fr HBB.out 1
                      have lA := HBA.out.lt; have lB := HBB.out.lt
                      have g4 : ¬ gb' = ga := Ne.symm g3
                      clear hl' hlt hP g1 g2 hl5 hg5
                      go_wp2_with fail
                      go_meet
                      case rel => exact Lib.hid (HN2.out _ rfl)
                    · have hl' : lessI B A = 0 := by unfold lessI; rw [if_neg (fun e => hlt (cmpN_lt.1 e))]
                      have hP : PX = ⟨A, B, 0⟩ := by rw [HPX.out]; unfold pairX; rw [if_neg (fun e => hlt (cmpN_gt.1 e))]
                      rw [hl']
                      have HN2 := Lib.hid (show Ext wo w8 ∧ BN w8 ga PX.a ∧ BN w8 gb' PX.b ∧ (∀ w'', Agr w5.heap.size w8 w'' → FB w'' (.slice k1 m1 s1) (.slice k2 m2 s2) (.slice k3 m3 s3) (.slice k4 m4 s4) (f.wc lx) ∧ XL w'' (.slice k2 m2 s2) s2 lx) ∧ B4 w8 gn (.slice k1 m1 s1) (.slice k2 m2 s2) (.slice k3 m3 s3) (.slice k4 m4 s4) 35 from ⟨X8.out, by rw [hP]; exact HBA.out, by rw [hP]; exact HBB.out, fun w'' u => HN.out.1 w'' (Agr.ext' X78.out u), HBn8.out⟩)
                      clear hl' hlt hP
                      go_wp2_with fail
                      go_meet
                      case rel => exact HN2
                  case rest =>
                    have G6 := hcut
                    clear hcut
                    obtain ⟨w9, hw9⟩ : ∃ w9, w9 = wc := ⟨_, rfl⟩
                    subst hw9
                    have hAhB := pairX_srt HAB.out
                    rw [← HPX.out] at hAhB
                    have HPo := Lib.hid (pairX_ord hAhB)
                    have hxo := G.out.2.2.2.2.1
                    have hhP : hasB f.ys PX.a = true ∧ hasB f.ys PX.b = true := by rw [HPX.out]; exact pairX_mem (P := fun a => hasB f.ys a = true) HhA.out HhB.out
                    have hsb : sg ≠ 0 ∧ -1 ≤ sg ∧ sg ≤ 1 := by have := Hs1.out; omega
                    have hxl : XOk f.ys (30 + i + 1) lx := by rw [Hlx.out]; exact hxo.add (by omega) hhP.1 hhP.2 hAhB hsb
                    have hll : lx.length ≤ 30 + (i + 1) := by rw [Hlx.out]; have h1 := addX_len (a := PX.a) (b := PX.b) (s := sg) (l := l); have := G.out.2.2.2.2.2; omega
                    have hadr : adr PX.a PX.b sg false l = lx := by rw [adr_addX hsb.1 (SrtX_pw.2 hxo.s) fun c hc => (hxo.n c hc).1, Hlx.out]
                    have hinv : addX lx PX.a PX.b (-sg) = l := by rw [Hlx.out]; exact addX_inv hxo.s (fun c hc => (hxo.n c hc).1) hsb.1
                    have hlk : lnk lx PX.a PX.b = lnk l PX.a PX.b + sg := by rw [Hlx.out]; exact lnk_addX hxo.s
                    have hlb := lnk_bd (a := PX.a) (b := PX.b) (show (0 : Int) ≤ 30 + i by omega) hxo.n
                    have HAd := Lib.hid (show Calls Tryd.prog 25 #[.slice wa wn wc', PX.a.val, PX.b.val, .int .i64 sg] w9 (RetAd w9 lx) from by
                      rw [← hadr]
                      exact Added_calls (.slice wa wn wc') wc' l PX.a PX.b sg w9 (G.out.2.2.2.1.ext G6.out.1) (by have := G.out.2.2.2.2.2; omega) (fun j hj => by have := hxo.n _ (xi_mem hj); omega))
                    have hFIl := wc_in HFI.out HIn.out hxl (by omega) (by omega)
                    have hcE := wc_crossE HChk.out hxl (by omega) (by omega) (a := PX.b) (b := PX.a) (s := -sg) hhP.2 hhP.1 (by have := Hs1.out; omega)
                    have hne : PX.b ≠ PX.a := fun e => by rw [e] at hAhB; exact ltN_irr (cmpN_lt.1 hAhB)
                    rw [if_neg hne] at hcE
                    have HC2 := Lib.hid (show ∀ w', Ext w9 w' → Calls Tryd.prog 16 #[.agg #[.slice k1 m1 s1, .slice k2 m2 s2, .slice k3 m3 s3, .slice k4 m4 s4], PX.b.val, PX.a.val, .int .i64 (-sg)] w' (RetC2 w' 0 (f.wc l)) from fun w' x' => by
                      have h1 := Cross2_calls _ _ _ _ (f.wc lx) PX.b PX.a (-sg) w' (G6.out.2.2.2.1 w' (Agr.ext x')).1 hFIl (fun _ => HOKT.out) (HIn.out _ hhP.2) (HIn.out _ hhP.1) (by omega)
                      rw [hcE, wc_crossF, HPo.out.2, hinv] at h1
                      exact h1)
                    have HLk := Lib.hid (show ∀ w', Ext w9 w' → Calls Tryd.prog 24 #[.agg #[.slice k1 m1 s1, .slice k2 m2 s2, .slice k3 m3 s3, .slice k4 m4 s4], PX.b.val, PX.a.val] w' fun e w'' => e = .returned (.int .i64 (lnk l PX.a PX.b + sg)) ∧ Ext w' w'' from fun w' x' => by
                      have h1 := Linking_calls _ _ _ _ (f.wc lx) PX.b PX.a w' (G6.out.2.2.2.1 w' (Agr.ext x')).1 (by show lx.length ≤ 100000; omega)
                      rw [HPo.out.2, show (f.wc lx).cr = lx from rfl, hlk] at h1
                      exact h1)
                    have HLk0 := Lib.hid (show ∀ w', Ext wo w' → Calls Tryd.prog 24 #[.agg #[.slice a1 n1 d1, .slice a2 n2 d2, .slice a3 n3 d3, .slice a4 n4 d4], PX.a.val, PX.b.val] w' fun e w'' => e = .returned (.int .i64 (lnk l PX.a PX.b)) ∧ Ext w' w'' from fun w' x' => by
                      have h1 := Linking_calls _ _ _ _ (f.wc l) PX.a PX.b w' (G.out.2.2.1.ext x') (by have := G.out.2.2.2.2.2; show l.length ≤ 100000; omega)
                      rw [HPo.out.1] at h1
                      exact h1)
                    obtain ⟨K0, hK0⟩ : ∃ K0, K0 = lnk l PX.a PX.b := ⟨_, rfl⟩
                    rw [← hK0] at HLk HLk0 hlb
                    have kw1 : IntKind.i64.wrap (-sg) = -sg := IntWalk.i64_in _ ⟨by omega, by omega⟩
                    have kw1' : wrap64 (-sg) = -sg := IntWalk.wrap64_in _ ⟨by omega, by omega⟩
                    have kw2 : IntKind.i64.wrap (K0 + sg) = K0 + sg := IntWalk.i64_in _ ⟨by omega, by omega⟩
                    have kw2' : wrap64 (K0 + sg) = K0 + sg := IntWalk.wrap64_in _ ⟨by omega, by omega⟩
                    have Hxl := Lib.hid (And.intro hxl hll)
                    have Hs2 := Lib.hid HN.out.2
                    clear hAhB hxo hhP hsb hxl hll hadr hinv hlk hlb hFIl hcE hne hK0
                    obtain ⟨x0, x1⟩ := G6.out.2.1.at
                    obtain ⟨y0, y1⟩ := G6.out.2.2.1.at
                    simp only [Nat.zero_add] at x1 y1
                    go_wp2_with fail
                    clear x0 x1 y0 y1
                    refine HAd.out.mono ?_
                    rintro e w10 ⟨wv2, rfl, hown, hx10⟩
                    obtain ⟨wa2, wc2, rfl, -⟩ := own_slice hown
                    obtain ⟨wn2, hwn2⟩ : ∃ wn2, wn2 = lx.length := ⟨_, rfl⟩
                    rw [← hwn2] at hown ⊢
                    have HW10 := Lib.hid (show XL w10 (.slice wa2 wn2 wc2) wc2 lx from by
                      obtain ⟨c', hc⟩ := CK.of_own hown (Ks.xg lx) (by rw [List.length_map]; exact hwn2) (by decide)
                      obtain ⟨ao', n', e, _⟩ := XL.open hc
                      have e2 := Value.slice.inj e
                      rw [e2.2.2]
                      rw [e2.2.2] at hc
                      exact hc)
                    have X10 := Lib.hid hx10
                    obtain ⟨x0, x1⟩ := (G6.out.2.1.ext hx10).at
                    obtain ⟨y0, y1⟩ := (G6.out.2.2.1.ext hx10).at
                    simp only [Nat.zero_add] at x1 y1
                    obtain ⟨q0, q1, q2, q3⟩ := B4.cells (G6.out.2.2.2.2.ext hx10)
                    clear hown hx10 hwn2
                    go_wp2_with fail
                    clear x0 x1 y0 y1 q0 q1 q2 q3
                    refine (HC2.out w10 X10.out).mono ?_
                    rintro e w11 hr11
                    obtain ⟨b1, r1, t1, b2, r2, t2, b3, r3, t3, b4, r4, t4, rfl, x11, hM0, -⟩ := hr11.open
                    have hFBk := (hM0 rfl).1 w11 (Agr.refl _ _)
                    obtain ⟨W12, hW12⟩ : ∃ W12, W12 = w11.alloc (.cells #[.slice b1 r1 t1, .slice b2 r2 t2, .slice b3 r3 t3, .slice b4 r4 t4] 35) := ⟨_, rfl⟩
                    obtain ⟨gk', hgk'⟩ : ∃ gk', gk' = w11.heap.size := ⟨_, rfl⟩
                    have X12 := Lib.hid (show Ext w9 W12 by rw [hW12]; exact (X10.out.trans x11).alloc _)
                    have HBk := Lib.hid (show B4 W12 gk' (.slice b1 r1 t1) (.slice b2 r2 t2) (.slice b3 r3 t3) (.slice b4 r4 t4) 35 by rw [hW12, hgk']; exact B4.new _ _ _ _ _ _)
                    have HFBk := Lib.hid (show FB W12 (.slice b1 r1 t1) (.slice b2 r2 t2) (.slice b3 r3 t3) (.slice b4 r4 t4) (f.wc l) by rw [hW12]; exact hFBk.1.ext ((Ext.refl _).alloc _))
                    have HWl := Lib.hid (show XL W12 (.slice wa2 wn2 wc2) wc2 lx by rw [hW12]; exact (HW10.out.ext x11).ext ((Ext.refl _).alloc _))
                    have HW12 := Lib.hid hW12; have Hgk' := Lib.hid hgk'
                    clear hr11 x11 hM0 hFBk hW12 hgk'
                    go_upto_region 23 with fail
                    rw [← HW12.out, ← Hgk'.out]
                    have hs2 := Hs2.out
                    subst hs2
                    have HCrs := Lib.hid (show ∀ w', Ext W12 w' → Calls Tryd.prog 26 #[.slice k2 s2 s2, .slice wa2 wn2 wc2] w' fun e w'' => e = .returned (.int .i64 1) ∧ Ext w' w'' from fun w' x' => Crossings_calls _ _ s2 wc2 lx w' (G6.out.2.2.2.1 w' (Agr.ext (X12.out.trans x'))).2 (HWl.out.ext x'))
                    have HSm := Lib.hid (show ∀ w', Ext W12 w' → Calls Tryd.prog 11 #[.agg #[.slice b1 r1 t1, .slice b2 r2 t2, .slice b3 r3 t3, .slice b4 r4 t4], .agg #[.slice a1 n1 d1, .slice a2 n2 d2, .slice a3 n3 d3, .slice a4 n4 d4]] w' fun e w'' => e = .returned (.bool true) ∧ Ext w' w'' from fun w' x' => by
                      have h1 := Same_calls _ _ _ _ _ _ _ _ (f.wc l) (f.wc l) w' (HFBk.out.ext x') (G.out.2.2.1.ext ((G6.out.1.trans X12.out).trans x'))
                      rw [decide_eq_true rfl] at h1
                      exact h1)
                    have HLa1 := Lib.hid (fun w' (x' : Ext W12 w') => HLk.out w' (X12.out.trans x'))
                    have HLa0 := Lib.hid (fun w' (x' : Ext W12 w') => HLk0.out w' ((G6.out.1.trans X12.out).trans x'))
                    have XG := Lib.hid (G6.out.1.trans X12.out)
                    obtain ⟨q0_1, q0_2, q0_3, q0_4⟩ := B4.cells (G6.out.2.2.2.2.ext X12.out)
                    obtain ⟨q0_5, q0_6, q0_7, q0_8⟩ := B4.cells (G.out.2.1.ext XG.out)
                    obtain ⟨q0_9, q0_10, q0_11, q0_12⟩ := B4.cells HBk.out
                    obtain ⟨q0_13, q0_14⟩ := (G6.out.2.1.ext X12.out).at
                    obtain ⟨q0_15, q0_16⟩ := (G6.out.2.2.1.ext X12.out).at
                    simp only [Nat.zero_add] at q0_14 q0_16
                    go_cut [166] from 48 to 167 (fun c wx => c = .bool false ∧ Hid (Ext W12 wx))
                    case first => as_aux_lemma =>
                      refine wp_region_held_drew (S := fun w' => w'.cell? ⟨gn, 0, Option.none⟩ = some (.slice k1 m1 s1) ∧ w'.cell? ⟨gn, 1, Option.none⟩ = some (.slice k2 s2 s2) ∧ w'.cell? ⟨gn, 2, Option.none⟩ = some (.slice k3 m3 s3) ∧ w'.cell? ⟨gn, 3, Option.none⟩ = some (.slice k4 m4 s4) ∧ w'.cell? ⟨gg, 0, Option.none⟩ = some (.slice a1 n1 d1) ∧ w'.cell? ⟨gg, 1, Option.none⟩ = some (.slice a2 n2 d2) ∧ w'.cell? ⟨gg, 2, Option.none⟩ = some (.slice a3 n3 d3) ∧ w'.cell? ⟨gg, 3, Option.none⟩ = some (.slice a4 n4 d4) ∧ w'.cell? ⟨gk', 0, Option.none⟩ = some (.slice b1 r1 t1) ∧ w'.cell? ⟨gk', 1, Option.none⟩ = some (.slice b2 r2 t2) ∧ w'.cell? ⟨gk', 2, Option.none⟩ = some (.slice b3 r3 t3) ∧ w'.cell? ⟨gk', 3, Option.none⟩ = some (.slice b4 r4 t4) ∧ w'.cell? ⟨ga, 0, Option.none⟩ = some (.int .u8 PX.a.y) ∧ w'.cell? ⟨ga, 1, Option.none⟩ = some (.int .i64 PX.a.n) ∧ w'.cell? ⟨gb', 0, Option.none⟩ = some (.int .u8 PX.b.y) ∧ w'.cell? ⟨gb', 1, Option.none⟩ = some (.int .i64 PX.b.n)) (by kernel_rfl) ?_ (fun hHeld => ?_)
                      · exact ⟨q0_1, q0_2, q0_3, q0_4, q0_5, q0_6, q0_7, q0_8, q0_9, q0_10, q0_11, q0_12, q0_13, q0_14, q0_15, q0_16⟩
                      refine wpAnyH_take (i := 0) (v := ?va610_0) rfl (by kernel_rfl) (by kernel_rfl) (by kernel_rfl) (fun _ _ _ h => h) (Or.inl ⟨by rfl, fun w hSw => ?ti610_0⟩) (by assumption) ?rest610_0
                      case ti610_0 => ((try dsimp only at hSw); go_simp; (first | done | with_reducible rfl))
                      try simp only [Act.put, List.getElem_toArray, List.getElem_cons_zero, List.getElem_cons_succ, List.setIfInBounds_toArray, List.set_cons_zero, List.set_cons_succ]
                      refine wpAnyH_take (i := 1) (v := ?va613_1) rfl (by kernel_rfl) (by kernel_rfl) (by kernel_rfl) (fun _ _ _ h => h) (Or.inl ⟨by rfl, fun w hSw => ?ti613_1⟩) (by assumption) ?rest613_1
                      case ti613_1 => ((try dsimp only at hSw); go_simp; (first | done | with_reducible rfl))
                      try simp only [Act.put, List.getElem_toArray, List.getElem_cons_zero, List.getElem_cons_succ, List.setIfInBounds_toArray, List.set_cons_zero, List.set_cons_succ]
                      refine wpAnyH_take (i := 2) (v := ?va616_2) rfl (by kernel_rfl) (by kernel_rfl) (by kernel_rfl) (fun _ _ _ h => h) (Or.inl ⟨by rfl, fun w hSw => ?ti616_2⟩) (by assumption) ?rest616_2
                      case ti616_2 => ((try dsimp only at hSw); go_simp; (first | done | with_reducible rfl))
                      try simp only [Act.put, List.getElem_toArray, List.getElem_cons_zero, List.getElem_cons_succ, List.setIfInBounds_toArray, List.set_cons_zero, List.set_cons_succ]
                      refine wpAnyH_take (i := 3) (v := ?va619_3) rfl (by kernel_rfl) (by kernel_rfl) (by kernel_rfl) (fun _ _ _ h => h) (Or.inl ⟨by rfl, fun w hSw => ?ti619_3⟩) (by assumption) ?rest619_3
                      case ti619_3 => ((try dsimp only at hSw); go_simp; (first | done | with_reducible rfl))
                      try simp only [Act.put, List.getElem_toArray, List.getElem_cons_zero, List.getElem_cons_succ, List.setIfInBounds_toArray, List.set_cons_zero, List.set_cons_succ]
                      refine wpAnyH_take (i := 4) (v := ?va622_4) rfl (by kernel_rfl) (by kernel_rfl) (by kernel_rfl) (fun _ _ _ h => h) (Or.inl ⟨by rfl, fun w hSw => ?ti622_4⟩) (by assumption) ?rest622_4
                      case ti622_4 => ((try dsimp only at hSw); go_simp; (first | done | with_reducible rfl))
                      try simp only [Act.put, List.getElem_toArray, List.getElem_cons_zero, List.getElem_cons_succ, List.setIfInBounds_toArray, List.set_cons_zero, List.set_cons_succ]
                      refine wpAnyH_take (i := 5) (v := ?va625_5) rfl (by kernel_rfl) (by kernel_rfl) (by kernel_rfl) (fun _ _ _ h => h) (Or.inl ⟨by rfl, fun w hSw => ?ti625_5⟩) (by assumption) ?rest625_5
                      case ti625_5 => ((try dsimp only at hSw); go_simp; (first | done | with_reducible rfl))
                      try simp only [Act.put, List.getElem_toArray, List.getElem_cons_zero, List.getElem_cons_succ, List.setIfInBounds_toArray, List.set_cons_zero, List.set_cons_succ]
                      refine wpAnyH_take (i := 6) (v := ?va628_6) rfl (by kernel_rfl) (by kernel_rfl) (by kernel_rfl) (fun _ _ _ h => h) (Or.inl ⟨by rfl, fun w hSw => ?ti628_6⟩) (by assumption) ?rest628_6
                      case ti628_6 => ((try dsimp only at hSw); go_simp; (first | done | with_reducible rfl))
                      try simp only [Act.put, List.getElem_toArray, List.getElem_cons_zero, List.getElem_cons_succ, List.setIfInBounds_toArray, List.set_cons_zero, List.set_cons_succ]
                      refine wpAnyH_take (i := 7) (v := ?va631_7) rfl (by kernel_rfl) (by kernel_rfl) (by kernel_rfl) (fun _ _ _ h => h) (Or.inl ⟨by rfl, fun w hSw => ?ti631_7⟩) (by assumption) ?rest631_7
                      case ti631_7 => ((try dsimp only at hSw); go_simp; (first | done | with_reducible rfl))
                      try simp only [Act.put, List.getElem_toArray, List.getElem_cons_zero, List.getElem_cons_succ, List.setIfInBounds_toArray, List.set_cons_zero, List.set_cons_succ]
                      refine wpAnyH_take (i := 8) (v := ?va634_8) rfl (by kernel_rfl) (by kernel_rfl) (by kernel_rfl) (fun _ _ _ h => h) (Or.inl ⟨by rfl, fun w hSw => ?ti634_8⟩) (by assumption) ?rest634_8
                      case ti634_8 => ((try dsimp only at hSw); go_simp; (first | done | with_reducible rfl))
                      try simp only [Act.put, List.getElem_toArray, List.getElem_cons_zero, List.getElem_cons_succ, List.setIfInBounds_toArray, List.set_cons_zero, List.set_cons_succ]
                      refine wpAnyH_take (i := 9) (v := ?va637_9) rfl (by kernel_rfl) (by kernel_rfl) (by kernel_rfl) (fun _ _ _ h => h) (Or.inl ⟨by rfl, fun w hSw => ?ti637_9⟩) (by assumption) ?rest637_9
                      case ti637_9 => ((try dsimp only at hSw); go_simp; (first | done | with_reducible rfl))
                      try simp only [Act.put, List.getElem_toArray, List.getElem_cons_zero, List.getElem_cons_succ, List.setIfInBounds_toArray, List.set_cons_zero, List.set_cons_succ]
                      refine wpAnyH_ready (rs := [10]) (by kernel_rfl) (by simp) ?_
                      refine AllReadyH.cons rfl (fun K hK => ?_) AllReadyH.nil
                      go_simp
                      refine (HCrs.out _ ?_).mono ?_
                      · (repeat (first | (with_reducible exact Ext.refl _) | (with_reducible apply Ext.drew) | (with_reducible apply Ext.drewN) | (with_reducible apply Ext.alloc)))
                      intro e v1 hh
                      obtain ⟨rfl, x⟩ := hh
                      have Xa : Hid (Ext W12 v1) := Lib.hid (Ext.trans (by ((repeat (first | (with_reducible exact Ext.refl _) | (with_reducible apply Ext.drew) | (with_reducible apply Ext.drewN) | (with_reducible apply Ext.alloc))); done)) x)
                      have q1_1 := Xa.out.cell q0_1
                      have q1_2 := Xa.out.cell q0_2
                      have q1_3 := Xa.out.cell q0_3
                      have q1_4 := Xa.out.cell q0_4
                      have q1_5 := Xa.out.cell q0_5
                      have q1_6 := Xa.out.cell q0_6
                      have q1_7 := Xa.out.cell q0_7
                      have q1_8 := Xa.out.cell q0_8
                      have q1_9 := Xa.out.cell q0_9
                      have q1_10 := Xa.out.cell q0_10
                      have q1_11 := Xa.out.cell q0_11
                      have q1_12 := Xa.out.cell q0_12
                      have q1_13 := Xa.out.cell q0_13
                      have q1_14 := Xa.out.cell q0_14
                      have q1_15 := Xa.out.cell q0_15
                      have q1_16 := Xa.out.cell q0_16
                      go_simp
                      refine hK.out _ _ ?_ (fun hHeld => ?_)
                      · exact ⟨q1_1, q1_2, q1_3, q1_4, q1_5, q1_6, q1_7, q1_8, q1_9, q1_10, q1_11, q1_12, q1_13, q1_14, q1_15, q1_16⟩
                      clear hK K x
                      try simp only [Act.put, List.getElem_toArray, List.getElem_cons_zero, List.getElem_cons_succ, List.setIfInBounds_toArray, List.set_cons_zero, List.set_cons_succ]
                      refine wpAnyH_take (i := 11) (v := ?va669_11) rfl (by kernel_rfl) (by kernel_rfl) (by kernel_rfl) (fun _ _ _ h => h) (Or.inl ⟨by rfl, fun w hSw => ?ti669_11⟩) (by assumption) ?rest669_11
                      case ti669_11 => ((try dsimp only at hSw); go_simp; (first | done | with_reducible rfl))
                      try simp only [Act.put, List.getElem_toArray, List.getElem_cons_zero, List.getElem_cons_succ, List.setIfInBounds_toArray, List.set_cons_zero, List.set_cons_succ]
                      refine wpAnyH_take (i := 12) (v := ?va672_12) rfl (by kernel_rfl) (by kernel_rfl) (by kernel_rfl) (fun _ _ _ h => h) (Or.inl ⟨by rfl, fun w hSw => ?ti672_12⟩) (by assumption) ?rest672_12
                      case ti672_12 => ((try dsimp only at hSw); go_simp; (first | done | with_reducible rfl))
                      try simp only [Act.put, List.getElem_toArray, List.getElem_cons_zero, List.getElem_cons_succ, List.setIfInBounds_toArray, List.set_cons_zero, List.set_cons_succ]
                      refine wpAnyH_take (i := 13) (v := ?va675_13) rfl (by kernel_rfl) (by kernel_rfl) (by kernel_rfl) (fun _ _ _ h => h) (Or.inl ⟨by rfl, fun w hSw => ?ti675_13⟩) (by assumption) ?rest675_13
                      case ti675_13 => ((try dsimp only at hSw); go_simp; (first | done | with_reducible rfl))
                      try simp only [Act.put, List.getElem_toArray, List.getElem_cons_zero, List.getElem_cons_succ, List.setIfInBounds_toArray, List.set_cons_zero, List.set_cons_succ]
                      refine wpAnyH_take (i := 14) (v := ?va678_14) rfl (by kernel_rfl) (by kernel_rfl) (by kernel_rfl) (fun _ _ _ h => h) (Or.inl ⟨by rfl, fun w hSw => ?ti678_14⟩) (by assumption) ?rest678_14
                      case ti678_14 => ((try dsimp only at hSw); go_simp; (first | done | with_reducible rfl))
                      try simp only [Act.put, List.getElem_toArray, List.getElem_cons_zero, List.getElem_cons_succ, List.setIfInBounds_toArray, List.set_cons_zero, List.set_cons_succ]
                      refine wpAnyH_take (i := 15) (v := ?va681_15) rfl (by kernel_rfl) (by kernel_rfl) (by kernel_rfl) (fun _ _ _ h => h) (Or.inl ⟨by rfl, fun w hSw => ?ti681_15⟩) (by assumption) ?rest681_15
                      case ti681_15 => ((try dsimp only at hSw); go_simp; (first | done | with_reducible rfl))
                      try simp only [Act.put, List.getElem_toArray, List.getElem_cons_zero, List.getElem_cons_succ, List.setIfInBounds_toArray, List.set_cons_zero, List.set_cons_succ]
                      refine wpAnyH_take (i := 16) (v := ?va684_16) rfl (by kernel_rfl) (by kernel_rfl) (by kernel_rfl) (fun _ _ _ h => h) (Or.inl ⟨by rfl, fun w hSw => ?ti684_16⟩) (by assumption) ?rest684_16
                      case ti684_16 => ((try dsimp only at hSw); go_simp; (first | done | with_reducible rfl))
                      try simp only [Act.put, List.getElem_toArray, List.getElem_cons_zero, List.getElem_cons_succ, List.setIfInBounds_toArray, List.set_cons_zero, List.set_cons_succ]
                      refine wpAnyH_take (i := 17) (v := ?va687_17) rfl (by kernel_rfl) (by kernel_rfl) (by kernel_rfl) (fun _ _ _ h => h) (Or.inl ⟨by rfl, fun w hSw => ?ti687_17⟩) (by assumption) ?rest687_17
                      case ti687_17 => ((try dsimp only at hSw); go_simp; (first | done | with_reducible rfl))
                      try simp only [Act.put, List.getElem_toArray, List.getElem_cons_zero, List.getElem_cons_succ, List.setIfInBounds_toArray, List.set_cons_zero, List.set_cons_succ]
                      refine wpAnyH_take (i := 18) (v := ?va690_18) rfl (by kernel_rfl) (by kernel_rfl) (by kernel_rfl) (fun _ _ _ h => h) (Or.inl ⟨by rfl, fun w hSw => ?ti690_18⟩) (by assumption) ?rest690_18
                      case ti690_18 => ((try dsimp only at hSw); go_simp; (first | done | with_reducible rfl))
                      try simp only [Act.put, List.getElem_toArray, List.getElem_cons_zero, List.getElem_cons_succ, List.setIfInBounds_toArray, List.set_cons_zero, List.set_cons_succ]
                      refine wpAnyH_take (i := 19) (v := ?va693_19) rfl (by kernel_rfl) (by kernel_rfl) (by kernel_rfl) (fun _ _ _ h => h) (Or.inl ⟨by rfl, fun w hSw => ?ti693_19⟩) (by assumption) ?rest693_19
                      case ti693_19 => ((try dsimp only at hSw); go_simp; (first | done | with_reducible rfl))
                      try simp only [Act.put, List.getElem_toArray, List.getElem_cons_zero, List.getElem_cons_succ, List.setIfInBounds_toArray, List.set_cons_zero, List.set_cons_succ]
                      refine wpAnyH_take (i := 20) (v := ?va696_20) rfl (by kernel_rfl) (by kernel_rfl) (by kernel_rfl) (fun _ _ _ h => h) (Or.inl ⟨by rfl, fun w hSw => ?ti696_20⟩) (by assumption) ?rest696_20
                      case ti696_20 => ((try dsimp only at hSw); go_simp; (first | done | with_reducible rfl))
                      try simp only [Act.put, List.getElem_toArray, List.getElem_cons_zero, List.getElem_cons_succ, List.setIfInBounds_toArray, List.set_cons_zero, List.set_cons_succ]
                      refine wpAnyH_take (i := 21) (v := ?va699_21) rfl (by kernel_rfl) (by kernel_rfl) (by kernel_rfl) (fun _ _ _ h => h) (Or.inl ⟨by rfl, fun w hSw => ?ti699_21⟩) (by assumption) ?rest699_21
                      case ti699_21 => ((try dsimp only at hSw); go_simp; (first | done | with_reducible rfl))
                      try simp only [Act.put, List.getElem_toArray, List.getElem_cons_zero, List.getElem_cons_succ, List.setIfInBounds_toArray, List.set_cons_zero, List.set_cons_succ]
                      refine wpAnyH_take (i := 22) (v := ?va702_22) rfl (by kernel_rfl) (by kernel_rfl) (by kernel_rfl) (fun _ _ _ h => h) (Or.inl ⟨by rfl, fun w hSw => ?ti702_22⟩) (by assumption) ?rest702_22
                      case ti702_22 => ((try dsimp only at hSw); go_simp; (first | done | with_reducible rfl))
                      try simp only [Act.put, List.getElem_toArray, List.getElem_cons_zero, List.getElem_cons_succ, List.setIfInBounds_toArray, List.set_cons_zero, List.set_cons_succ]
                      refine wpAnyH_take (i := 23) (v := ?va705_23) rfl (by kernel_rfl) (by kernel_rfl) (by kernel_rfl) (fun _ _ _ h => h) (Or.inl ⟨by rfl, fun w hSw => ?ti705_23⟩) (by assumption) ?rest705_23
                      case ti705_23 => ((try dsimp only at hSw); go_simp; (first | done | with_reducible rfl))
                      try simp only [Act.put, List.getElem_toArray, List.getElem_cons_zero, List.getElem_cons_succ, List.setIfInBounds_toArray, List.set_cons_zero, List.set_cons_succ]
                      refine wpAnyH_take (i := 24) (v := ?va708_24) rfl (by kernel_rfl) (by kernel_rfl) (by kernel_rfl) (fun _ _ _ h => h) (Or.inl ⟨by rfl, fun w hSw => ?ti708_24⟩) (by assumption) ?rest708_24
                      case ti708_24 => ((try dsimp only at hSw); go_simp; (first | done | with_reducible rfl))
                      try simp only [Act.put, List.getElem_toArray, List.getElem_cons_zero, List.getElem_cons_succ, List.setIfInBounds_toArray, List.set_cons_zero, List.set_cons_succ]
                      refine wpAnyH_ready (rs := [25]) (by kernel_rfl) (by simp) ?_
                      refine AllReadyH.cons rfl (fun K hK => ?_) AllReadyH.nil
                      go_simp
                      refine (HSm.out _ ?_).mono ?_
                      · (refine Ext.trans Xa.out ?_; (repeat (first | (with_reducible exact Ext.refl _) | (with_reducible apply Ext.drew) | (with_reducible apply Ext.drewN) | (with_reducible apply Ext.alloc))))
                      intro e v2 hh
                      obtain ⟨rfl, x⟩ := hh
                      have Xb : Hid (Ext W12 v2) := Lib.hid (Ext.trans Xa.out (Ext.trans (by ((repeat (first | (with_reducible exact Ext.refl _) | (with_reducible apply Ext.drew) | (with_reducible apply Ext.drewN) | (with_reducible apply Ext.alloc))); done)) x))
                      have q2_1 := Xb.out.cell q0_1
                      have q2_2 := Xb.out.cell q0_2
                      have q2_3 := Xb.out.cell q0_3
                      have q2_4 := Xb.out.cell q0_4
                      have q2_5 := Xb.out.cell q0_5
                      have q2_6 := Xb.out.cell q0_6
                      have q2_7 := Xb.out.cell q0_7
                      have q2_8 := Xb.out.cell q0_8
                      have q2_9 := Xb.out.cell q0_9
                      have q2_10 := Xb.out.cell q0_10
                      have q2_11 := Xb.out.cell q0_11
                      have q2_12 := Xb.out.cell q0_12
                      have q2_13 := Xb.out.cell q0_13
                      have q2_14 := Xb.out.cell q0_14
                      have q2_15 := Xb.out.cell q0_15
                      have q2_16 := Xb.out.cell q0_16
                      go_simp
                      refine hK.out _ _ ?_ (fun hHeld => ?_)
                      · exact ⟨q2_1, q2_2, q2_3, q2_4, q2_5, q2_6, q2_7, q2_8, q2_9, q2_10, q2_11, q2_12, q2_13, q2_14, q2_15, q2_16⟩
                      clear hK K x
                      try simp only [Act.put, List.getElem_toArray, List.getElem_cons_zero, List.getElem_cons_succ, List.setIfInBounds_toArray, List.set_cons_zero, List.set_cons_succ]
                      refine wpAnyH_take (i := 26) (v := ?va740_26) rfl (by kernel_rfl) (by kernel_rfl) (by kernel_rfl) (fun _ _ _ h => h) (Or.inl ⟨by rfl, fun w hSw => ?ti740_26⟩) (by assumption) ?rest740_26
                      case ti740_26 => ((try dsimp only at hSw); go_simp; (first | done | with_reducible rfl))
                      try simp only [Act.put, List.getElem_toArray, List.getElem_cons_zero, List.getElem_cons_succ, List.setIfInBounds_toArray, List.set_cons_zero, List.set_cons_succ]
                      refine wpAnyH_take (i := 27) (v := ?va743_27) rfl (by kernel_rfl) (by kernel_rfl) (by kernel_rfl) (fun _ _ _ h => h) (Or.inl ⟨by rfl, fun w hSw => ?ti743_27⟩) (by assumption) ?rest743_27
                      case ti743_27 => ((try dsimp only at hSw); go_simp; (first | done | with_reducible rfl))
                      try simp only [Act.put, List.getElem_toArray, List.getElem_cons_zero, List.getElem_cons_succ, List.setIfInBounds_toArray, List.set_cons_zero, List.set_cons_succ]
                      refine wpAnyH_take (i := 28) (v := ?va746_28) rfl (by kernel_rfl) (by kernel_rfl) (by kernel_rfl) (fun _ _ _ h => h) (Or.inl ⟨by rfl, fun w hSw => ?ti746_28⟩) (by assumption) ?rest746_28
                      case ti746_28 => ((try dsimp only at hSw); go_simp; (first | done | with_reducible rfl))
                      try simp only [Act.put, List.getElem_toArray, List.getElem_cons_zero, List.getElem_cons_succ, List.setIfInBounds_toArray, List.set_cons_zero, List.set_cons_succ]
                      refine wpAnyH_take (i := 29) (v := ?va749_29) rfl (by kernel_rfl) (by kernel_rfl) (by kernel_rfl) (fun _ _ _ h => h) (Or.inl ⟨by rfl, fun w hSw => ?ti749_29⟩) (by assumption) ?rest749_29
                      case ti749_29 => ((try dsimp only at hSw); go_simp; (first | done | with_reducible rfl))
                      try simp only [Act.put, List.getElem_toArray, List.getElem_cons_zero, List.getElem_cons_succ, List.setIfInBounds_toArray, List.set_cons_zero, List.set_cons_succ]
                      refine wpAnyH_take (i := 30) (v := ?va752_30) rfl (by kernel_rfl) (by kernel_rfl) (by kernel_rfl) (fun _ _ _ h => h) (Or.inl ⟨by rfl, fun w hSw => ?ti752_30⟩) (by assumption) ?rest752_30
                      case ti752_30 => ((try dsimp only at hSw); go_simp; (first | done | with_reducible rfl))
                      try simp only [Act.put, List.getElem_toArray, List.getElem_cons_zero, List.getElem_cons_succ, List.setIfInBounds_toArray, List.set_cons_zero, List.set_cons_succ]
                      refine wpAnyH_take (i := 31) (v := ?va755_31) rfl (by kernel_rfl) (by kernel_rfl) (by kernel_rfl) (fun _ _ _ h => h) (Or.inl ⟨by rfl, fun w hSw => ?ti755_31⟩) (by assumption) ?rest755_31
                      case ti755_31 => ((try dsimp only at hSw); go_simp; (first | done | with_reducible rfl))
                      try simp only [Act.put, List.getElem_toArray, List.getElem_cons_zero, List.getElem_cons_succ, List.setIfInBounds_toArray, List.set_cons_zero, List.set_cons_succ]
                      refine wpAnyH_take (i := 33) (v := ?va758_33) rfl (by kernel_rfl) (by kernel_rfl) (by kernel_rfl) (fun _ _ _ h => h) (Or.inl ⟨by rfl, fun w hSw => ?ti758_33⟩) (by assumption) ?rest758_33
                      case ti758_33 => ((try dsimp only at hSw); go_simp; (first | done | with_reducible rfl))
                      try simp only [Act.put, List.getElem_toArray, List.getElem_cons_zero, List.getElem_cons_succ, List.setIfInBounds_toArray, List.set_cons_zero, List.set_cons_succ]
                      refine wpAnyH_take (i := 34) (v := ?va761_34) rfl (by kernel_rfl) (by kernel_rfl) (by kernel_rfl) (fun _ _ _ h => h) (Or.inl ⟨by rfl, fun w hSw => ?ti761_34⟩) (by assumption) ?rest761_34
                      case ti761_34 => ((try dsimp only at hSw); go_simp; (first | done | with_reducible rfl))
                      try simp only [Act.put, List.getElem_toArray, List.getElem_cons_zero, List.getElem_cons_succ, List.setIfInBounds_toArray, List.set_cons_zero, List.set_cons_succ]
                      refine wpAnyH_take (i := 35) (v := ?va764_35) rfl (by kernel_rfl) (by kernel_rfl) (by kernel_rfl) (fun _ _ _ h => h) (Or.inl ⟨by rfl, fun w hSw => ?ti764_35⟩) (by assumption) ?rest764_35
                      case ti764_35 => ((try dsimp only at hSw); go_simp; (first | done | with_reducible rfl))
                      try simp only [Act.put, List.getElem_toArray, List.getElem_cons_zero, List.getElem_cons_succ, List.setIfInBounds_toArray, List.set_cons_zero, List.set_cons_succ]
                      refine wpAnyH_take (i := 37) (v := ?va767_37) rfl (by kernel_rfl) (by kernel_rfl) (by kernel_rfl) (fun _ _ _ h => h) (Or.inl ⟨by rfl, fun w hSw => ?ti767_37⟩) (by assumption) ?rest767_37
                      case ti767_37 => ((try dsimp only at hSw); go_simp; (first | done | with_reducible rfl))
                      try simp only [Act.put, List.getElem_toArray, List.getElem_cons_zero, List.getElem_cons_succ, List.setIfInBounds_toArray, List.set_cons_zero, List.set_cons_succ]
                      refine wpAnyH_ready (rs := [32]) (by kernel_rfl) (by simp) ?_
                      refine AllReadyH.cons rfl (fun K hK => ?_) AllReadyH.nil
                      go_simp
                      refine (HLa1.out _ ?_).mono ?_
                      · (refine Ext.trans Xb.out ?_; (repeat (first | (with_reducible exact Ext.refl _) | (with_reducible apply Ext.drew) | (with_reducible apply Ext.drewN) | (with_reducible apply Ext.alloc))))
                      intro e v3 hh
                      obtain ⟨rfl, x⟩ := hh
                      have Xc : Hid (Ext W12 v3) := Lib.hid (Ext.trans Xb.out (Ext.trans (by ((repeat (first | (with_reducible exact Ext.refl _) | (with_reducible apply Ext.drew) | (with_reducible apply Ext.drewN) | (with_reducible apply Ext.alloc))); done)) x))
                      have q3_1 := Xc.out.cell q0_1
                      have q3_2 := Xc.out.cell q0_2
                      have q3_3 := Xc.out.cell q0_3
                      have q3_4 := Xc.out.cell q0_4
                      have q3_5 := Xc.out.cell q0_5
                      have q3_6 := Xc.out.cell q0_6
                      have q3_7 := Xc.out.cell q0_7
                      have q3_8 := Xc.out.cell q0_8
                      have q3_9 := Xc.out.cell q0_9
                      have q3_10 := Xc.out.cell q0_10
                      have q3_11 := Xc.out.cell q0_11
                      have q3_12 := Xc.out.cell q0_12
                      have q3_13 := Xc.out.cell q0_13
                      have q3_14 := Xc.out.cell q0_14
                      have q3_15 := Xc.out.cell q0_15
                      have q3_16 := Xc.out.cell q0_16
                      go_simp
                      refine hK.out _ _ ?_ (fun hHeld => ?_)
                      · exact ⟨q3_1, q3_2, q3_3, q3_4, q3_5, q3_6, q3_7, q3_8, q3_9, q3_10, q3_11, q3_12, q3_13, q3_14, q3_15, q3_16⟩
                      clear hK K x
                      try simp only [Act.put, List.getElem_toArray, List.getElem_cons_zero, List.getElem_cons_succ, List.setIfInBounds_toArray, List.set_cons_zero, List.set_cons_succ]
                      refine wpAnyH_ready (rs := [36]) (by kernel_rfl) (by simp) ?_
                      refine AllReadyH.cons rfl (fun K hK => ?_) AllReadyH.nil
                      go_simp
                      refine (HLa0.out _ ?_).mono ?_
                      · (refine Ext.trans Xc.out ?_; (repeat (first | (with_reducible exact Ext.refl _) | (with_reducible apply Ext.drew) | (with_reducible apply Ext.drewN) | (with_reducible apply Ext.alloc))))
                      intro e v4 hh
                      obtain ⟨rfl, x⟩ := hh
                      have Xd : Hid (Ext W12 v4) := Lib.hid (Ext.trans Xc.out (Ext.trans (by ((repeat (first | (with_reducible exact Ext.refl _) | (with_reducible apply Ext.drew) | (with_reducible apply Ext.drewN) | (with_reducible apply Ext.alloc))); done)) x))
                      have q4_1 := Xd.out.cell q0_1
                      have q4_2 := Xd.out.cell q0_2
                      have q4_3 := Xd.out.cell q0_3
                      have q4_4 := Xd.out.cell q0_4
                      have q4_5 := Xd.out.cell q0_5
                      have q4_6 := Xd.out.cell q0_6
                      have q4_7 := Xd.out.cell q0_7
                      have q4_8 := Xd.out.cell q0_8
                      have q4_9 := Xd.out.cell q0_9
                      have q4_10 := Xd.out.cell q0_10
                      have q4_11 := Xd.out.cell q0_11
                      have q4_12 := Xd.out.cell q0_12
                      have q4_13 := Xd.out.cell q0_13
                      have q4_14 := Xd.out.cell q0_14
                      have q4_15 := Xd.out.cell q0_15
                      have q4_16 := Xd.out.cell q0_16
                      go_simp
                      refine hK.out _ _ ?_ (fun hHeld => ?_)
                      · exact ⟨q4_1, q4_2, q4_3, q4_4, q4_5, q4_6, q4_7, q4_8, q4_9, q4_10, q4_11, q4_12, q4_13, q4_14, q4_15, q4_16⟩
                      clear hK K x
                      try simp only [Act.put, List.getElem_toArray, List.getElem_cons_zero, List.getElem_cons_succ, List.setIfInBounds_toArray, List.set_cons_zero, List.set_cons_succ]
                      refine wpAnyH_take (i := 38) (v := ?va828_38) rfl (by kernel_rfl) (by kernel_rfl) (by kernel_rfl) (fun _ _ _ h => h) (Or.inl ⟨by rfl, fun w hSw => ?ti828_38⟩) (by assumption) ?rest828_38
                      case ti828_38 => ((try dsimp only at hSw); go_simp; (first | done | with_reducible rfl))
                      try simp only [Act.put, List.getElem_toArray, List.getElem_cons_zero, List.getElem_cons_succ, List.setIfInBounds_toArray, List.set_cons_zero, List.set_cons_succ]
                      refine wpAnyH_take (i := 39) (v := ?va831_39) rfl (by kernel_rfl) (by kernel_rfl) (by kernel_rfl) (fun _ _ _ h => h) (Or.inl ⟨by rfl, fun w hSw => ?ti831_39⟩) (by assumption) ?rest831_39
                      case ti831_39 => ((try dsimp only at hSw); go_simp; (first | done | with_reducible rfl))
                      try simp only [Act.put, List.getElem_toArray, List.getElem_cons_zero, List.getElem_cons_succ, List.setIfInBounds_toArray, List.set_cons_zero, List.set_cons_succ]
                      refine wpAnyH_take (i := 40) (v := ?va834_40) rfl (by kernel_rfl) (by kernel_rfl) (by kernel_rfl) (fun _ _ _ h => h) (Or.inl ⟨by rfl, fun w hSw => ?ti834_40⟩) (by assumption) ?rest834_40
                      case ti834_40 => ((try dsimp only at hSw); go_simp; (first | done | with_reducible rfl))
                      try simp only [Act.put, List.getElem_toArray, List.getElem_cons_zero, List.getElem_cons_succ, List.setIfInBounds_toArray, List.set_cons_zero, List.set_cons_succ]
                      refine wpAnyH_done (by kernel_rfl) ?_ _
                      go_wp2_with fail
                      go_meet
                      case rel => exact ⟨rfl, Xd⟩
                    case rest =>
                      obtain ⟨rfl, G8⟩ := hcut
                      obtain ⟨wv, hwv⟩ : ∃ wv, wv = wc := ⟨_, rfl⟩
                      subst hwv
                      clear q0_1 q0_2 q0_3 q0_4 q0_5 q0_6 q0_7 q0_8 q0_9 q0_10 q0_11 q0_12 q0_13 q0_14 q0_15 q0_16
                      have hBg := G.out.2.1.ext (XG.out.trans G8.out)
                      have hBn := (G6.out.2.2.2.2.ext X12.out).ext G8.out
                      obtain ⟨p0, p1, p2, p3⟩ := B4.cells hBn
                      obtain ⟨q0, q1, q2, q3⟩ := B4.cells hBg
                      have qf := hBg.fr; have ql := hBg.lt
                      have hgg3 : gg = w3.heap.size := Hgg.out
                      have hgw5 : gg < w5.heap.size := (G.out.2.1.ext G5.out.1).lt
                      have HNW := Lib.hid (show ∀ W', W' = ((((wv.setCell ⟨gg, 0, none⟩ (.slice k1 m1 s1)).setCell ⟨gg, 1, none⟩ (.slice k2 s2 s2)).setCell ⟨gg, 2, none⟩ (.slice k3 m3 s3)).setCell ⟨gg, 3, none⟩ (.slice k4 m4 s4)) → Ext w3 W' ∧ B4 W' gg (.slice k1 m1 s1) (.slice k2 s2 s2) (.slice k3 m3 s3) (.slice k4 m4 s4) 35 ∧ FB W' (.slice k1 m1 s1) (.slice k2 s2 s2) (.slice k3 m3 s3) (.slice k4 m4 s4) (f.wc lx) ∧ XL W' (.slice wa2 wn2 wc2) wc2 lx ∧ XOk f.ys (30 + ((i + 1 : Nat) : Int)) lx ∧ lx.length ≤ 30 + (i + 1) from fun W' hW' => by
                        have hag : Agr w5.heap.size w9 W' := by
                          rw [hW']
                          exact ((((Agr.ext (X12.out.trans G8.out)).set (.inl hgw5) _).set (.inl hgw5) _).set (.inl hgw5) _).set (.inl hgw5) _
                        refine ⟨by rw [hW']; exact Ext.set4 ((G.out.1.trans XG.out).trans G8.out) (by omega) _ _ _ _, by rw [hW']; exact hBg.put4 _ _ _ _, (G6.out.2.2.2.1 W' hag).1, ?_, Hxl.out.1.mono (by omega), Hxl.out.2⟩
                        rw [hW']
                        exact XL.frame (HWl.out.ext G8.out) (SBx.of hBg) (set4_keeps _ _ _ _ _ _))
                      clear hBg hBn hgg3 hgw5
                      go_wp2_with fail
                      go_roundg (vn - (i + 1))
                      case measure => have := Hgi.out; omega
                      case rel => exact ⟨i + 1, lx, _, _, _, _, wa2, _, _, _, _, _, _, _, _, wn2, wc2, by have := Hgi.out; omega, by go_num, rfl, Lib.hid (HNW.out _ rfl)⟩
          · have f2 : ¬ (i : Int) < vn := by omega
            have XR := Lib.hid (X3.out.trans G.out.1)
            have hBg := G.out.2.1
            have hgg3 : gg = w3.heap.size := Hgg.out
            obtain ⟨W15, hW15⟩ : ∃ W15, W15 = wr.setCell ⟨gg, 1, none⟩ (.slice ka kn kc) := ⟨_, rfl⟩
            have XS := Lib.hid (show Ext w3 W15 by rw [hW15]; exact Ext.setCell G.out.1 (by dsimp only; omega) _)
            have hB15 : B4 W15 gg (.slice a1 n1 d1) (.slice ka kn kc) (.slice a3 n3 d3) (.slice a4 n4 d4) 35 := by rw [hW15]; exact hBg.put1 _
            have hk1 : ∀ b o u, b ≠ gg → wr.cell? ⟨b, o, none⟩ = some u → W15.cell? ⟨b, o, none⟩ = some u := fun b o u hb h => by rw [hW15]; exact cell_set h hb _
            have hsb := SBx.of hBg
            have HFBg := Lib.hid (show FB W15 (.slice a1 n1 d1) (.slice ka kn kc) (.slice a3 n3 d3) (.slice a4 n4 d4) f from by
              obtain ⟨⟨cA, hA⟩, _, ⟨cC, hCc⟩, cD, hD⟩ := G.out.2.2.1
              exact ⟨⟨cA, hA.frame H6.out hsb hk1⟩, (HF3.out.ext XS.out).c, ⟨cC, hCc.frame hsb hk1⟩, cD, hD.frame hsb hk1⟩)
            have HFBf := Lib.hid (HF3.out.ext XS.out)
            have HB15 := Lib.hid hB15
            have HBf := Lib.hid ((HB2.out.ext X3.out).ext XS.out)
            have HSm := Lib.hid (show Calls Tryd.prog 11 #[.agg #[.slice (some ⟨g0, 0, none⟩) 6 6, .slice ka kn kc, .slice la ln lc', .slice fa fn fc], .agg #[.slice a1 n1 d1, .slice ka kn kc, .slice a3 n3 d3, .slice a4 n4 d4]] W15 fun e w'' => e = .returned (.bool true) ∧ Ext W15 w'' from by
              have h1 := Same_calls _ _ _ _ _ _ _ _ f f W15 HFBf.out HFBg.out
              rw [decide_eq_true rfl] at h1
              exact h1)
            have HCk2 := Lib.hid (show ∀ w', Ext W15 w' → Calls Tryd.prog 14 #[.agg #[.slice a1 n1 d1, .slice ka kn kc, .slice a3 n3 d3, .slice a4 n4 d4]] w' fun e w'' => e = .returned (.int .i64 0) ∧ Ext w' w'' from fun w' x' => by
              have h1 := Check_calls _ _ _ _ f w' (HFBg.out.ext x') HFI.out (fun _ => HOKT.out)
              rw [HChk.out] at h1
              exact h1)
            obtain ⟨p0, p1, p2, p3⟩ := B4.cells ((HB2.out.ext X3.out).ext G.out.1)
            obtain ⟨q0, q1, q2, q3⟩ := B4.cells hBg
            have qf := hBg.fr 1; have ql := hBg.lt
            have HW15 := Lib.hid hW15
            clear hBg hgg3 hW15 hB15 hk1 hsb hgi
            go_upto_region 27 with fail
            rw [← HW15.out]
            clear p0 p1 p2 p3 q0 q1 q2 q3 qf ql
            obtain ⟨p0, p1, p2, p3⟩ := B4.cells HBf.out
            obtain ⟨q0, q1, q2, q3⟩ := B4.cells HB15.out
            go_wp2_with fail
            clear p0 p1 p2 p3 q0 q1 q2 q3
            refine HSm.out.mono ?_
            rintro e w16 ⟨rfl, x16⟩
            have X16 := Lib.hid x16
            obtain ⟨q0, q1, q2, q3⟩ := B4.cells (HB15.out.ext x16)
            clear x16
            go_wp2_with fail
            clear q0 q1 q2 q3
            refine (HCk2.out w16 X16.out).mono ?_
            rintro e w17 ⟨rfl, x17⟩
            have X17 := Lib.hid (X2.out.trans (X3.out.trans (XS.out.trans (X16.out.trans x17))))
            clear x17
            go_wp2_with fail
            refine (Lives_calls w17 (HT.out.ext X17.out)).mono ?_
            rintro e w18 ⟨rfl, x18⟩
            have X18 := Lib.hid (X17.out.trans x18)
            clear x18
            go_wp2
            go_ret
            exact ⟨rfl, X18.out⟩
end Go.Proofs.YtlhkehfplcclgaaDoor
