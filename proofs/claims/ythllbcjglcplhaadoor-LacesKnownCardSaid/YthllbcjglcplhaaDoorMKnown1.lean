/- Texts of this claim in one file: libraries and walks. -/
import Derived.BigQuiet
import Derived.Lib.IndexLaws
import Derived.RegionTactic
import Derived.Test.YthllbcjglcplhaaDoorL3
import Derived.Test.YthllbcjglcplhaaDoorL4
import Derived.Test.YthllbcjglcplhaaDoorL5
import Derived.Test.YthllbcjglcplhaaDoorL11
import Derived.Test.YthllbcjglcplhaaDoorL18
import Derived.Test.YthllbcjglcplhaaDoorL19
import Derived.Test.YthllbcjglcplhaaDoorMKnown0
/- LacesOf. -/
namespace Go.Proofs.YthllbcjglcplhaaDoor
set_option linter.unusedVariables false
set_option linter.unusedSimpArgs false
set_option maxRecDepth 8000
open Go Go.RowKit

/-- The lace that the law makes: its block M holds the rows. -/
def LM (B wr : World) (W : Int) (M : Nat) (vl : Value) (hs : List (List Ho)) : Prop := HC B wr vl hs ∧ B2 wr M (.int .i64 W) vl 24
set_option maxHeartbeats 16000000 in
theorem LacesOf_walk (v : Value) (c : Nat) (rows : List (List St)) (w : World) (h : RR w v c rows) (hIn : ∀ k, k < rows.length → ∀ i, i < (sw rows k).length → (0 ≤ (si (sw rows k) i).k ∧ (si (sw rows k) i).k ≤ 255) ∧ 0 ≤ (si (sw rows k) i).y ∧ (si (sw rows k) i).y ≤ 255) (hy : Sy w) :
    Calls Tryd.prog 4 #[.agg #[v]] w (RetT w) := by
  have hof := fun w' (x : Ext w w') => LOf_calls v c rows w' (h.ext x) (fun i hi j hj => (hIn i hi j hj).2)
  have hld := fun w' (x : Ext w w') => RCLoads_calls v c rows w' (h.ext x) (fun i hi j hj => ⟨(hIn i hi j hj).1.1, (hIn i hi j hj).2.1⟩)
  have hlv := fun w' (x : Ext w w') => lives20_calls w' (hy.ext x)
  obtain ⟨ao, N, rfl, hn, hc, hcm, hat⟩ := h.open
  unfold maxLen at hcm
  obtain ⟨B, hB⟩ : ∃ B, B = w.alloc (.cells #[.slice ao N c] 28) := ⟨_, rfl⟩
  have xB : Ext w B := by rw [hB]; exact (Ext.refl w).alloc _
  have hb0 : B.cell? ⟨w.heap.size, 0, none⟩ = some (.slice ao N c) := by rw [hB, World.cell?_alloc_at (hn := rfl)]; rfl
  have HOf := Lib.hid hof; have HLd := Lib.hid hld; have HLv := Lib.hid hlv; have XB := Lib.hid xB; have HB := Lib.hid hB; have HA := Lib.hid hat; have Hn := Lib.hid hn
  have HB0 := Lib.hid (fun w' (x : Ext B w') => x.cell hb0)
  have e0 := hb0
  rw [hB] at e0
  clear hof hld hlv xB hB hat hn hb0 h hIn hy
  go_enter Tryd.func4, Tryd.ntmps4
  by_cases h40 : 40 < N
  · have t0 : (40 : Int) < N := by omega
    clear h40
    go_wp2
    go_ret
    exact ⟨rfl, (Ext.refl w).alloc _⟩
  have t0 : ¬ (40 : Int) < N := by omega
  go_wp2
  rw [← HB.out]
  clear e0 t0
  go_loopw [3] (fun i wr => ∃ k : Nat, k ≤ N ∧ i = .int .i64 k ∧ Hid (Ext B wr) ∧ Hid (∀ i, i < k → (sw rows i).length ≤ 40)) (fun i _ => N - (intOf i).toNat)
  case atStart => exact ⟨0, Nat.zero_le _, rfl, Lib.hid (Ext.refl _), Lib.hid (fun i hi => by omega)⟩
  case round =>
    obtain ⟨k, hk, rfl, HX, HL⟩ := hrel
    have e0 := HB0.out _ HX.out
    by_cases hlt : k < N
    · have t1 : (k : Int) < N := by omega
      obtain ⟨b, o, a, m, d, rfl, g1, g2⟩ := HA.out k hlt
      replace g1 := (XB.out.trans HX.out).cell g1
      obtain ⟨_, _, e1, e2, e3, e4, e5⟩ := g2.open
      simp only [Value.slice.injEq] at e1; obtain ⟨rfl, rfl, _⟩ := e1
      have Hm := Lib.hid e2
      clear g2 e2 e3 e4 e5
      by_cases h41 : 40 < m
      · have t2 : (40 : Int) < m := by omega
        clear h41
        go_wp2
        go_ret
        exact ⟨rfl, XB.out.trans HX.out⟩
      have t2 : ¬ (40 : Int) < m := by omega
      go_wp2
      go_roundw
      case rel => exact ⟨k + 1, by omega, by go_num, HX, Lib.hid (fun i hi => by
        by_cases e : i = k
        · rw [e, ← Hm.out]; omega
        · exact HL.out i (by omega))⟩
      case measure => simp [intOf]; omega
    · obtain rfl : k = N := by omega
      have t1 : ¬ (k : Int) < k := by omega
      clear hlt
      have HN40 := Lib.hid (show k ≤ 40 by omega)
      go_wp2_with fail
      refine (HOf.out _ (XB.out.trans HX.out)).mono ?_
      intro e w1 hof
      have tE : ((cloads rows).1 != (cloads rows).1) = false := by simp
      by_cases hE : (cloads rows).1 = 0
      case neg =>
        obtain ⟨x1, ⟨_, rfl⟩ | ⟨h0, _⟩ | ⟨h0, _⟩⟩ := hof
        case inr.inl => exact absurd h0 hE
        case inr.inr => exact absurd h0 hE
        have hne : ((cloads rows).1 != 0) = true := by rw [bne, beq_eq_false_iff_ne.2 hE]; rfl
        have hne2 : ((cloads rows).1 == 0) = false := beq_eq_false_iff_ne.2 hE
        obtain ⟨W1, hW1⟩ : ∃ W1, W1 = w1.alloc (.cells #[.int .i64 0, .slice none 0 0] 24) := ⟨_, rfl⟩
        have xW1 : Ext w1 W1 := by rw [hW1]; exact (Ext.refl w1).alloc _
        have hb1 : B2 W1 w1.heap.size (.int .i64 0) (.slice none 0 0) 24 := by rw [hW1]; exact B2.new _ _ _ _
        have HB1 := Lib.hid hb1; have X1 := Lib.hid (XB.out.trans (HX.out.trans (x1.trans xW1))); have HW1 := Lib.hid hW1
        have e1 := HB0.out _ (HX.out.trans (x1.trans xW1))
        rw [hW1] at e1
        obtain ⟨E, hEE⟩ : ∃ E, E = (cloads rows).1 := ⟨_, rfl⟩
        have hld := HLd.out W1 X1.out
        rw [← hEE] at hne hne2 tE hld ⊢
        clear x1 xW1 hb1 hW1 hE hEE e0 h40
        go_wp2_with fail
        rw [← HW1.out]
        refine hld.mono ?_
        rintro e w2 ⟨v2, c2, rfl, _, x2⟩
        have X2 := Lib.hid (X1.out.trans x2)
        have f2 := cell_alloc (HB1.out.ext x2).c1 (.cells #[.int .i64 0, .slice none 0 0] 24)
        have X3 := Lib.hid (X2.out.alloc (.cells #[.int .i64 0, .slice none 0 0] 24))
        clear x2 e1 hld
        go_wp2_with fail
        refine (HLv.out _ X3.out).mono ?_
        rintro e w3 ⟨rfl, x3⟩
        have X4 := Lib.hid (X3.out.trans x3)
        clear x3 f2
        go_wp2
        go_ret
        exact ⟨rfl, X4.out⟩
      obtain ⟨x1, hof2⟩ := of_find hE hof
      obtain ⟨h1, h2, h3, _⟩ := cerr_zero (cerr_of hE)
      have hk0 : 0 < k := by rw [Hn.out]; omega
      have hm0 := (rchk_zero (h3 0 (by omega))).2.1
      clear hof
      obtain ⟨W0, hW0⟩ : ∃ W0, W0 = (sw rows 0).length := ⟨_, rfl⟩
      obtain ⟨y0, hy0⟩ : ∃ y0, y0 = (si (sw rows 0) 0).y := ⟨_, rfl⟩
      rw [← hW0, ← hy0] at hof2
      obtain ⟨gg, hgg⟩ : ∃ gg : Bool, gg = (gAl W0 y0 rows && decide (lchk (W0 : Int) (hsL rows) = 0)) := ⟨_, rfl⟩
      obtain ⟨WW, au, nu, cu, YY, EE, rfl, hres⟩ : ∃ (WW : Int) (au : Option Addr) (nu cu : Nat) (YY EE : Int), e = .returned (.tuple #[.agg #[.int .i64 WW, .slice au nu cu], .int .u8 YY, .int .i64 EE]) ∧ ((gg = false ∧ EE = 7 ∧ nu = 0 ∧ YY = 0) ∨ (gg = true ∧ EE = 0 ∧ WW = (W0 : Int) ∧ YY = y0 ∧ ∃ c', HR w1 (.slice au nu cu) c' (hsL rows))) := by
        rcases hof2 with ⟨h1, h2⟩ | ⟨h1, v, c', h2, h3⟩
        · refine ⟨0, none, 0, 0, 0, 7, h2, .inl ⟨?_, rfl, rfl, rfl⟩⟩
          rw [hgg]
          simpa using h1
        · obtain ⟨au, nu, rfl, _⟩ := h3.open
          exact ⟨_, au, nu, c', _, 0, h2, .inr ⟨by rw [hgg, h1.1, h1.2]; rfl, rfl, rfl, rfl, _, h3⟩⟩
      obtain ⟨W1, hW1⟩ : ∃ W1, W1 = w1.alloc (.cells #[.int .i64 WW, .slice au nu cu] 24) := ⟨_, rfl⟩
      have xW1 : Ext w1 W1 := by rw [hW1]; exact (Ext.refl w1).alloc _
      have hb1 : B2 W1 w1.heap.size (.int .i64 WW) (.slice au nu cu) 24 := by rw [hW1]; exact B2.new _ _ _ _
      have HB1 := Lib.hid hb1; have X1 := Lib.hid (XB.out.trans (HX.out.trans (x1.trans xW1))); have HW1 := Lib.hid hW1; have XW1 := Lib.hid xW1
      have Hres := Lib.hid hres; have Hgg := Lib.hid hgg; have HW0 := Lib.hid hW0; have Hy0 := Lib.hid hy0
      have e1 := HB0.out _ (HX.out.trans (x1.trans xW1))
      have hld := HLd.out W1 X1.out
      rw [hE] at hld
      have Y1 := Lib.hid (HX.out.trans (x1.trans xW1))
      have HE := Lib.hid hE
      rw [hW1] at e1
      obtain ⟨b, o, a0, m0, d0, rfl, g0, r0⟩ := HA.out 0 hk0
      rw [Nat.add_zero] at g0
      obtain ⟨_, _, e1', e2, e3, e4, e5⟩ := r0.open
      simp only [Value.slice.injEq] at e1'; obtain ⟨rfl, rfl, _⟩ := e1'
      obtain ⟨b1, o1, rfl, z⟩ := e5 0 (by omega)
      rw [Nat.zero_mul, Nat.add_zero] at z
      have hy1 := z.2.1
      rw [← hy0] at hy1
      obtain rfl : W0 = m0 := by rw [hW0, e2]
      have HG0 := Lib.hid g0; have HY1 := Lib.hid hy1
      have tk0 : (0 : Int) < k := by omega
      have tm0 : (0 : Int) < W0 := by omega
      clear x1 xW1 hb1 hW1 hE tE hof2 hres hgg hW0 hy0 h1 h2 h3 r0 e2 e3 e4 e5 z hy1 e0 h40 hm0 g0
      go_wp2_with fail
      rw [← HW1.out]
      refine hld.mono ?_
      rintro e w2 ⟨v2, c2, rfl, _, x2⟩
      have X2 := Lib.hid (X1.out.trans x2); have Y2 := Lib.hid (Y1.out.trans x2)
      have HB2 := Lib.hid (fun w' (x : Ext w2 w') => HB1.out.ext (x2.trans x)); have HX2 := Lib.hid (fun w' (x : Ext w2 w') => XW1.out.trans (x2.trans x))
      have e0 := HB0.out _ Y2.out
      have g0 := X2.out.cell HG0.out
      obtain ⟨WL, hWL⟩ : ∃ WL, WL = w2.alloc (.cells #[.int .i64 (W0 : Int), .slice none 0 0] 24) := ⟨_, rfl⟩
      have hLI : LM w2 WL W0 w2.heap.size (.slice none 0 0) [] := by
        rw [hWL]; exact ⟨HC.nil ((Ext.refl _).alloc _), B2.new _ _ _ _⟩
      have HLI := Lib.hid hLI; have HWL := Lib.hid hWL
      have e0a := cell_alloc e0 (.cells #[.int .i64 0, .slice none 0 0] 24); have g0a := cell_alloc g0 (.cells #[.int .i64 0, .slice none 0 0] 24)
      clear x2 e1 hld hLI hWL
      go_wp2
      rw [← HWL.out]
      have HBx := Lib.hid (fun w' (x : Ext w2 w') => HB0.out w' (Y2.out.trans x)); have HXx := Lib.hid (fun w' (x : Ext w2 w') => X2.out.trans x)
      clear e0 g0 e0a g0a
      go_loopw [8, 10, 11, 12, 13, 14, 15, 16] (fun wt i _ _ _ _ _ _ wr => ∃ (r : Nat) (al : Option Addr) (nl cl : Nat), r ≤ k ∧ i = .int .i64 r ∧ wt = .int .i64 (wv (gAl W0 y0 (rows.take r))) ∧ Hid (LM w2 wr W0 w2.heap.size (.slice al nl cl) (hsL (rows.take r)))) (fun _ i _ _ _ _ _ _ _ => k - (intOf i).toNat)
      case atStart => exact ⟨0, none, 0, 0, Nat.zero_le _, rfl, rfl, HLI⟩
      case round =>
        obtain ⟨r, al, nl, cl, hrk, rfl, rfl, HLM⟩ := hrel
        obtain ⟨wo, hwo⟩ : ∃ wo, wo = wr := ⟨_, rfl⟩
        subst hwo
        have XO := Lib.hid HLM.out.1.1
        have e0 := HBx.out _ XO.out
        by_cases hlr : r < k
        · have t3 : (r : Int) < k := by omega
          have t3' : (0 : Int) ≤ r := by omega
          obtain ⟨b', o', a, m, d, hao, g1, g2⟩ := HA.out r hlr
          simp only [Option.some.injEq, Addr.mk.injEq, and_true] at hao
          obtain ⟨rfl, rfl⟩ := hao
          have HG1 := Lib.hid g1
          replace g1 := (HXx.out _ XO.out).cell g1
          obtain ⟨_, _, e1, e2, e3, e4, e5⟩ := g2.open
          simp only [Value.slice.injEq] at e1; obtain ⟨rfl, rfl, _⟩ := e1
          have hrr : r < rows.length := by rw [← Hn.out]; exact hlr
          have hm40 := HL.out r hlr
          rw [← e2] at hm40
          have HNx := Lib.hid (gAl_succ (W := W0) (y := y0) hrr); have HHx := Lib.hid (hsL_succ hrr)
          obtain ⟨R, hR⟩ : ∃ R, R = sw rows r := ⟨_, rfl⟩
          rw [← hR] at e2 e5 HNx HHx
          have Hm := Lib.hid e2; have HE5 := Lib.hid e5
          obtain ⟨G0, hG0⟩ : ∃ G0, G0 = gAl W0 y0 (rows.take r) := ⟨_, rfl⟩
          rw [← hG0] at HNx ⊢
          obtain ⟨hs, hhs⟩ : ∃ hs, hs = hsL (rows.take r) := ⟨_, rfl⟩
          rw [← hhs] at HHx HLM
          have Hhl := Lib.hid (show hs.length ≤ 100000 by rw [hhs, hsL_len, List.length_take]; have := HN40.out; omega)
          clear g2 e2 e3 e4 e5 hR hrr hG0 hhs
          go_wp2
          clear e0 g1
          go_loopw [8, 11, 12, 13, 14] (fun wt sg i _ _ wq => ∃ j : Nat, j ≤ m ∧ i = .int .i64 j ∧ sg = .string (bstr (lineL (R.take j))) ∧ wt = .int .i64 (wv (G0 && gKl y0 (R.take j))) ∧ Hid (Ext wo wq)) (fun _ _ i _ _ _ => m - (intOf i).toNat)
          case atStart => exact ⟨0, Nat.zero_le _, rfl, rfl, by rw [List.take_zero]; simp [gKl], Lib.hid (Ext.refl _)⟩
          case round =>
            obtain ⟨j, hj, rfl, rfl, rfl, HJ⟩ := hrel
            have e0 := HBx.out _ (XO.out.trans HJ.out)
            have g1 := (HXx.out _ (XO.out.trans HJ.out)).cell HG1.out
            obtain ⟨Q, hQ⟩ : ∃ Q, wv (G0 && gKl y0 (R.take j)) = Q := ⟨_, rfl⟩
            rw [hQ]
            have HQ := Lib.hid hQ
            clear hQ
            by_cases hjm : j < m
            · have t5 : (j : Int) < m := by omega
              have t5' : (0 : Int) ≤ j := by omega
              obtain ⟨b7, o7, rfl, e8⟩ := HE5.out j hjm
              obtain ⟨S, hS⟩ : ∃ S, S = si R j := ⟨_, rfl⟩
              rw [← hS] at e8
              have HS := Lib.hid hS
              have tsz : ¬ 9223372036854775807 < (bstr (lineL (R.take j))).size + 1 := by
                rw [← bts_len, bts_bstr (byt_lineL _), lineL_len, List.length_take]; omega
              obtain ⟨s0, s1, s2, s3, s4⟩ := e8.ext (HXx.out _ (XO.out.trans HJ.out))
              obtain ⟨wz, hwz⟩ : ∃ wz, wz = wr.alloc (.cells #[.int .u8 S.k, .int .u8 S.y, .int .i64 S.a, .int .i64 S.b, .bool S.f] 49) := ⟨_, rfl⟩
              have hbz : B5 wz wr.heap.size S 49 := by rw [hwz]; exact B5.new wr S _
              have xz : Ext wr wz := by rw [hwz]; exact (Ext.refl _).alloc _
              have HWz := Lib.hid hwz; have HBz := Lib.hid hbz; have XZ := Lib.hid (HJ.out.trans xz)
              clear e8 hS hwz hbz xz
              rcases (show (S.y = y0 ∧ S.k = 1) ∨ (S.y = y0 ∧ S.k = 3) ∨ (S.y = y0 ∧ S.k = 4) ∨ (S.y = y0 ∧ S.k ≠ 3 ∧ S.k ≠ 4 ∧ S.k ≠ 1) ∨ (S.y ≠ y0 ∧ S.k = 3) ∨ (S.y ≠ y0 ∧ S.k = 4) ∨ (S.y ≠ y0 ∧ S.k ≠ 3 ∧ S.k ≠ 4) by omega) with ⟨hy, hk1⟩ | ⟨hy, hk1⟩ | ⟨hy, hk1⟩ | ⟨hy, hk3, hk4, hk1⟩ | ⟨hy, hk1⟩ | ⟨hy, hk1⟩ | ⟨hy, hk3, hk4⟩
              · have ty : (S.y != y0) = false := by rw [hy]; exact bne_self_eq_false _
                have t1 : (S.k != 1) = false := by rw [hk1]; rfl
                have t3 : (S.k != 3) = true := by rw [hk1]; rfl
                have t4 : (S.k != 4) = true := by rw [hk1]; rfl
                have u3 : (S.k == 3) = false := by rw [hk1]; rfl
                have u4 : (S.k == 4) = false := by rw [hk1]; rfl
                have HLn := Lib.hid (show bstr (lineL (R.take j)) ++ { data := #[46] } = bstr (lineL (R.take (j + 1))) from by
                  rw [lineL_succ (by rw [← Hm.out]; exact hjm), ← HS.out, show kSg2 S.k = 46 from by unfold kSg2; rw [hk1]; rfl, ← bstr_app]; rfl)
                have HQ2 := Lib.hid (show wv (G0 && gKl y0 (R.take (j + 1))) = Q from by
                  rw [gKl_succ (by rw [← Hm.out]; exact hjm), ← HS.out, show kOk y0 S = true from by unfold kOk; rw [hy, hk1]; simp, Bool.and_true, HQ.out])
                clear hy hk1
                go_wp2
                rw [← HWz.out]
                have z0 := HBz.out.at.1; have z1 := HBz.out.at.2.1
                have c0 := HBx.out _ (XO.out.trans XZ.out); have g0 := (HXx.out _ (XO.out.trans XZ.out)).cell HG0.out; have y1 := (HXx.out _ (XO.out.trans XZ.out)).cell HY1.out
                try dsimp only at z0 z1
                clear e0 g1 s0 s1 s2 s3 s4
                go_quiet (fail)
                have z0 := HBz.out.at.1
                try dsimp only at z0
                replace z0 := (Ext.refl wz).drewN nq |>.cell z0
                clear c0 g0 y1
                go_wp2
                go_roundw
                case rel => exact ⟨j + 1, by omega, by go_num, by rw [HLn.out], by rw [HQ2.out], by first | exact XZ | exact Lib.hid (XZ.out.drewN _)⟩
                case measure => simp [intOf]; omega
              · have ty : (S.y != y0) = false := by rw [hy]; exact bne_self_eq_false _
                have t1 : (S.k != 1) = true := by rw [hk1]; rfl
                have t3 : (S.k != 3) = false := by rw [hk1]; rfl
                have t4 : (S.k != 4) = true := by rw [hk1]; rfl
                have u3 : (S.k == 3) = true := by rw [hk1]; rfl
                have u4 : (S.k == 4) = false := by rw [hk1]; rfl
                have HLn := Lib.hid (show bstr (lineL (R.take j)) ++ { data := #[79] } = bstr (lineL (R.take (j + 1))) from by
                  rw [lineL_succ (by rw [← Hm.out]; exact hjm), ← HS.out, show kSg2 S.k = 79 from by unfold kSg2; rw [hk1]; rfl, ← bstr_app]; rfl)
                have HQ2 := Lib.hid (show wv (G0 && gKl y0 (R.take (j + 1))) = Q from by
                  rw [gKl_succ (by rw [← Hm.out]; exact hjm), ← HS.out, show kOk y0 S = true from by unfold kOk; rw [hy, hk1]; simp, Bool.and_true, HQ.out])
                clear hy hk1
                go_wp2
                rw [← HWz.out]
                have z0 := HBz.out.at.1; have z1 := HBz.out.at.2.1
                have c0 := HBx.out _ (XO.out.trans XZ.out); have g0 := (HXx.out _ (XO.out.trans XZ.out)).cell HG0.out; have y1 := (HXx.out _ (XO.out.trans XZ.out)).cell HY1.out
                try dsimp only at z0 z1
                clear e0 g1 s0 s1 s2 s3 s4
                go_quiet (fail)
                have z0 := HBz.out.at.1
                try dsimp only at z0
                replace z0 := (Ext.refl wz).drewN nq |>.cell z0
                clear c0 g0 y1
                go_wp2
                go_roundw
                case rel => exact ⟨j + 1, by omega, by go_num, by rw [HLn.out], by rw [HQ2.out], by first | exact XZ | exact Lib.hid (XZ.out.drewN _)⟩
                case measure => simp [intOf]; omega
              · have ty : (S.y != y0) = false := by rw [hy]; exact bne_self_eq_false _
                have t1 : (S.k != 1) = true := by rw [hk1]; rfl
                have t3 : (S.k != 3) = true := by rw [hk1]; rfl
                have t4 : (S.k != 4) = false := by rw [hk1]; rfl
                have u3 : (S.k == 3) = false := by rw [hk1]; rfl
                have u4 : (S.k == 4) = true := by rw [hk1]; rfl
                have HLn := Lib.hid (show bstr (lineL (R.take j)) ++ { data := #[47] } = bstr (lineL (R.take (j + 1))) from by
                  rw [lineL_succ (by rw [← Hm.out]; exact hjm), ← HS.out, show kSg2 S.k = 47 from by unfold kSg2; rw [hk1]; rfl, ← bstr_app]; rfl)
                have HQ2 := Lib.hid (show wv (G0 && gKl y0 (R.take (j + 1))) = Q from by
                  rw [gKl_succ (by rw [← Hm.out]; exact hjm), ← HS.out, show kOk y0 S = true from by unfold kOk; rw [hy, hk1]; simp, Bool.and_true, HQ.out])
                clear hy hk1
                go_wp2
                rw [← HWz.out]
                have z0 := HBz.out.at.1; have z1 := HBz.out.at.2.1
                have c0 := HBx.out _ (XO.out.trans XZ.out); have g0 := (HXx.out _ (XO.out.trans XZ.out)).cell HG0.out; have y1 := (HXx.out _ (XO.out.trans XZ.out)).cell HY1.out
                try dsimp only at z0 z1
                clear e0 g1 s0 s1 s2 s3 s4
                go_quiet (fail)
                have z0 := HBz.out.at.1
                try dsimp only at z0
                replace z0 := (Ext.refl wz).drewN nq |>.cell z0
                clear c0 g0 y1
                go_wp2
                go_roundw
                case rel => exact ⟨j + 1, by omega, by go_num, by rw [HLn.out], by rw [HQ2.out], by first | exact XZ | exact Lib.hid (XZ.out.drewN _)⟩
                case measure => simp [intOf]; omega
              · have ty : (S.y != y0) = false := by rw [hy]; exact bne_self_eq_false _
                have t1 : (S.k != 1) = true := bne_iff_ne.2 hk1
                have t3 : (S.k != 3) = true := bne_iff_ne.2 hk3
                have t4 : (S.k != 4) = true := bne_iff_ne.2 hk4
                have u3 : (S.k == 3) = false := beq_eq_false_iff_ne.2 hk3
                have u4 : (S.k == 4) = false := beq_eq_false_iff_ne.2 hk4
                have HLn := Lib.hid (show bstr (lineL (R.take j)) ++ { data := #[46] } = bstr (lineL (R.take (j + 1))) from by
                  rw [lineL_succ (by rw [← Hm.out]; exact hjm), ← HS.out, show kSg2 S.k = 46 from by unfold kSg2; rw [if_neg hk4, if_neg hk3], ← bstr_app]; rfl)
                have HQ2 := Lib.hid (show wv (G0 && gKl y0 (R.take (j + 1))) = 7 from by
                  rw [gKl_succ (by rw [← Hm.out]; exact hjm), ← HS.out, show kOk y0 S = false from by unfold kOk; rw [hy]; simp [hk1, hk3, hk4], Bool.and_false, Bool.and_false]; rfl)
                clear hy hk3 hk4 hk1
                go_wp2
                rw [← HWz.out]
                have z0 := HBz.out.at.1; have z1 := HBz.out.at.2.1
                have c0 := HBx.out _ (XO.out.trans XZ.out); have g0 := (HXx.out _ (XO.out.trans XZ.out)).cell HG0.out; have y1 := (HXx.out _ (XO.out.trans XZ.out)).cell HY1.out
                try dsimp only at z0 z1
                clear e0 g1 s0 s1 s2 s3 s4
                go_quiet (fail)
                have z0 := HBz.out.at.1
                try dsimp only at z0
                replace z0 := (Ext.refl wz).drewN nq |>.cell z0
                clear c0 g0 y1
                go_wp2
                go_roundw
                case rel => exact ⟨j + 1, by omega, by go_num, by rw [HLn.out], by rw [HQ2.out], by first | exact XZ | exact Lib.hid (XZ.out.drewN _)⟩
                case measure => simp [intOf]; omega
              · have ty : (S.y != y0) = true := bne_iff_ne.2 hy
                have u3 : (S.k == 3) = true := by rw [hk1]; rfl
                have u4 : (S.k == 4) = false := by rw [hk1]; rfl
                have HLn := Lib.hid (show bstr (lineL (R.take j)) ++ { data := #[79] } = bstr (lineL (R.take (j + 1))) from by
                  rw [lineL_succ (by rw [← Hm.out]; exact hjm), ← HS.out, show kSg2 S.k = 79 from by unfold kSg2; rw [hk1]; rfl, ← bstr_app]; rfl)
                have HQ2 := Lib.hid (show wv (G0 && gKl y0 (R.take (j + 1))) = 7 from by
                  rw [gKl_succ (by rw [← Hm.out]; exact hjm), ← HS.out, show kOk y0 S = false from by unfold kOk; simp [hy], Bool.and_false, Bool.and_false]; rfl)
                clear hy hk1
                go_wp2
                rw [← HWz.out]
                have z0 := HBz.out.at.1; have z1 := HBz.out.at.2.1
                have c0 := HBx.out _ (XO.out.trans XZ.out); have g0 := (HXx.out _ (XO.out.trans XZ.out)).cell HG0.out; have y1 := (HXx.out _ (XO.out.trans XZ.out)).cell HY1.out
                try dsimp only at z0 z1
                clear e0 g1 s0 s1 s2 s3 s4
                go_quiet (fail)
                have z0 := HBz.out.at.1
                try dsimp only at z0
                replace z0 := (Ext.refl wz).drewN nq |>.cell z0
                clear c0 g0 y1
                go_wp2
                go_roundw
                case rel => exact ⟨j + 1, by omega, by go_num, by rw [HLn.out], by rw [HQ2.out], by first | exact XZ | exact Lib.hid (XZ.out.drewN _)⟩
                case measure => simp [intOf]; omega
              · have ty : (S.y != y0) = true := bne_iff_ne.2 hy
                have u3 : (S.k == 3) = false := by rw [hk1]; rfl
                have u4 : (S.k == 4) = true := by rw [hk1]; rfl
                have HLn := Lib.hid (show bstr (lineL (R.take j)) ++ { data := #[47] } = bstr (lineL (R.take (j + 1))) from by
                  rw [lineL_succ (by rw [← Hm.out]; exact hjm), ← HS.out, show kSg2 S.k = 47 from by unfold kSg2; rw [hk1]; rfl, ← bstr_app]; rfl)
                have HQ2 := Lib.hid (show wv (G0 && gKl y0 (R.take (j + 1))) = 7 from by
                  rw [gKl_succ (by rw [← Hm.out]; exact hjm), ← HS.out, show kOk y0 S = false from by unfold kOk; simp [hy], Bool.and_false, Bool.and_false]; rfl)
                clear hy hk1
                go_wp2
                rw [← HWz.out]
                have z0 := HBz.out.at.1; have z1 := HBz.out.at.2.1
                have c0 := HBx.out _ (XO.out.trans XZ.out); have g0 := (HXx.out _ (XO.out.trans XZ.out)).cell HG0.out; have y1 := (HXx.out _ (XO.out.trans XZ.out)).cell HY1.out
                try dsimp only at z0 z1
                clear e0 g1 s0 s1 s2 s3 s4
                go_quiet (fail)
                have z0 := HBz.out.at.1
                try dsimp only at z0
                replace z0 := (Ext.refl wz).drewN nq |>.cell z0
                clear c0 g0 y1
                go_wp2
                go_roundw
                case rel => exact ⟨j + 1, by omega, by go_num, by rw [HLn.out], by rw [HQ2.out], by first | exact XZ | exact Lib.hid (XZ.out.drewN _)⟩
                case measure => simp [intOf]; omega
              · have ty : (S.y != y0) = true := bne_iff_ne.2 hy
                have u3 : (S.k == 3) = false := beq_eq_false_iff_ne.2 hk3
                have u4 : (S.k == 4) = false := beq_eq_false_iff_ne.2 hk4
                have HLn := Lib.hid (show bstr (lineL (R.take j)) ++ { data := #[46] } = bstr (lineL (R.take (j + 1))) from by
                  rw [lineL_succ (by rw [← Hm.out]; exact hjm), ← HS.out, show kSg2 S.k = 46 from by unfold kSg2; rw [if_neg hk4, if_neg hk3], ← bstr_app]; rfl)
                have HQ2 := Lib.hid (show wv (G0 && gKl y0 (R.take (j + 1))) = 7 from by
                  rw [gKl_succ (by rw [← Hm.out]; exact hjm), ← HS.out, show kOk y0 S = false from by unfold kOk; simp [hy], Bool.and_false, Bool.and_false]; rfl)
                clear hy hk3 hk4
                go_wp2
                rw [← HWz.out]
                have z0 := HBz.out.at.1; have z1 := HBz.out.at.2.1
                have c0 := HBx.out _ (XO.out.trans XZ.out); have g0 := (HXx.out _ (XO.out.trans XZ.out)).cell HG0.out; have y1 := (HXx.out _ (XO.out.trans XZ.out)).cell HY1.out
                try dsimp only at z0 z1
                clear e0 g1 s0 s1 s2 s3 s4
                go_quiet (fail)
                have z0 := HBz.out.at.1
                try dsimp only at z0
                replace z0 := (Ext.refl wz).drewN nq |>.cell z0
                clear c0 g0 y1
                go_wp2
                go_roundw
                case rel => exact ⟨j + 1, by omega, by go_num, by rw [HLn.out], by rw [HQ2.out], by first | exact XZ | exact Lib.hid (XZ.out.drewN _)⟩
                case measure => simp [intOf]; omega
            · obtain rfl : j = m := by omega
              have t5 : ¬ (j : Int) < j := by omega
              rw [show R.take j = R by rw [Hm.out, List.take_length]] at HQ ⊢
              have hbs : bts (bstr (lineL R)) = lineL R := bts_bstr (byt_lineL R)
              have hsz : (bstr (lineL R)).size = j := by rw [← bts_len, hbs, lineL_len, Hm.out]
              have hrd := fun w' => RRead_calls (bstr (lineL R)) w' (by rw [hsz]; omega)
              rw [hbs] at hrd
              obtain ⟨SS, hSS⟩ : ∃ SS, SS = bstr (lineL R) := ⟨_, rfl⟩
              rw [← hSS] at hrd hsz ⊢
              have Hsz := Lib.hid hsz
              clear hbs hSS hsz
              go_wp2_with fail
              refine (hrd _).mono ?_
              intro e wp hret
              clear hrd e0 g1
              obtain ⟨xp, hret⟩ := hret
              have XP := Lib.hid (XO.out.trans (HJ.out.trans xp))
              have HCo := Lib.hid (HLM.out.1.later (HJ.out.trans xp)); have HMb := Lib.hid (HLM.out.2.ext (HJ.out.trans xp))
              have q0 := HMb.out.c0; have q1 := HMb.out.c1; have f1 := HMb.out.f1
              have hhl := Hhl.out
              have hrow : ∃ (vr : Value) (ok : Int), e = .returned (.tuple #[vr, .int .i64 ok]) ∧ HV wp vr (hsR R) ∧ ((ok = 0 ∧ wv (gAl W0 y0 (rows.take (r + 1))) = 7) ∨ (ok = 1 ∧ j ≠ W0 ∧ wv (gAl W0 y0 (rows.take (r + 1))) = 7) ∨ (ok = 1 ∧ j = W0 ∧ wv (gAl W0 y0 (rows.take (r + 1))) = Q)) := by
                rw [HNx.out]
                unfold gRl hsR
                rcases hrr : rdL 0 (lineL R) with _ | l
                · rw [hrr] at hret
                  exact ⟨_, 0, hret, .inl ⟨rfl, rfl⟩, .inl ⟨rfl, by simp [wv]⟩⟩
                · rw [hrr] at hret
                  obtain ⟨v, h1, h2⟩ := hret
                  refine ⟨v, 1, h1, h2, .inr ?_⟩
                  by_cases e : j = W0
                  · exact .inr ⟨rfl, e, by rw [← HQ.out]; simp [← Hm.out, e]⟩
                  · exact .inl ⟨rfl, e, by simp [← Hm.out, e, wv]⟩
              obtain ⟨vr, ok, rfl, hvr, hcs⟩ := hrow
              obtain ⟨ar, nr, cr, rfl, hnr⟩ := hvr.form
              clear hnr
              have HVr := Lib.hid hvr
              have hsz := Hsz.out
              clear hret xp hvr
              rcases hcs with ⟨rfl, hq⟩ | ⟨rfl, hne, hq⟩ | ⟨rfl, heq, hq⟩
              all_goals have HQ3 := Lib.hid hq
              all_goals clear hq
              case' inr.inl =>
                have tw : ((SS.size : Int) != (W0 : Int)) = true := bne_iff_ne.2 (by omega)
                clear hne
              case' inr.inr =>
                have tw : ((SS.size : Int) != (W0 : Int)) = false := by rw [hsz, heq]; exact bne_self_eq_false _
                clear heq
              all_goals clear hsz
              all_goals (
                go_wp2_with (at_builtin; go_loud (refine app_how rfl _ _ rfl w2 _ hs rfl HCo.out _ _ HVr.out wp.heap.size rfl rfl hhl ?_))
                intro v' w' hco' hkeep
                have hm' := (by first | exact hkeep _ _ _ _ HMb.out (by decide) | exact hkeep _ _ _ _ _ HMb.out (by decide) : w'.heap[w2.heap.size]? = some (.cells #[.int .i64 (W0 : Int), .slice al nl cl] 24 (0, 0)))
                have hm9 : B2 w' w2.heap.size (.int .i64 (W0 : Int)) (.slice al nl cl) 24 := hm'
                have hc1 := hm9.c1; have hf9 := hm9.f1
                have HN := Lib.hid (show LM w2 (w'.setCell ⟨w2.heap.size, 1, none⟩ v') W0 w2.heap.size v' (hsL (rows.take (r + 1))) from by
                  rw [HHx.out]
                  exact ⟨hco'.setOther (a := ⟨w2.heap.size, 1, none⟩) hm9 (by decide) (by decide) (Nat.le_refl _), hm9.set1⟩)
                obtain ⟨a2, n2, c2', rfl, hn2⟩ := hco'.form
                clear hco' hkeep hm' hm9 hn2
                go_wp2
                go_roundw
                case rel => exact ⟨r + 1, _, _, _, by omega, by go_num, by rw [HQ3.out], HN⟩
                case measure => simp [intOf]; omega)
        · obtain rfl : r = k := by omega
          have t3 : ¬ (r : Int) < r := by omega
          rw [show rows.take r = rows by rw [Hn.out, List.take_length]] at HLM ⊢
          obtain ⟨c', hr'⟩ := HLM.out.1.rr
          have hck := RCheck20_calls W0 _ _ (hsL rows) wo hr'
          have q0 := HLM.out.2.c0; have q1 := HLM.out.2.c1
          obtain ⟨LC, hLC⟩ : ∃ LC, LC = lchk (W0 : Int) (hsL rows) := ⟨_, rfl⟩
          obtain ⟨A, hA⟩ : ∃ A, A = gAl W0 y0 rows := ⟨_, rfl⟩
          rw [← hLC] at hck; rw [← hA]
          have HGg2 := Lib.hid (show gg = (A && decide (LC = 0)) from by rw [hA, hLC]; exact Hgg.out)
          have HRr := Lib.hid hr'; have HCk := Lib.hid hck
          clear hLC hA hr' hck hlr
          go_wp2_with fail
          refine HCk.out.mono ?_
          rintro e w3 ⟨rfl, x3⟩
          have Y3 := Lib.hid (XO.out.trans x3); have X3 := Lib.hid (HXx.out _ (XO.out.trans x3)); have Z3 := Lib.hid x3
          have f2 := (HB2.out _ Y3.out).c0; have f3 := (HB2.out _ Y3.out).c1
          replace q0 := x3.cell q0; replace q1 := x3.cell q1
          clear x3 e0 HCk
          have t77 : ((7 : Int) != 7) = false := rfl
          by_cases hL0 : LC = 0
          · subst hL0
            cases A
            · obtain ⟨rfl, rfl, rfl, rfl⟩ : gg = false ∧ EE = 7 ∧ nu = 0 ∧ YY = 0 := by
                rcases Hres.out with ⟨a, b, c, d⟩ | ⟨a, _⟩
                · exact ⟨a, b, c, d⟩
                · have := HGg2.out; rw [a] at this; simp at this
              simp only [wv, if_false, Bool.false_eq_true]
              go_wp2_with fail
              refine (HLv.out _ X3.out).mono ?_
              rintro e w4 ⟨rfl, x4⟩
              have X4 := Lib.hid (X3.out.trans x4)
              clear x4 f2 f3 q0 q1
              go_wp2
              go_ret
              exact ⟨rfl, X4.out⟩
            · obtain ⟨hgg1, rfl, rfl, rfl, c1', hgot⟩ : gg = true ∧ EE = 0 ∧ WW = (W0 : Int) ∧ YY = y0 ∧ ∃ c', HR w1 (.slice au nu cu) c' (hsL rows) := by
                rcases Hres.out with ⟨a, b, c, d⟩ | h
                · have := HGg2.out; rw [a] at this; simp at this
                · exact h
              simp only [wv, if_true]
              have hdf := HDiffer_calls W0 W0 _ _ _ _ (hsL rows) (hsL rows) w3 (hgot.ext (HX2.out _ Y3.out)) (HRr.out.ext Z3.out)
              rw [hdif_same] at hdf
              have HDf := Lib.hid hdf
              clear hgg1 hgot hdf
              go_wp2_with fail
              refine HDf.out.mono ?_
              rintro e w4 ⟨rfl, x4⟩
              have X4 := Lib.hid (X3.out.trans x4)
              have e0 := HBx.out _ (Y3.out.trans x4)
              have g0 := X4.out.cell HG0.out; have y1 := X4.out.cell HY1.out
              have tyy : (YY == YY) = true := by simp
              clear x4 f2 f3 q0 q1
              go_wp2_with fail
              refine (HLv.out _ X4.out).mono ?_
              rintro e w5 ⟨rfl, x5⟩
              have X5 := Lib.hid (X4.out.trans x5)
              clear x5 e0 g0 y1
              go_wp2
              go_ret
              exact ⟨rfl, X5.out⟩
          · have hne : (LC != 0) = true := bne_iff_ne.2 hL0
            obtain ⟨rfl, rfl, rfl, rfl⟩ : gg = false ∧ EE = 7 ∧ nu = 0 ∧ YY = 0 := by
              rcases Hres.out with ⟨a, b, c, d⟩ | ⟨a, _⟩
              · exact ⟨a, b, c, d⟩
              · have := HGg2.out; rw [a] at this; simp [hL0] at this
            clear hL0
            go_wp2_with fail
            refine (HLv.out _ X3.out).mono ?_
            rintro e w4 ⟨rfl, x4⟩
            have X4 := Lib.hid (X3.out.trans x4)
            clear x4 f2 f3 q0 q1
            go_wp2
            go_ret
            exact ⟨rfl, X4.out⟩
end Go.Proofs.YthllbcjglcplhaaDoor
/- Texts of laces in plain Lean: what Parse finds, and that Text undoes it. -/
namespace Go.Proofs.YthllbcjglcplhaaDoor
set_option linter.unusedVariables false
set_option linter.unusedSimpArgs false
set_option maxRecDepth 8000

def bi (l : List UInt8) : List Int := l.map fun b => (b.toNat : Int)
theorem bts_bi (s : ByteArray) : bts s = bi s.data.toList := rfl
theorem bi_len (l : List UInt8) : (bi l).length = l.length := by unfold bi; simp
theorem bi_app (a b : List UInt8) : bi (a ++ b) = bi a ++ bi b := by unfold bi; simp
/-- The lines of a text, if its last one is ended. -/
def pA : List UInt8 → List UInt8 → Option (List (List UInt8))
  | [], l => if l = [] then some [] else none
  | c :: t, l => if c = 10 then (pA t []).map (l :: ·) else pA t (l ++ [c])
theorem pA_nl : ∀ (u t l : List UInt8), (10 : UInt8) ∉ u → pA (u ++ 10 :: t) l = (pA t []).map ((l ++ u) :: ·)
  | [], t, l, _ => by simp [pA]
  | c :: u, t, l, h => by
    simp only [List.mem_cons, not_or] at h
    rw [List.cons_append, pA, if_neg (fun e => h.1 e.symm), pA_nl u t _ h.2, List.append_assoc]
    rfl
theorem pA_no : ∀ (u l : List UInt8), (10 : UInt8) ∉ u → pA u l = if l ++ u = [] then some [] else none
  | [], l, _ => by simp [pA]
  | c :: u, l, h => by
    simp only [List.mem_cons, not_or] at h
    rw [pA, if_neg (fun e => h.1 e.symm), pA_no u _ h.2, List.append_assoc]
    rfl
theorem pA_last {c : UInt8} (hc : c ≠ 10) : ∀ (xs l : List UInt8), pA (xs ++ [c]) l = none
  | [], l => by simp [pA, hc]
  | x :: xs, l => by
    rw [List.cons_append, pA, pA_last hc xs, pA_last hc xs]; simp
def flat (ls : List (List UInt8)) : List UInt8 := (ls.map (· ++ [10])).flatten
theorem flat_cons (l : List UInt8) (ls : List (List UInt8)) : flat (l :: ls) = l ++ 10 :: flat ls := by unfold flat; simp
theorem pA_flat : ∀ ls : List (List UInt8), (∀ l ∈ ls, (10 : UInt8) ∉ l) → pA (flat ls) [] = some ls
  | [], _ => rfl
  | l :: ls, h => by
    rw [flat_cons, pA_nl _ _ _ (h l (by simp)), pA_flat ls (fun x hx => h x (by simp [hx]))]; rfl
theorem pA_back : ∀ (xs l : List UInt8) (ls : List (List UInt8)), pA xs l = some ls → l ++ xs = flat ls
  | [], l, ls, h => by
    rw [pA] at h
    split at h
    · rename_i e; rw [e]; cases h; rfl
    · cases h
  | c :: t, l, ls, h => by
    rw [pA] at h
    split at h
    · rename_i e
      obtain ⟨ls', h1, rfl⟩ := Option.map_eq_some_iff.1 h
      have := pA_back t [] ls' h1
      rw [flat_cons, ← this, e]; rfl
    · have := pA_back t _ ls h
      rw [← this, List.append_assoc]; rfl
def hsl (l : List UInt8) : List Ho := (rdL 0 (bi l)).getD []
def okL (W : Nat) (l : List UInt8) : Bool := (rdL 0 (bi l)).isSome && decide (l.length = W)
theorem okL_iff {W : Nat} {l : List UInt8} : okL W l = true ↔ rdL 0 (bi l) = some (hsl l) ∧ l.length = W := by
  unfold okL hsl
  cases h : rdL 0 (bi l) <;> simp
theorem okL_sgn {W : Nat} {l : List UInt8} (h : okL W l = true) : sgn W (hsl l) = bi l ∧ rowE W (hsl l) 0 = true := by
  obtain ⟨h1, h2⟩ := okL_iff.1 h
  obtain ⟨h3, h4⟩ := rdL_back0 h1
  rw [bi_len, h2] at h3 h4
  exact ⟨h4, h3⟩
def pRw (ls : List (List UInt8)) : List (List Ho) := (ls.map hsl).reverse
theorem pRw_len (ls : List (List UInt8)) : (pRw ls).length = ls.length := by unfold pRw; simp
/-- What Parse finds. -/
def pR (xs : List UInt8) : Option (Nat × List (List Ho)) :=
  match pA xs [] with
  | none => none
  | some ls => if ls.all (okL (ls.headD []).length) = true ∧ lchk ((ls.headD []).length : Int) (pRw ls) = 0 then some ((ls.headD []).length, pRw ls) else none
theorem pR_none {xs : List UInt8} (h : pA xs [] = none) : pR xs = none := by unfold pR; rw [h]
theorem pR_nil : pR [] = none := by
  unfold pR pA
  simp [pRw, lchk]
theorem pR_some {xs : List UInt8} {ls : List (List UInt8)} {W : Nat} (h : pA xs [] = some ls) (hW : (ls.headD []).length = W) (ha : ls.all (okL W) = true) : pR xs = if lchk (W : Int) (pRw ls) = 0 then some (W, pRw ls) else none := by
  unfold pR
  rw [h]
  simp only [hW, ha, true_and]
theorem pR_bad {xs rest u t : List UInt8} {d : List (List UInt8)} {W : Nat} (hp : pA xs [] = (pA rest []).map (d ++ ·)) (hr : pA rest [] = (pA t []).map (u :: ·)) (hW : ∀ ls, pA xs [] = some ls → (ls.headD []).length = W) (hb : okL W u = false) : pR xs = none := by
  rcases h : pA xs [] with _ | ls
  · exact pR_none h
  · unfold pR
    rw [h]
    have h1 := hW ls h
    rw [hp, hr] at h
    obtain ⟨a, h2, h3⟩ := Option.map_eq_some_iff.1 h
    obtain ⟨b, h4, h5⟩ := Option.map_eq_some_iff.1 h2
    simp only [h1]
    rw [if_neg]
    rintro ⟨h6, _⟩
    rw [← h3, ← h5, List.all_eq_true] at h6
    have := h6 u (by simp)
    rw [hb] at this; cases this
theorem rT_pre (W : Nat) (R : List (List Ho)) (r : List Ho) : ∀ k, k ≤ R.length → rT W (R ++ [r]) k = rT W R k
  | 0, _ => rfl
  | k + 1, h => by
    rw [rT, rT, rT_pre W R r k (by omega)]
    have : ow (R ++ [r]) k = ow R k := by unfold ow; simp [List.getD, List.getElem?_append_left (show k < R.length by omega)]
    rw [this]
theorem rT_flat (W : Nat) : ∀ ls : List (List UInt8), ls.all (okL W) = true → rT W (pRw ls) ls.length = bi (flat ls)
  | [], _ => rfl
  | l :: ls, h => by
    rw [List.all_cons, Bool.and_eq_true] at h
    have e : pRw (l :: ls) = pRw ls ++ [hsl l] := by unfold pRw; simp
    rw [e, List.length_cons, rT, rT_pre _ _ _ _ (by rw [pRw_len]; exact Nat.le_refl _), rT_flat W ls h.2, flat_cons, bi_app]
    have : ow (pRw ls ++ [hsl l]) ls.length = hsl l := by unfold ow; simp [List.getD, pRw]
    rw [this, (okL_sgn h.1).1]
    unfold bi; simp
/-- Text undoes Parse. -/
theorem pR_text {xs : List UInt8} {W : Nat} {rows : List (List Ho)} (h : pR xs = some (W, rows)) : lchk (W : Int) rows = 0 ∧ ltx W rows = bi xs := by
  unfold pR at h
  rcases hp : pA xs [] with _ | ls
  · rw [hp] at h; cases h
  · rw [hp] at h
    simp only at h
    split at h
    · rename_i e
      obtain ⟨e1, e2⟩ := e
      simp only [Option.some.injEq, Prod.mk.injEq] at h
      obtain ⟨rfl, rfl⟩ := h
      refine ⟨e2, ?_⟩
      unfold ltx
      rw [if_pos e2, Int.toNat_natCast, pRw_len, rT_flat _ _ e1, ← pA_back _ _ _ hp]
      rfl
    · cases h
def ub (xs : List Int) : List UInt8 := xs.map fun x => UInt8.ofNat x.toNat
theorem ub_bi (l : List UInt8) : ub (bi l) = l := by
  unfold ub bi
  rw [List.map_map]
  conv => rhs; rw [← List.map_id l]
  exact List.map_congr_left fun x _ => by simp
theorem bi_ub {xs : List Int} (h : Byt xs) : bi (ub xs) = xs := by
  unfold ub bi
  rw [List.map_map]
  conv => rhs; rw [← List.map_id xs]
  refine List.map_congr_left fun x hx => ?_
  have := h x hx
  simp only [Function.comp_apply, id]
  rw [UInt8.toNat_ofNat_of_lt' (by show x.toNat < 256; omega)]
  omega
theorem bstr_ub (xs : List Int) : (bstr xs).data.toList = ub xs := bstr_data xs
/-- Parse undoes Text. -/
theorem text_pR {W : Nat} {rows : List (List Ho)} (h : lchk (W : Int) rows = 0) : pR (bstr (ltx W rows)).data.toList = some (W, rows) := by
  obtain ⟨z1, z2, z3, z4, z5⟩ := lchk_zero h
  obtain ⟨ls, hls⟩ : ∃ ls, ls = rows.reverse.map (fun r => ub (sgn W r)) := ⟨_, rfl⟩
  have hr : ∀ r ∈ rows, rowE W r 0 = true := fun r hr => by
    obtain ⟨i, hi, rfl⟩ := List.mem_iff_getElem.1 hr
    rw [← ow_of_lt hi]; exact z5 i hi
  have hh : ∀ r ∈ rows, hsl (ub (sgn W r)) = r ∧ okL W (ub (sgn W r)) = true := fun r hx => by
    have h1 : rdL 0 (bi (ub (sgn W r))) = some r := by rw [bi_ub (byt_sgn W r), rdL_sgn (hr r hx)]
    have h2 : (ub (sgn W r)).length = W := by unfold ub; rw [List.length_map, sgn_len]
    constructor
    · unfold hsl; rw [h1]; rfl
    · unfold okL; rw [h1]; simp [h2]
  have h1 : pRw ls = rows := by
    unfold pRw
    rw [hls, List.map_map, List.reverse_eq_iff]
    conv => rhs; rw [← List.map_id rows.reverse]
    exact List.map_congr_left fun r hx => (hh r (List.mem_reverse.1 hx)).1
  have h2 : ls.all (okL W) = true := by
    rw [List.all_eq_true, hls]
    intro l hl
    obtain ⟨r, hx, rfl⟩ := List.mem_map.1 hl
    exact (hh r (List.mem_reverse.1 hx)).2
  have hlen : ls.length = rows.length := by rw [hls]; simp
  have h3 : (ls.headD []).length = W := by
    cases hc : ls with
    | nil => rw [hc] at hlen; simp at hlen; omega
    | cons a t =>
      rw [hc, List.all_cons, Bool.and_eq_true] at h2
      exact (okL_iff.1 h2.1).2
  have h4 : (bstr (ltx W rows)).data.toList = flat ls := by
    rw [bstr_ub]
    unfold ltx
    have := rT_flat W ls h2
    rw [h1, hlen] at this
    rw [if_pos h, Int.toNat_natCast, this, ub_bi]
  have h5 : pA (bstr (ltx W rows)).data.toList [] = some ls := by
    rw [h4]
    refine pA_flat ls fun l hl h10 => ?_
    rw [hls] at hl
    obtain ⟨r, hx, rfl⟩ := List.mem_map.1 hl
    have : (10 : Int) ∈ bi (ub (sgn W r)) := by unfold bi; exact List.mem_map.2 ⟨10, h10, rfl⟩
    rw [bi_ub (byt_sgn W r)] at this
    rcases sg_sgn_mem _ this with e | e | e <;> omega
  rw [pR_some h5 h3 h2, h1, if_pos h]
end Go.Proofs.YthllbcjglcplhaaDoor
/- slices.Reverse and slices.Clip of rows of holes. -/
namespace Go.Proofs.YthllbcjglcplhaaDoor
set_option linter.unusedVariables false
set_option linter.unusedSimpArgs false
set_option maxRecDepth 8000
open Go Go.RowKit

/-- Nothing but block q may have changed. -/
def But (q : Nat) (w w' : World) : Prop := w'.os = w.os ∧ w'.tape = w.tape ∧ w'.output = w.output ∧ w.heap.size ≤ w'.heap.size ∧ ∀ b, b < w.heap.size → b ≠ q → w'.heap[b]? = w.heap[b]?
theorem But.refl (q : Nat) (w : World) : But q w w := ⟨rfl, rfl, rfl, Nat.le_refl _, fun _ _ _ => rfl⟩
theorem But.drew {q : Nat} {w w' : World} (h : But q w w') : But q w w'.drew := h
theorem But.set {q o : Nat} {w w' : World} (h : But q w w') (v : Value) : But q w (w'.setCell ⟨q, o, none⟩ v) := by
  obtain ⟨h1, h2, h3, h4, h5⟩ := h
  refine ⟨h1, h2, h3, by simpa [World.setCell] using h4, fun b hb hq => ?_⟩
  rw [Deep.blk_setCell_other _ _ _ _ hq]; exact h5 b hb hq
theorem But.ext {q : Nat} {w0 w w' : World} (h : But q w w') (x : Ext w0 w) (hq : w0.heap.size ≤ q) : Ext w0 w' :=
  ⟨h.1.trans x.os, h.2.1.trans x.tape, h.2.2.1.trans x.output, Nat.le_trans x.size h.2.2.2.1, fun b hb => (h.2.2.2.2 b (Nat.lt_of_lt_of_le hb x.size) (by omega)).trans (Below.block x b hb)⟩

/-- The first n turned round, as far as k steps have come. -/
def rvf (f : Nat → Value) (n k j : Nat) : Value := if j < k ∨ (n ≤ j + k ∧ j < n) then f (n - 1 - j) else f j
theorem rvf_zero (f : Nat → Value) (n : Nat) : rvf f n 0 = f := by
  funext j; unfold rvf; rw [if_neg (by omega)]
theorem rvf_step {f : Nat → Value} {n k : Nat} (h : k + k + 1 < n) : (fun i => if i = n - 1 - k then rvf f n k k else (fun i => if i = k then rvf f n k (n - 1 - k) else rvf f n k i) i) = rvf f n (k + 1) := by
  funext j
  unfold rvf
  by_cases e1 : j = n - 1 - k
  · subst e1
    rw [if_pos rfl, if_neg (by omega), if_pos (by omega)]
    congr 1; omega
  · rw [if_neg e1]
    by_cases e2 : j = k
    · subst e2
      simp only [if_true]
      rw [if_neg (by omega), if_pos (by omega)]
    · simp only [if_neg e2]
      by_cases c : j < k ∨ (n ≤ j + k ∧ j < n)
      · rw [if_pos c, if_pos (by omega)]
      · rw [if_neg c, if_neg (by omega)]
theorem rvf_end {f : Nat → Value} {n k : Nat} (h : n ≤ k + k + 1) (hk : k + k ≤ n) {j : Nat} (hj : j < n) : rvf f n k j = f (n - 1 - j) := by
  unfold rvf
  by_cases c : j < k ∨ (n ≤ j + k ∧ j < n)
  · rw [if_pos c]
  · rw [if_neg c]; congr 1; omega

set_option maxHeartbeats 2000000 in
theorem Reverse_calls (q n c : Nat) (f : Nat → Value) (w : World) (hr : w.rowIs q 37 c f) (hn : n ≤ c) (hc : n ≤ 1000000) (hf : ∀ j, j < n → ∃ a m d, f j = .slice a m d) :
    Calls Tryd.prog 53 #[.slice (some ⟨q, 0, none⟩) n c] w fun e w' => e = .returned (.tuple #[]) ∧ But q w w' ∧ ∃ f', w'.rowIs q 37 c f' ∧ ∀ j, j < n → f' j = f (n - 1 - j) := by
  have HR := Lib.hid hr
  have HF := Lib.hid hf
  clear hr hf
  have hn1 : IntKind.i64.wrap ((n : Int) - 1) = (n : Int) - 1 := IntWalk.i64_in _ ⟨by omega, by omega⟩
  go_enter Tryd.func53, Tryd.ntmps53
  go_wp2
  go_loopw [2, 3] (fun i j wr => ∃ k : Nat, k + k ≤ n ∧ i = .int .i64 k ∧ j = .int .i64 ((n : Int) - 1 - k) ∧ Hid (wr.rowIs q 37 c (rvf f n k) ∧ But q w wr)) (fun i _ _ => n - (intOf i).toNat)
  case atStart => exact ⟨0, by omega, rfl, by simp, Lib.hid ⟨by rw [rvf_zero]; exact HR.out, But.refl _ _⟩⟩
  case round =>
    obtain ⟨k, hk, rfl, rfl, H⟩ := hrel
    by_cases hlt : k + k + 1 < n
    · obtain ⟨l, hl⟩ : ∃ l : Nat, (n : Int) - 1 - k = l := ⟨n - 1 - k, by omega⟩
      rw [hl]
      have hlk : l = n - 1 - k := by omega
      have t1 : (k : Int) < (l : Int) := by omega
      have t2 : (k : Int) < (n : Int) := by omega
      have t3 : (l : Int) < (n : Int) := by omega
      have hck := H.out.1.cell (i := k) (by omega)
      have hcl := H.out.1.cell (i := l) (by omega)
      have hfz := H.out.1.frozen k
      have hfl := H.out.1.frozen l
      obtain ⟨a1, m1, d1, hv1⟩ := HF.out k (by omega)
      obtain ⟨a2, m2, d2, hv2⟩ := HF.out (n - 1 - k) (by omega)
      have e1 : rvf f n k k = .slice a1 m1 d1 := by unfold rvf; rw [if_neg (by omega)]; exact hv1
      have e2 : rvf f n k l = .slice a2 m2 d2 := by unfold rvf; rw [if_neg (by omega), hlk]; exact hv2
      rw [e1] at hck
      rw [e2] at hcl
      have hstep := rvf_step (f := f) hlt
      rw [← hlk, e1, e2] at hstep
      have HSp := Lib.hid hstep
      have hne : k ≠ l := by omega
      have w1 : IntKind.i64.wrap ((l : Int) - 1) = (l : Int) - 1 := IntWalk.i64_in _ ⟨by omega, by omega⟩
      have Hl := Lib.hid hl
      clear hstep hv1 hv2 e1 e2 hl hlk
      go_wp2
      go_region
      all_goals
        go_wp2
        go_roundw
        case rel =>
          refine ⟨k + 1, by omega, by go_num, by rw [← Hl.out]; congr 1; omega, Lib.hid ⟨?_, ((H.out.2.set _).set _).drew⟩⟩
          have := (H.out.1.set k (.slice a2 m2 d2)).set l (.slice a1 m1 d1)
          rw [HSp.out] at this
          exact this
        case measure => simp [intOf]; omega
    · have t1 : ¬ (k : Int) < (n : Int) - 1 - k := by omega
      have HE := Lib.hid (show ∀ j, j < n → rvf f n k j = f (n - 1 - j) from fun j hj => rvf_end (by omega) hk hj)
      go_wp2
      go_end0
      exact ⟨rfl, H.out.2, _, H.out.1, HE.out⟩
theorem Reverse_nil (w : World) : Calls Tryd.prog 53 #[.slice none 0 0] w fun e w' => e = .returned (.tuple #[]) ∧ w = w' := by
  go_enter Tryd.func53, Tryd.ntmps53
  go_wp2
  go_loopw [2, 3] (fun i j wr => i = .int .i64 0 ∧ j = .int .i64 (-1) ∧ Hid (w = wr)) (fun i _ _ => 0)
  case atStart => exact ⟨rfl, rfl, Lib.hid rfl⟩
  case round =>
    obtain ⟨rfl, rfl, H⟩ := hrel
    go_wp2
    go_end0
    exact ⟨rfl, H.out⟩
theorem Clip_calls (a : Option Addr) (n c : Nat) (w : World) (h : n ≤ c) (ha : ∀ x, a = some x → x.spot = none) (hz : a = none → c = 0) : Calls Tryd.prog 54 #[.slice a n c] w fun e w' => e = .returned (.slice a n n) ∧ w = w' := by
  have h1 : (n : Int) ≤ (c : Int) := by omega
  go_enter Tryd.func54, Tryd.ntmps54
  go_wp2
  go_ret
  exact ⟨rfl, rfl⟩
end Go.Proofs.YthllbcjglcplhaaDoor
/- Rows of holes that are appended; turned round. -/
namespace Go.Proofs.YthllbcjglcplhaaDoor
set_option linter.unusedVariables false
set_option linter.unusedSimpArgs false
set_option maxRecDepth 8000
open Go Go.RowKit

theorem HU.grown {w w' : World} {B n : Nat} {e : TypeId} {u : Value} {l : List Ho} {v : Value} {xs : List Value} {z : Nat} (h : HU w u l) (ho : w.ownsRow B e z v n xs) (hg : w.grownBy w' v.ownBlock) (ht : 39 ≠ e) : HU w' u l := by
  rcases h with h | ⟨q, c, d, h1, h2, h3, h4⟩
  · exact .inl h
  · exact .inr ⟨q, c, d, h1, h2, h3, h4.grown ho hg ht⟩
/-- The rows that were appended so far. -/
def HCU (w wr : World) (v : Value) (rows : List (List Ho)) : Prop :=
  Ext w wr ∧ ∃ vs : List Value, wr.ownsRow w.heap.size 37 1 v rows.length vs ∧ ∀ i, i < rows.length → ∃ u, vs[i]? = some u ∧ HU wr u (ow rows i)
theorem HCU.nil {w wr : World} (x : Ext w wr) : HCU w wr (.slice Option.none 0 0) [] := ⟨x, [], World.ownsRow_nil _ _ _ _, fun i hi => by simp at hi⟩
theorem HCU.later {w wr w' : World} {v : Value} {rows : List (List Ho)} (h : HCU w wr v rows) (x : Ext wr w') : HCU w w' v rows := by
  obtain ⟨h1, vs, h2, h3⟩ := h
  exact ⟨h1.trans x, vs, own_ext h2 x, fun i hi => by obtain ⟨u, a, b⟩ := h3 i hi; exact ⟨u, a, b.ext x⟩⟩
theorem HCU.setOther {w wr : World} {v u' : Value} {rows : List (List Ho)} (h : HCU w wr v rows) {a : Addr} {cs : Array Value} {t : TypeId} {q : Nat × Nat} (hb : wr.heap[a.block]? = some (.cells cs t q)) (ht1 : 39 ≠ t) (ht2 : t ≠ 37) (hw : w.heap.size ≤ a.block) : HCU w (wr.setCell a u') v rows := by
  obtain ⟨h1, vs, h2, h3⟩ := h
  exact ⟨h1.setCell hw _, vs, own_setOther h2 (own_ne h2 hb ht2), fun i hi => by obtain ⟨u, a', b⟩ := h3 i hi; exact ⟨u, a', b.setOther hb ht1⟩⟩
theorem HCU.form {w wr : World} {v : Value} {rows : List (List Ho)} (h : HCU w wr v rows) : ∃ a n c, v = .slice a n c ∧ n = rows.length := by
  obtain ⟨_, vs, ⟨_, ⟨hv, hn⟩ | ⟨g, cap, cur, hv, _⟩⟩, _⟩ := h
  · exact ⟨_, _, _, hv, hn.symm⟩
  · exact ⟨_, _, _, hv, rfl⟩
theorem HCU.rr {w wr : World} {v : Value} {rows : List (List Ho)} (h : HCU w wr v rows) : ∃ c, HR wr v c rows := by
  obtain ⟨h1, vs, h2, h3⟩ := h
  obtain ⟨c, ao, hv, hl, hm, hno, hc⟩ := VS.of_own h2
  have hlen : vs.length = rows.length := by have := h2.1; omega
  have hcap : ∀ i, ∃ c', i < rows.length → HS wr (vs.getD i undef) c' (ow rows i) := fun i => by
    by_cases hi : i < rows.length
    · obtain ⟨u, a, b⟩ := h3 i hi
      obtain ⟨c', hr⟩ := b.hs
      exact ⟨c', fun _ => by rw [show vs.getD i undef = u by simp [List.getD, a]]; exact hr⟩
    · exact ⟨0, fun h => absurd h hi⟩
  refine ⟨c, ao, fun i => vs.getD i undef, fun i => (hcap i).choose, by rw [hv, hlen], by omega, hm, ?_, fun i hi => (hcap i).choose_spec hi⟩
  by_cases h0 : rows.length = 0
  · exact .inl (List.eq_nil_of_length_eq_zero h0)
  · cases ao with
    | none => have := hno rfl; omega
    | some a =>
      obtain ⟨b, o, s⟩ := a
      obtain ⟨hs, hcell⟩ := hc _ rfl
      have hs' : s = Option.none := hs (by omega)
      subst hs'
      exact .inr ⟨b, o, rfl, fun i hi => hcell i _ (by obtain ⟨u, a, _⟩ := h3 i hi; rw [a]; simp [List.getD, a])⟩
/-- 'c.Rows = append(c.Rows, row)'. -/
theorem app_hou {w : World} {ops : Array Oper} {rest : List Oper} {o : Oper} {a : Act} {Q : Exit → Act → World → Prop}
    (hg : o.guard = Option.none) (s x : Operand) (hop : o.op = Op.call { callee := Callee.builtin Builtin.append, args := #[s, x], argTypes := #[22, 22] })
    (wb : World) (v : Value) (rows : List (List Ho)) (hs : a.eval s = v) (hco : HCU wb w v rows) (u : Value) (l : List Ho) (hu : HU w u l)
    (g : Nat) (hx : a.eval x = .slice (some ⟨g, 0, Option.none⟩) 1 1) (hgw : g = w.heap.size) (hlen : rows.length ≤ 100000)
    (hK : ∀ v' w', HCU wb w' v' (rows ++ [l]) → (∀ (b : Nat) (cs : Array Value) (t : TypeId) (q : Nat × Nat), w.heap[b]? = some (Obj.cells cs t q) → t ≠ 37 → w'.heap[b]? = some (Obj.cells cs t q)) → wpList Tryd.prog ops Q rest (a.put o.dst v') w') :
    wpList Tryd.prog ops Q (o :: rest) a (w.alloc (.cells #[u] 37)) := by
  obtain ⟨h1, vs, h2, h3⟩ := hco
  subst hgw
  have hvl : vs.length = rows.length := by have := h2.1; omega
  have h1u : ∀ y ∈ [u], y.oneCell' = true := by
    intro y hy
    obtain rfl := List.mem_singleton.1 hy
    obtain ⟨a', n', c', rfl, _⟩ := hu.form
    rfl
  have xa : Ext w (w.alloc (.cells #[u] 37)) := (Ext.refl w).alloc _
  refine app_own_g eiHows hg s x hop wb.heap.size v rows.length vs hs (own_ext h2 xa) _ 1 [u] hx (VS.one _ _ _) h1u (by simp; omega) (by simp; omega) (Nat.le_trans h1.size xa.size) ?_
  intro v' w' ho hgr
  have hst : 39 ≠ 37 := by decide
  refine hK v' w' ⟨?_, vs ++ [u], by simpa using ho, fun i hi => ?_⟩ (fun b cs t q hb ht => blk_grown (own_ext h2 xa) hgr (xa.block hb) ht)
  · refine (h1.trans xa).grown hgr fun k hk => ?_
    obtain ⟨_, ⟨hv, _⟩ | ⟨g', cap, cur, hv, hBg, _⟩⟩ := h2
    · rw [hv] at hk; cases hk
    · rw [hv] at hk; have : g' = k := by simpa [Value.ownBlock] using hk
      omega
  · rw [List.length_append, List.length_singleton] at hi
    by_cases e : i < rows.length
    · obtain ⟨u', a', b'⟩ := h3 i e
      rw [ow_app _ _ e]
      exact ⟨u', by rw [List.getElem?_append_left (by omega)]; exact a', (b'.ext xa).grown (own_ext h2 xa) hgr hst⟩
    · obtain rfl : i = rows.length := by omega
      rw [ow_new]
      exact ⟨u, by rw [List.getElem?_append_right (by omega)]; simp [hvl], (hu.ext xa).grown (own_ext h2 xa) hgr hst⟩

/-- The rows that were appended, as they lie. -/
theorem HCU.lies {w wr : World} {a : Option Addr} {n c : Nat} {rows : List (List Ho)} (h : HCU w wr (.slice a n c) rows) (hn : 0 < rows.length) :
    n = rows.length ∧ n ≤ c ∧ c ≤ maxLen ∧ ∃ q f, a = some ⟨q, 0, none⟩ ∧ w.heap.size ≤ q ∧ wr.rowIs q 37 c f ∧ ∀ i, i < n → HU wr (f i) (ow rows i) := by
  obtain ⟨h1, vs, h2, h3⟩ := h
  have hl := h2.1
  obtain ⟨_, ⟨hv, h0⟩ | ⟨g, cap, cur, hv, hB, hb, hnc, hm, hsz, htk⟩⟩ := h2
  · omega
  · simp only [Value.slice.injEq] at hv
    obtain ⟨rfl, rfl, rfl⟩ := hv
    simp only [Nat.mul_one] at hsz htk hl
    refine ⟨rfl, hnc, hm, g, fun i => (cur[i]?).getD undef, rfl, hB, ⟨cur, hb, hsz, fun i hi => by simp [Array.getElem?_eq_getElem (show i < cur.size by omega)]⟩, fun i hi => ?_⟩
    obtain ⟨u, hu, hr⟩ := h3 i hi
    have : cur[i]? = some u := by
      rw [← hu, ← htk, List.getElem?_take, if_pos hi, Array.getElem?_toList]
    simp only [this, Option.getD_some]
    exact hr
theorem HU.but {w w' : World} {u : Value} {l : List Ho} {q c : Nat} {f : Nat → Value} (h : HU w u l) (hb : But q w w') (hr : w.rowIs q 37 c f) : HU w' u l := by
  rcases h with h | ⟨g, cc, dd, h1, h2, h3, h4⟩
  · exact .inl h
  · refine .inr ⟨g, cc, dd, h1, h2, h3, ?_⟩
    obtain ⟨cs, hcs⟩ := h4.block
    obtain ⟨cur, hcur, _⟩ := hr
    refine h4.of_block (hb.2.2.2.2 g h4.lt fun e => ?_)
    rw [e, hcur] at hcs
    simp only [Option.some.injEq, Obj.cells.injEq] at hcs
    exact absurd hcs.2.1 (by decide)
/-- Turned round, and without spare capacity. -/
theorem HR.turned {w' : World} {q n c c2 : Nat} {f f' : Nat → Value} {rows : List (List Ho)} (hn : n = rows.length) (hnc : n ≤ c2) (hn2 : c2 ≤ c) (hm : c ≤ maxLen) (hr : w'.rowIs q 37 c f') (hf : ∀ j, j < n → f' j = f (n - 1 - j)) (hv : ∀ i, i < n → HU w' (f i) (ow rows i)) :
    HR w' (.slice (some ⟨q, 0, none⟩) n c2) c2 rows.reverse := by
  have how : ∀ i, i < n → ow rows.reverse i = ow rows (n - 1 - i) := fun i hi => by
    rw [ow_of_lt (by simpa [← hn] using hi), ow_of_lt (by omega), List.getElem_reverse]
    congr 1; omega
  have hcap : ∀ i, ∃ d, i < n → HS w' (f' i) d (ow rows.reverse i) := fun i => by
    by_cases hi : i < n
    · obtain ⟨d, hd⟩ := (hv (n - 1 - i) (by omega)).hs
      exact ⟨d, fun _ => by rw [hf i hi, how i hi]; exact hd⟩
    · exact ⟨0, fun h => absurd h hi⟩
  refine ⟨some ⟨q, 0, none⟩, f', fun i => (hcap i).choose, by rw [List.length_reverse, hn], by rw [List.length_reverse]; omega, by omega, .inr ⟨q, 0, rfl, fun i hi => ?_⟩, fun i hi => ?_⟩
  · rw [List.length_reverse] at hi
    rw [Nat.zero_add]; exact hr.cell (by omega)
  · rw [List.length_reverse] at hi
    exact (hcap i).choose_spec (by omega)

end Go.Proofs.YthllbcjglcplhaaDoor
