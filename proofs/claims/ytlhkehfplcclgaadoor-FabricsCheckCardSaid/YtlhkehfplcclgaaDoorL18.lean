/- Texts of this claim in one file: libraries and walks. -/
import Derived.Deep.CutBlock
import Derived.Test.YtlhkehfplcclgaaDoorL17
/- F.Of: the walk. -/
namespace Go.Proofs.YtlhkehfplcclgaaDoor
set_option linter.unusedVariables false
set_option linter.unusedSimpArgs false
set_option maxRecDepth 8000
open Go Go.RowKit

theorem B4.cells {w : World} {b : Nat} {x y z u : Value} {t : TypeId} (h : B4 w b x y z u t) : w.cell? ⟨b, 0, none⟩ = some x ∧ w.cell? ⟨b, 1, none⟩ = some y ∧ w.cell? ⟨b, 2, none⟩ = some z ∧ w.cell? ⟨b, 3, none⟩ = some u := ⟨h.c0, h.c1, h.c2, h.c3⟩
theorem bits_par64 (p : Int) : bits .and .u64 p 1 = p % 2 := by
  show IntKind.u64.wrap ((BitVec.ofInt 64 p &&& BitVec.ofInt 64 1).toNat : Int) = _
  rw [BitVec.toNat_and, show (BitVec.ofInt 64 1).toNat = 1 from rfl, Nat.and_one_is_mod, BitVec.toNat_ofInt]
  rw [IntWalk.u64_in _ ⟨by omega, by omega⟩]; omega
theorem fell_bit {f : Int} (h : 0 ≤ f) (k : Nat) (h9 : f < 18446744073709551616) : (bits .and .u64 (f / 2 ^ (k % 64)) 1 == 1) = fellB f k := by
  rw [bits_par64]
  obtain ⟨n, rfl⟩ : ∃ n : Nat, f = n := ⟨f.toNat, by omega⟩
  unfold fellB
  rw [show ((n : Int) / 2 ^ (k % 64)) % 2 = ((n / 2 ^ (k % 64) % 2 : Nat) : Int) by simp]
  rw [Int.toNat_natCast, Bool.eq_iff_iff]
  simp only [beq_iff_eq, decide_eq_true_eq]; omega
set_option maxHeartbeats 16000000 in
theorem OfF_calls (tv hv cv : Value) (fal : Int) (x : FD) (w : World) (h : FDm w tv fal hv cv x) :
    Calls Tryd.prog 10 #[.agg #[tv, .int .u64 fal, hv, cv]] w (RetFD w x) := by
  obtain ⟨⟨tc, hT⟩, hfal, ⟨hc, hH⟩, ⟨cc, hC⟩, hit, hifal, hih, hic⟩ := h
  have HCall := Lib.hid (fun w' (x' : Ext w w') => OfT_calls tv tc x.t w' (hT.ext x') hit)
  obtain ⟨ta, tn, rfl, hx0⟩ := hT.open
  clear hx0
  obtain ⟨ha, hn, rfl, hhn, hhc, hHat⟩ := hH.atD
  obtain ⟨ca, cn, rfl, hcn, hcc, hc9, hCat⟩ := hC.open
  obtain ⟨W0, hW0⟩ : ∃ W0, W0 = (w.alloc (.cells #[.slice ta tn tc, .int .u64 fal, .slice ha hn hc, .slice ca cn cc] 28)).alloc (.cells #[.slice none 0 0, .slice none 0 0, .slice none 0 0, .slice none 0 0] 35) := ⟨_, rfl⟩
  have xW : Ext w W0 := by rw [hW0]; exact ((Ext.refl _).alloc _).alloc _
  have hBx : B4 W0 w.heap.size (.slice ta tn tc) (.int .u64 fal) (.slice ha hn hc) (.slice ca cn cc) 28 := by rw [hW0]; exact (B4.new _ _ _ _ _ _).ext ((Ext.refl _).alloc _)
  have hBr : B4 W0 (w.heap.size + 1) (.slice none 0 0) (.slice none 0 0) (.slice none 0 0) (.slice none 0 0) 35 := by rw [hW0]; have := B4.new (w.alloc (.cells #[.slice ta tn tc, .int .u64 fal, .slice ha hn hc, .slice ca cn cc] 28)) (.slice none 0 0) (.slice none 0 0) (.slice none 0 0) (.slice none 0 0) 35; simpa using this
  have HW0 := Lib.hid hW0; have HBx := Lib.hid hBx; have HBr := Lib.hid hBr; have XW := Lib.hid xW
  have Hhat := Lib.hid hHat; have Hcat := Lib.hid hCat; have Hhn := Lib.hid hhn; have Hcn := Lib.hid hcn
  have HI := Lib.hid (And.intro hfal (And.intro hifal (And.intro hih hic)))
  have q0 := hBx.c0
  clear hT hH hC hit hfal hifal hih hic hHat hCat hhn hcn hW0 hBx hBr xW
  rw [HW0.out] at q0
  go_enter Tryd.func10, Tryd.ntmps10
  go_wp2_with fail
  rw [← HW0.out]
  clear q0
  refine (HCall.out W0 XW.out).mono ?_
  rintro e w1 ⟨g0, F, us, vs, lv, mv, rfl, hg0, hOT, hx1⟩
  obtain ⟨s, hs⟩ : ∃ s, s = ofT x.t := ⟨_, rfl⟩
  rw [← hs] at hOT
  have X1 := Lib.hid (XW.out.trans hx1)
  have HB1 := Lib.hid (HBx.out.ext hx1)
  have HR1 := Lib.hid (HBr.out.ext hx1)
  have HOT := Lib.hid hOT; have Hg0 := Lib.hid hg0; have Hs := Lib.hid hs
  have hok := fok x
  obtain ⟨mc, hM⟩ := hOT.nl
  obtain ⟨ma, n, rfl, hmn, hmc, hm9, hMat⟩ := hM.open
  have n60 : n ≤ 60 := by have := hok.m60; rw [← hs] at this; omega
  have HT := Lib.hid (hOT.tb (by rw [hs]; exact hok.inv.l6))
  have HM := Lib.hid hMat; have Hmn := Lib.hid hmn
  have HInv := Lib.hid (show TInv s by rw [hs]; exact hok.inv)
  have HS := Lib.hid (OH.start (w1 := w1) (g0 := g0))
  clear hx1 hg0 hOT hs hok hM hmn hMat
  go_upto_region 4 with fail
  go_wp2_with fail
  go_loopg [7, 8, 9, 10, 11, 12, 13] n (fun g fall iv _ _ _ _ _ wr => ∃ (k : Nat) (hl fl : List Nm) (hv : Value) (fa : Option Addr) (fn fc : Nat), g + k = n ∧ iv = .int .i64 k ∧ fall = .slice fa fn fc ∧ fn ≤ k ∧ Hid (fn = fl.length ∧ OH w1 wr g0 (.slice fa fn fc) hv fl hl ∧ (hl, fl) = runH x s.t s.made k))
  case atStart => exact ⟨0, [], [], _, none, 0, 0, by omega, rfl, rfl, Nat.le_refl _, Lib.hid ⟨rfl, HS.out, rfl⟩⟩
  case round =>
    obtain ⟨k, hl, fl, hv', fa, fn, fc, hgk, rfl, rfl, hfk, G⟩ := hrel
    have Hgk := Lib.hid hgk
    by_cases hkn : k < n
    · have f1 : (k : Int) < n := by omega
      have f2 : (0 : Int) ≤ k := by omega
      clear hgk
      obtain ⟨bm, om, rfl, hAk⟩ := HM.out k hkn
      obtain ⟨A, hA⟩ : ∃ A, A = ni s.made k := ⟨_, rfl⟩
      rw [← hA] at hAk
      have HA := Lib.hid hA; have HAk := Lib.hid hAk
      clear hA hAk
      go_upto_block 2 with fail
      obtain ⟨wo, hwo⟩ : ∃ wo, wo = wr := ⟨_, rfl⟩
      subst hwo
      go_cut [9, 10, 11, 12] from 31 to 71 (fun fr _ _ _ wx => fr = .bool (freeB s.t s.made A) ∧ Hid (Ext wo wx))
      case first =>
        have HE := Lib.hid (show freeB s.t s.made A = s.made.all fun b => (thrAt s.t b).all fun c => decide (c ≠ A) from rfl)
        go_wp2_with fail
        go_loopg [9, 10, 11, 12] n (fun g2 fr jv _ _ wq => ∃ (j : Nat) (B : Bool), g2 + j = n ∧ jv = .int .i64 j ∧ fr = .bool B ∧ Hid (Ext wo wq ∧ B = (s.made.take j).all fun b => (thrAt s.t b).all fun c => decide (c ≠ A)))
        case atStart => exact ⟨0, true, by omega, rfl, rfl, Lib.hid ⟨Ext.refl _, rfl⟩⟩
        case round =>
          obtain ⟨j, B, hgj, rfl, rfl, G2⟩ := hrel
          have Hgj := Lib.hid hgj
          by_cases hjn : j < n
          · have f3 : (j : Int) < n := by omega
            have f4 : (0 : Int) ≤ j := by omega
            clear hgj
            obtain ⟨b', o', e, hAj⟩ := HM.out j hjn
            cases e
            have hjm : j < s.made.length := by have := Hmn.out; omega
            obtain ⟨y, m, hym, hy6, hmm⟩ := hasB_iff ((HInv.out.cov _).2 (ni_mem hjm))
            have hy6' : y < 6 := by rw [← HInv.out.l6]; exact hy6
            obtain ⟨ta0, tn0, e, htn, -, -, htt⟩ := HT.out.open
            cases e
            obtain ⟨b', o', ra, rm, rd, e2, hcell, hrm, hLR⟩ := htt y hy6'
            cases e2
            obtain ⟨ra', rn', e3, hrn, -, -, hrat⟩ := hLR.open
            cases e3
            obtain ⟨rb, ro, a1, n1, d1, a2, n2, d2, rfl, hAL, hn1, hn2, hNL, hPL⟩ := hrat m (by omega)
            obtain ⟨a1', n1', e4, -, hnd, hd9, hN1⟩ := hNL.open
            cases e4
            have x1 := G.out.2.1.x.trans G2.out.1
            rw [hym] at hAj
            obtain ⟨p0, p1⟩ := hAj.ext x1
            have p2 := x1.cell hcell
            rw [Nat.zero_add] at p2
            obtain ⟨p3, p4, p5, p6⟩ := hAL.ext x1
            have e1 : IntKind.u8.wrap ((y : Int) + 1 - 1) = y := by
              rw [show (y : Int) + 1 - 1 = y by omega]; exact IntWalk.u8_in _ ⟨by omega, by omega⟩
            have e5 : (y : Int) < 6 := by omega
            have e6 : (0 : Int) ≤ y := by omega
            have e7 : (m : Int) < rm := by omega
            have e8 : (0 : Int) ≤ m := by omega
            dsimp only at p0 p1
            have Hthr := Lib.hid (show thrAt s.t (ni s.made j) = (li (yi s.t y) m).thr by rw [hym]; unfold thrAt; dsimp only; rw [show ((y : Int) + 1 - 1).toNat = y by omega]; rfl)
            have HN1 := Lib.hid hN1; have Hn1 := Lib.hid hn1; have Hjm := Lib.hid hjm
            clear hAj hAL hcell hNL hPL hN1 hrat htt hLR hn1 hn2 hrm hrn hmm hy6 hy6' htn hym x1 p3 p4 p6 hjm
            go_wp2_with fail
            go_quiet (fail)
            go_wp2_with fail
            go_loopg [9, 12] n1 (fun g3 fr qv wp => ∃ (q : Nat) (B' : Bool), g3 + q = n1 ∧ qv = .int .i64 q ∧ fr = .bool B' ∧ Hid (Ext wo wp ∧ B' = (B && ((li (yi s.t y) m).thr.take q).all fun c => decide (c ≠ A))))
            case atStart => exact ⟨0, B, by omega, rfl, rfl, Lib.hid ⟨G2.out.1.trans (by (focus (repeat (first | (with_reducible exact Ext.refl _) | (with_reducible apply Ext.drew) | (with_reducible apply Ext.drewN) | (with_reducible apply Ext.alloc))))), by simp⟩⟩
            case round =>
              obtain ⟨q, B', hgq, rfl, rfl, G3⟩ := hrel
              have Hgq := Lib.hid hgq
              by_cases hqn : q < n1
              · have f5 : (q : Int) < n1 := by omega
                have f6 : (0 : Int) ≤ q := by omega
                clear hgq
                obtain ⟨b1, o1, rfl, hAt⟩ := HN1.out q hqn
                obtain ⟨C, hC⟩ : ∃ C, C = ni (li (yi s.t y) m).thr q := ⟨_, rfl⟩
                rw [← hC] at hAt
                have x3 := G.out.2.1.x.trans G3.out.1
                obtain ⟨r0, r1⟩ := hAt.ext x3
                obtain ⟨r2, r3⟩ := HAk.out.ext x3
                have HB := Lib.hid (show (B' && decide (C ≠ A)) = (B && ((li (yi s.t y) m).thr.take (q + 1)).all fun c => decide (c ≠ A)) by
                  have hq : q < (li (yi s.t y) m).thr.length := by rw [← Hn1.out]; exact hqn
                  rw [List.take_succ_eq_append_getElem hq, List.all_append, G3.out.2, hC, ni_of hq, Bool.and_assoc]; simp)
                clear hAt hC x3
                cases B' with
                | false =>
                  go_wp2_with fail
                  go_quiet (fail)
                  go_wp2_with fail
                  go_roundg (n1 - (q + 1))
                  case measure => have := Hgq.out; omega
                  case rel => exact ⟨q + 1, false, by omega, by go_num, rfl, Lib.hid ⟨G3.out.1.trans (by (focus (repeat (first | (with_reducible exact Ext.refl _) | (with_reducible apply Ext.drew) | (with_reducible apply Ext.drewN) | (with_reducible apply Ext.alloc))))), by rw [← HB.out]; rfl⟩⟩
                | true =>
                  by_cases h1 : C.y = A.y
                  · have e1 : (C.y == A.y) = true := by rw [h1]; exact beq_self_eq_true _
                    by_cases h2 : C.n = A.n
                    · have e2 : (C.n == A.n) = true := by rw [h2]; exact beq_self_eq_true _
                      have hCA : decide (C ≠ A) = false := decide_eq_false fun e => e (Nm.ext' h1 h2)
                      rw [hCA] at HB
                      clear h1 h2 hCA
                      go_wp2_with fail
                      go_quiet (fail)
                      go_wp2_with fail
                      go_roundg (n1 - (q + 1))
                      case measure => have := Hgq.out; omega
                      case rel => exact ⟨q + 1, false, by omega, by go_num, rfl, Lib.hid ⟨G3.out.1.trans (by (focus (repeat (first | (with_reducible exact Ext.refl _) | (with_reducible apply Ext.drew) | (with_reducible apply Ext.drewN) | (with_reducible apply Ext.alloc))))), by rw [← HB.out]; rfl⟩⟩
                    · have e2 : (C.n == A.n) = false := beq_eq_false_iff_ne.2 h2
                      have hCA : decide (C ≠ A) = true := decide_eq_true fun e => h2 (congrArg Nm.n e)
                      rw [hCA] at HB
                      clear h1 h2 hCA
                      go_wp2_with fail
                      go_quiet (fail)
                      go_wp2_with fail
                      go_roundg (n1 - (q + 1))
                      case measure => have := Hgq.out; omega
                      case rel => exact ⟨q + 1, true, by omega, by go_num, rfl, Lib.hid ⟨G3.out.1.trans (by (focus (repeat (first | (with_reducible exact Ext.refl _) | (with_reducible apply Ext.drew) | (with_reducible apply Ext.drewN) | (with_reducible apply Ext.alloc))))), by rw [← HB.out]; rfl⟩⟩
                  · have e1 : (C.y == A.y) = false := beq_eq_false_iff_ne.2 h1
                    have hCA : decide (C ≠ A) = true := decide_eq_true fun e => h1 (congrArg Nm.y e)
                    rw [hCA] at HB
                    clear h1 hCA
                    go_wp2_with fail
                    go_quiet (fail)
                    go_wp2_with fail
                    go_roundg (n1 - (q + 1))
                    case measure => have := Hgq.out; omega
                    case rel => exact ⟨q + 1, true, by omega, by go_num, rfl, Lib.hid ⟨G3.out.1.trans (by (focus (repeat (first | (with_reducible exact Ext.refl _) | (with_reducible apply Ext.drew) | (with_reducible apply Ext.drewN) | (with_reducible apply Ext.alloc))))), by rw [← HB.out]; rfl⟩⟩
              · have hB : B' = (B && (thrAt s.t (ni s.made j)).all fun c => decide (c ≠ A)) := by
                  rw [G3.out.2, Hthr.out, List.take_of_length_le (by have := Hn1.out; omega)]
                have f5 : ¬ (q : Int) < n1 := by omega
                have HB := Lib.hid hB
                clear hgq hB
                go_wp2_with fail
                go_roundg (n - (j + 1))
                case measure => have := Hgj.out; omega
                case rel => exact ⟨j + 1, B', by omega, by go_num, rfl, Lib.hid ⟨G3.out.1, by rw [HB.out, List.take_succ_eq_append_getElem Hjm.out, List.all_append, G2.out.2, ni_of Hjm.out]; simp⟩⟩
          · have hB : (B : Bool) = freeB s.t s.made A := by
              rw [HE.out, G2.out.2, List.take_of_length_le (by have := Hmn.out; omega)]
            have f3 : ¬ (j : Int) < n := by omega
            subst hB
            clear hgj
            go_wp2_with fail
            go_meet
            case rel => exact ⟨rfl, Lib.hid G2.out.1⟩
      case rest =>
        obtain ⟨rfl, G1⟩ := hcut
        obtain ⟨wp, hwp⟩ : ∃ wp, wp = wc := ⟨_, rfl⟩
        subst hwp
        have HR := Lib.hid (runH_succ x s.t s.made k)
        cases hF : freeB s.t s.made A with
        | false =>
          have HN := Lib.hid (show OH w1 wp g0 (.slice fa fn fc) hv' fl hl ∧ (hl, fl) = runH x s.t s.made (k + 1) from ⟨G.out.2.1.ext G1.out, by rw [HR.out, ← G.out.2.2]; unfold stepH; rw [← HA.out, hF]; rfl⟩)
          clear hF
          go_wp2_with fail
          go_roundg (n - (k + 1))
          case measure => have := Hgk.out; omega
          case rel => exact ⟨k + 1, hl, fl, hv', fa, fn, fc, by omega, by go_num, rfl, by omega, Lib.hid ⟨G.out.1, HN.out⟩⟩
        | true =>
          have HF := Lib.hid hF
          clear hF
          obtain ⟨p0, p1, p2, p3⟩ := B4.cells (HB1.out.ext (G.out.2.1.x.trans G1.out))
          obtain ⟨fb, hfb⟩ : ∃ fb, fb = fellB x.fal k := ⟨_, rfl⟩
          have eb : (bits BinOp.and IntKind.u64 (fal / 2 ^ (k % 64)) 1 == 1) = fb := by rw [hfb, HI.out.1]; exact fell_bit HI.out.2.1.1 k HI.out.2.1.2
          have Hfb := Lib.hid hfb
          clear hfb
          go_upto_if 81 with fail
          clear eb p0 p1 p2 p3
          have HO := Lib.hid (G.out.2.1.ext G1.out)
          cases fb with
          | true =>
            obtain ⟨r0, r1⟩ := HAk.out.ext HO.out.x
            have Ho := Lib.hid (show wp.ownsRow w1.heap.size 41 2 (.slice fa fn fc) fn (fl.map Nm.cs).flatten by have h1 := HO.out.f; rw [← G.out.1] at h1; exact h1)
            have Hsz := Lib.hid HO.out.x.size
            go_wp2_with (at_builtin; refine app_at ekN rfl _ _ rfl w1.heap.size _ fn (fl.map Nm.cs) rfl (own_extk Ho.out ((Ext.refl _).alloc _)) _ 1 [Nm.cs A] rfl (CK.of_blk (Deep.blk_alloc_new _ _) (Ks.nm [A]) rfl (Nat.le_refl _) (by omega) rfl) (Ks.nm [A]) ?f1 ?f2 ?f3 ?_)
            case f1 => first | omega | (simp; omega)
            case f2 => first | omega | (simp; omega)
            case f3 => have h1 := Hsz.out; simp; omega
            intro v8 w8 hown hgr hat
            obtain ⟨a8, c8, rfl, _⟩ := own_slice hown
            have HN := Lib.hid (show fn + 1 = (fl ++ [A]).length ∧ OH w1 w8 g0 (.slice a8 (fn + 1) c8) hv' (fl ++ [A]) hl ∧ (hl, fl ++ [A]) = runH x s.t s.made (k + 1) from ⟨by rw [List.length_append, G.out.1]; rfl, OH.addF (HO.out.ext ((Ext.refl _).alloc _)) hgr hat (by rw [← G.out.1]; exact hown), by rw [HR.out, ← G.out.2.2]; unfold stepH; rw [← HA.out, HF.out, ← Hfb.out]; rfl⟩)
            clear hown hgr hat
            go_wp2_with fail
            go_roundg (n - (k + 1))
            case measure => have := Hgk.out; omega
            case rel => exact ⟨k + 1, hl, fl ++ [A], hv', a8, fn + 1, c8, by omega, by go_num, rfl, by omega, HN⟩
          | false =>
            obtain ⟨va, vc, rfl, hvc⟩ := own_slice HO.out.h
            obtain ⟨m, hm⟩ : ∃ m, m = hl.length := ⟨_, rfl⟩
            rw [← hm] at HO hvc
            obtain ⟨D, hD⟩ : ∃ D, D = heldAt x.held hl.length k := ⟨_, rfl⟩
            have hDm : D ≤ m := by rw [hD, hm]; unfold heldAt; split; exact Nat.le_of_lt_succ (Nat.mod_lt _ (by omega)); omega
            have hmk : m ≤ k := by have := runH_bd x s.t s.made k; rw [← G.out.2.2] at this; dsimp only at this; omega
            have Hm := Lib.hid hm; have HD := Lib.hid hD
            clear hm hD
            obtain ⟨p0, p1, p2, p3⟩ := B4.cells (HB1.out.ext HO.out.x)
            go_upto_if 93 with fail
            go_cut [13] from 25 to 122 (fun av wx => av = .int .i64 D ∧ Hid (Ext wp wx))
            case first =>
              by_cases hkh : k < hn
              · have f3 : (k : Int) < hn := by omega
                obtain ⟨bh, oh, rfl, hz⟩ := Hhat.out k hkh
                have r0 := (X1.out.trans HO.out.x).cell hz
                obtain ⟨z, hzd⟩ : ∃ z, z = gi x.held k := ⟨_, rfl⟩
                have hzb := HI.out.2.2.1 k (by rw [← Hhn.out]; exact hkh)
                rw [← hzd] at r0 hzb
                have y4 : wrap64 z = z := IntWalk.wrap64_in _ ⟨by omega, by omega⟩
                have y3 : IntKind.i64.wrap ((m : Int) + 1) = (m : Int) + 1 := IntWalk.i64_in _ ⟨by omega, by omega⟩
                have y5 : ¬ ((m : Int) + 1 = 0) := by omega
                have y2 : z.tmod ((m : Int) + 1) = (D : Int) := by
                  rw [HD.out, Int.tmod_eq_emod_of_nonneg hzb.1]
                  unfold heldAt
                  rw [if_pos (by rw [← Hhn.out]; exact hkh), ← hzd, ← Hm.out]
                  have : z = (z.toNat : Int) := by omega
                  rw [this, show ((m : Int) + 1) = ((m + 1 : Nat) : Int) by omega, ← Int.natCast_emod]; rfl
                obtain ⟨u0, u1, u2, u3⟩ := B4.cells HO.out.b
                clear hz hzd
                go_wp2_with fail
                go_quiet (fail)
                go_wp2_with fail
                go_meet
                case rel => exact ⟨rfl, Lib.hid (by (focus (repeat (first | (with_reducible exact Ext.refl _) | (with_reducible apply Ext.drew) | (with_reducible apply Ext.drewN) | (with_reducible apply Ext.alloc)))))⟩
              · have f3 : ¬ (k : Int) < hn := by omega
                have hD0 : D = 0 := by rw [HD.out]; unfold heldAt; rw [if_neg (by rw [← Hhn.out]; exact hkh)]
                subst hD0
                go_wp2_with fail
                go_meet
                case rel => exact ⟨rfl, Lib.hid (Ext.refl _)⟩
            case rest =>
              obtain ⟨rfl, G3⟩ := hcut
              have HO3 := Lib.hid (HO.out.ext G3.out)
              obtain ⟨wq, hwq⟩ : ∃ wq, wq = wc := ⟨_, rfl⟩
              subst hwq
              clear p0 p1 p2 p3
              go_upto_region 22 with fail
              have q0_1 := HO3.out.b.c2
              obtain ⟨q0_2, q0_3⟩ := HAk.out.ext HO3.out.x
              have k1 : (D : Int) ≤ vc := by omega
              have k2 : (D : Int) ≤ m := by omega
              have k3 : (m : Int) ≤ vc := by omega
              have k4 : (0 : Int) ≤ D := by omega
              have Hh := Lib.hid (show wq.ownsRow w1.heap.size 41 2 (.slice va m vc) m (hl.map Nm.cs).flatten by have h1 := HO3.out.h; rw [← Hm.out] at h1; exact h1)
              have HTk := Lib.hid (show ∀ w', Ext wq w' → CK 2 w' (.slice va D vc) vc ((hl.take D).map Nm.cs) from fun w' x => by rw [List.map_take]; exact CK.take' (own_ck (own_extk Hh.out x) Hm.out) (by rw [List.length_map, ← Hm.out]; exact hDm))
              have HDr := Lib.hid (show ∀ w', Ext wq w' → CK 2 w' (.slice (if vc = D then va else Option.map (fun x => x.add (D * 2)) va) (m - D) (vc - D)) (vc - D) ((hl.drop D).map Nm.cs) from fun w' x => by rw [List.map_drop]; exact CK.drop' (own_ck (own_extk Hh.out x) Hm.out) (by rw [List.length_map, ← Hm.out]; exact hDm))
              have HNx := Lib.hid (show ∀ v8 w8, Ext wq w8 → w8.ownsRow wq.heap.size 41 2 v8 (m + 1) ((hl.take D ++ [A] ++ hl.drop D).map Nm.cs).flatten → OH w1 (w8.setCell ⟨w1.heap.size, 2, none⟩ v8) g0 (.slice fa fn fc) v8 fl (insAt hl D A) ∧ (insAt hl D A, fl) = runH x s.t s.made (k + 1) from fun v8 w8 x8 hown => ⟨OH.setH HO3.out x8 (by
                have e : (insAt hl D A).length = m + 1 := by rw [(insAt_perm _ _ _).length_eq, List.length_cons, ← Hm.out]
                rw [e]; exact hown), by rw [HR.out, ← G.out.2.2]; unfold stepH; rw [← HA.out, HF.out, ← Hfb.out, HD.out]; rfl⟩)
              refine region_L (L := 18) (S := fun w' => w'.cell? ⟨w1.heap.size, 2, Option.none⟩ = some (.slice va m vc) ∧ w'.cell? ⟨bm, om + k * 2, Option.none⟩ = some (.int .u8 A.y) ∧ w'.cell? ⟨bm, om + k * 2 + 1, Option.none⟩ = some (.int .i64 A.n)) (by kernel_rfl) ?_ (fun hHeld => ?_)
              · exact ⟨q0_1, q0_2, q0_3⟩
              refine anyL_take (i := 1) (v := ?va308_1) rfl (by kernel_rfl) (by kernel_rfl) (by kernel_rfl) (by kernel_rfl) (fun _ _ _ h => h) (Or.inl ⟨by rfl, fun w hSw => ?ti308_1⟩) (by assumption) ?rest308_1
              case ti308_1 => ((try dsimp only at hSw); go_simp; (first | done | with_reducible rfl))
              try simp only [Act.put, List.getElem_toArray, List.getElem_cons_zero, List.getElem_cons_succ, List.setIfInBounds_toArray, List.set_cons_zero, List.set_cons_succ]
              refine anyL_take (i := 2) (v := ?va311_2) rfl (by kernel_rfl) (by kernel_rfl) (by kernel_rfl) (by kernel_rfl) (fun _ _ _ h => h) (Or.inl ⟨by rfl, fun w hSw => ?ti311_2⟩) (by assumption) ?rest311_2
              case ti311_2 => ((try dsimp only at hSw); go_simp; (first | done | with_reducible rfl))
              try simp only [Act.put, List.getElem_toArray, List.getElem_cons_zero, List.getElem_cons_succ, List.setIfInBounds_toArray, List.set_cons_zero, List.set_cons_succ]
              refine anyL_take (i := 3) (v := ?va314_3) rfl (by kernel_rfl) (by kernel_rfl) (by kernel_rfl) (by kernel_rfl) (fun _ _ _ h => h) (Or.inl ⟨by rfl, fun w hSw => ?ti314_3⟩) (by assumption) ?rest314_3
              case ti314_3 => ((try dsimp only at hSw); go_simp; (first | done | with_reducible rfl))
              try simp only [Act.put, List.getElem_toArray, List.getElem_cons_zero, List.getElem_cons_succ, List.setIfInBounds_toArray, List.set_cons_zero, List.set_cons_succ]
              refine anyL_take (i := 4) (v := ?va317_4) rfl (by kernel_rfl) (by kernel_rfl) (by kernel_rfl) (by kernel_rfl) (fun _ _ _ h => h) (Or.inl ⟨by rfl, fun w hSw => ?ti317_4⟩) (by assumption) ?rest317_4
              case ti317_4 => ((try dsimp only at hSw); go_simp; (first | done | with_reducible rfl))
              try simp only [Act.put, List.getElem_toArray, List.getElem_cons_zero, List.getElem_cons_succ, List.setIfInBounds_toArray, List.set_cons_zero, List.set_cons_succ]
              refine anyL_take (i := 6) (v := ?va320_6) rfl (by kernel_rfl) (by kernel_rfl) (by kernel_rfl) (by kernel_rfl) (fun _ _ _ h => h) (Or.inl ⟨by rfl, fun w hSw => ?ti320_6⟩) (by assumption) ?rest320_6
              case ti320_6 => ((try dsimp only at hSw); go_simp; (first | done | with_reducible rfl))
              try simp only [Act.put, List.getElem_toArray, List.getElem_cons_zero, List.getElem_cons_succ, List.setIfInBounds_toArray, List.set_cons_zero, List.set_cons_succ]
              refine anyL_take (i := 7) (v := ?va323_7) rfl (by kernel_rfl) (by kernel_rfl) (by kernel_rfl) (by kernel_rfl) (fun _ _ _ h => h) (Or.inl ⟨by rfl, fun w hSw => ?ti323_7⟩) (by assumption) ?rest323_7
              case ti323_7 => ((try dsimp only at hSw); go_simp; (first | done | with_reducible rfl))
              try simp only [Act.put, List.getElem_toArray, List.getElem_cons_zero, List.getElem_cons_succ, List.setIfInBounds_toArray, List.set_cons_zero, List.set_cons_succ]
              refine anyL_take (i := 8) (v := ?va326_8) rfl (by kernel_rfl) (by kernel_rfl) (by kernel_rfl) (by kernel_rfl) (fun _ _ _ h => h) (Or.inl ⟨by rfl, fun w hSw => ?ti326_8⟩) (by assumption) ?rest326_8
              case ti326_8 => ((try dsimp only at hSw); go_simp; (first | done | with_reducible rfl))
              try simp only [Act.put, List.getElem_toArray, List.getElem_cons_zero, List.getElem_cons_succ, List.setIfInBounds_toArray, List.set_cons_zero, List.set_cons_succ]
              refine anyL_take (i := 9) (v := ?va329_9) rfl (by kernel_rfl) (by kernel_rfl) (by kernel_rfl) (by kernel_rfl) (fun _ _ _ h => h) (Or.inl ⟨by rfl, fun w hSw => ?ti329_9⟩) (by assumption) ?rest329_9
              case ti329_9 => ((try dsimp only at hSw); go_simp; (first | done | with_reducible rfl))
              try simp only [Act.put, List.getElem_toArray, List.getElem_cons_zero, List.getElem_cons_succ, List.setIfInBounds_toArray, List.set_cons_zero, List.set_cons_succ]
              refine anyL_take (i := 12) (v := ?va332_12) rfl (by kernel_rfl) (by kernel_rfl) (by kernel_rfl) (by kernel_rfl) (fun _ _ _ h => h) (Or.inl ⟨by rfl, fun w hSw => ?ti332_12⟩) (by assumption) ?rest332_12
              case ti332_12 => ((try dsimp only at hSw); go_simp; (first | done | with_reducible rfl))
              try simp only [Act.put, List.getElem_toArray, List.getElem_cons_zero, List.getElem_cons_succ, List.setIfInBounds_toArray, List.set_cons_zero, List.set_cons_succ]
              refine anyL_take (i := 13) (v := ?va335_13) rfl (by kernel_rfl) (by kernel_rfl) (by kernel_rfl) (by kernel_rfl) (fun _ _ _ h => h) (Or.inl ⟨by rfl, fun w hSw => ?ti335_13⟩) (by assumption) ?rest335_13
              case ti335_13 => ((try dsimp only at hSw); go_simp; (first | done | with_reducible rfl))
              try simp only [Act.put, List.getElem_toArray, List.getElem_cons_zero, List.getElem_cons_succ, List.setIfInBounds_toArray, List.set_cons_zero, List.set_cons_succ]
              refine anyL_take (i := 14) (v := ?va338_14) rfl (by kernel_rfl) (by kernel_rfl) (by kernel_rfl) (by kernel_rfl) (fun _ _ _ h => h) (Or.inl ⟨by rfl, fun w hSw => ?ti338_14⟩) (by assumption) ?rest338_14
              case ti338_14 => ((try dsimp only at hSw); go_simp; (first | done | with_reducible rfl))
              try simp only [Act.put, List.getElem_toArray, List.getElem_cons_zero, List.getElem_cons_succ, List.setIfInBounds_toArray, List.set_cons_zero, List.set_cons_succ]
              refine anyL_take (i := 15) (v := ?va341_15) rfl (by kernel_rfl) (by kernel_rfl) (by kernel_rfl) (by kernel_rfl) (fun _ _ _ h => h) (Or.inl ⟨by rfl, fun w hSw => ?ti341_15⟩) (by assumption) ?rest341_15
              case ti341_15 => ((try dsimp only at hSw); go_simp; (first | done | with_reducible rfl))
              try simp only [Act.put, List.getElem_toArray, List.getElem_cons_zero, List.getElem_cons_succ, List.setIfInBounds_toArray, List.set_cons_zero, List.set_cons_succ]
              refine anyL_ready (rs := [0, 10]) (by kernel_rfl) (by simp) ?_
              refine AllL.cons rfl (fun K hK => ?_) (AllL.cons rfl (fun K hK => ?_) AllL.nil)
              · as_aux_lemma =>
                go_simp
                refine hK.out _ _ (fun _ => ⟨Ext.cell (by (focus (repeat (first | (with_reducible exact Ext.refl _) | (with_reducible apply Ext.drew) | (with_reducible apply Ext.drewN) | (with_reducible apply Ext.alloc))))) q0_1, Ext.cell (by (focus (repeat (first | (with_reducible exact Ext.refl _) | (with_reducible apply Ext.drew) | (with_reducible apply Ext.drewN) | (with_reducible apply Ext.alloc))))) q0_2, Ext.cell (by (focus (repeat (first | (with_reducible exact Ext.refl _) | (with_reducible apply Ext.drew) | (with_reducible apply Ext.drewN) | (with_reducible apply Ext.alloc))))) q0_3⟩) ?_
                clear hK K; try simp only [Act.put, List.getElem_toArray, List.getElem_cons_zero, List.getElem_cons_succ, List.setIfInBounds_toArray, List.set_cons_zero, List.set_cons_succ]
                refine anyL_ready (rs := [5, 10]) (by kernel_rfl) (by simp) ?_
                refine AllL.cons rfl (fun K hK => ?_) (AllL.cons rfl (fun K hK => ?_) AllL.nil)
                · as_aux_lemma =>
                  have HOL := Lib.hid (own_lit wq wq.heap.size (Nat.le_refl _) 41 2)
                  refine step_app ekN (by rfl) _ _ (by rfl) wq.heap.size _ 0 [] (by rfl) (own_extk HOL.out (by (focus (repeat (first | (with_reducible exact Ext.refl _) | (with_reducible apply Ext.drew) | (with_reducible apply Ext.drewN) | (with_reducible apply Ext.alloc)))))) _ vc ((hl.take D).map Nm.cs) (by rfl) (HTk.out _ (by (focus (repeat (first | (with_reducible exact Ext.refl _) | (with_reducible apply Ext.drew) | (with_reducible apply Ext.drewN) | (with_reducible apply Ext.alloc)))))) (Ks.nm _) (by simp; omega) (by simp; omega) (Ext.size (by (focus (repeat (first | (with_reducible exact Ext.refl _) | (with_reducible apply Ext.drew) | (with_reducible apply Ext.drewN) | (with_reducible apply Ext.alloc)))))) ?_
                  intro v6 w6 hown hgr hat
                  have hown' : w6.ownsRow wq.heap.size 41 2 v6 D ((hl.take D).map Nm.cs).flatten := by rw [List.nil_append, List.length_map, List.length_take, Nat.min_eq_left (by have := Hm.out; omega), Nat.zero_add] at hown; exact hown
                  have X6 : Hid (Ext wq w6) := Lib.hid (Ext.grown (by (focus (repeat (first | (with_reducible exact Ext.refl _) | (with_reducible apply Ext.drew) | (with_reducible apply Ext.drewN) | (with_reducible apply Ext.alloc))))) hgr fun g hg => by cases hg; (first | exact Nat.le_refl _ | exact Nat.le_succ _))
                  have HO6 := Lib.hid hown'
                  clear hown hgr hat hown' HOL
                  refine hK.out _ _ (fun _ => ⟨Ext.cell (Ext.trans X6.out (by (focus (repeat (first | (with_reducible exact Ext.refl _) | (with_reducible apply Ext.drew) | (with_reducible apply Ext.drewN) | (with_reducible apply Ext.alloc)))))) q0_1, Ext.cell (Ext.trans X6.out (by (focus (repeat (first | (with_reducible exact Ext.refl _) | (with_reducible apply Ext.drew) | (with_reducible apply Ext.drewN) | (with_reducible apply Ext.alloc)))))) q0_2, Ext.cell (Ext.trans X6.out (by (focus (repeat (first | (with_reducible exact Ext.refl _) | (with_reducible apply Ext.drew) | (with_reducible apply Ext.drewN) | (with_reducible apply Ext.alloc)))))) q0_3⟩) ?_
                  clear hK K; try simp only [Act.put, List.getElem_toArray, List.getElem_cons_zero, List.getElem_cons_succ, List.setIfInBounds_toArray, List.set_cons_zero, List.set_cons_succ]
                  refine anyL_ready (rs := [10]) (by kernel_rfl) (by simp) ?_
                  refine AllL.cons rfl (fun K hK => ?_) AllL.nil
                  go_simp
                  refine hK.out _ _ (fun _ => ⟨Ext.cell (Ext.trans X6.out (by (focus (repeat (first | (with_reducible exact Ext.refl _) | (with_reducible apply Ext.drew) | (with_reducible apply Ext.drewN) | (with_reducible apply Ext.alloc)))))) q0_1, Ext.cell (Ext.trans X6.out (by (focus (repeat (first | (with_reducible exact Ext.refl _) | (with_reducible apply Ext.drew) | (with_reducible apply Ext.drewN) | (with_reducible apply Ext.alloc)))))) q0_2, Ext.cell (Ext.trans X6.out (by (focus (repeat (first | (with_reducible exact Ext.refl _) | (with_reducible apply Ext.drew) | (with_reducible apply Ext.drewN) | (with_reducible apply Ext.alloc)))))) q0_3⟩) ?_
                  clear hK K; try simp only [Act.put, List.getElem_toArray, List.getElem_cons_zero, List.getElem_cons_succ, List.setIfInBounds_toArray, List.set_cons_zero, List.set_cons_succ]
                  refine anyL_ready (rs := [11]) (by kernel_rfl) (by simp) ?_
                  refine AllL.cons rfl (fun K hK => ?_) AllL.nil
                  refine step_app ekN (by rfl) _ _ (by rfl) wq.heap.size _ D ((hl.take D).map Nm.cs) (by rfl) (own_extk HO6.out (by (focus (repeat (first | (with_reducible exact Ext.refl _) | (with_reducible apply Ext.drew) | (with_reducible apply Ext.drewN) | (with_reducible apply Ext.alloc)))))) _ 1 [Nm.cs A] (by rfl) (CK.ext (CK.of_blk (Deep.blk_alloc_new w6 _) (Ks.nm [A]) rfl (Nat.le_refl _) (by omega) rfl) (by (focus (repeat (first | (with_reducible exact Ext.refl _) | (with_reducible apply Ext.drew) | (with_reducible apply Ext.drewN) | (with_reducible apply Ext.alloc)))))) (Ks.nm [A]) (by simp; omega) (by simp; omega) (Nat.le_trans (Ext.size X6.out) (Ext.size (by (focus (repeat (first | (with_reducible exact Ext.refl _) | (with_reducible apply Ext.drew) | (with_reducible apply Ext.drewN) | (with_reducible apply Ext.alloc))))))) ?_
                  intro v7 w7 hown hgr hat
                  have X7 : Hid (Ext wq w7) := Lib.hid (Ext.grown (Ext.trans X6.out (by (focus (repeat (first | (with_reducible exact Ext.refl _) | (with_reducible apply Ext.drew) | (with_reducible apply Ext.drewN) | (with_reducible apply Ext.alloc)))))) hgr fun g hg => (HO6.out.lt g hg).1)
                  have HO7 : Hid (w7.ownsRow wq.heap.size 41 2 v7 (D + 1) ((hl.take D ++ [A]).map Nm.cs).flatten) := Lib.hid (by rw [List.map_append]; exact hown)
                  clear hown hgr hat
                  refine hK.out _ _ (fun _ => ⟨Ext.cell (Ext.trans X7.out (by (focus (repeat (first | (with_reducible exact Ext.refl _) | (with_reducible apply Ext.drew) | (with_reducible apply Ext.drewN) | (with_reducible apply Ext.alloc)))))) q0_1, Ext.cell (Ext.trans X7.out (by (focus (repeat (first | (with_reducible exact Ext.refl _) | (with_reducible apply Ext.drew) | (with_reducible apply Ext.drewN) | (with_reducible apply Ext.alloc)))))) q0_2, Ext.cell (Ext.trans X7.out (by (focus (repeat (first | (with_reducible exact Ext.refl _) | (with_reducible apply Ext.drew) | (with_reducible apply Ext.drewN) | (with_reducible apply Ext.alloc)))))) q0_3⟩) ?_
                  clear hK K; try simp only [Act.put, List.getElem_toArray, List.getElem_cons_zero, List.getElem_cons_succ, List.setIfInBounds_toArray, List.set_cons_zero, List.set_cons_succ]
                  refine anyL_ready (rs := [16]) (by kernel_rfl) (by simp) ?_
                  refine AllL.cons rfl (fun K hK => ?_) AllL.nil
                  refine step_app ekN (by rfl) _ _ (by rfl) wq.heap.size _ (D + 1) ((hl.take D ++ [A]).map Nm.cs) (by rfl) HO7.out _ (vc - D) ((hl.drop D).map Nm.cs) (by rfl) (HDr.out _ X7.out) (Ks.nm _) (by have := Hm.out; simp; omega) (by have := Hm.out; simp; omega) (Ext.size X7.out) ?_
                  intro v8 w8 hown hgr hat
                  have X8 : Hid (Ext wq w8) := Lib.hid (Ext.grown X7.out hgr fun g hg => (HO7.out.lt g hg).1)
                  have hown8 : w8.ownsRow wq.heap.size 41 2 v8 (m + 1) ((hl.take D ++ [A] ++ hl.drop D).map Nm.cs).flatten := by rw [← List.map_append, List.length_map, List.length_drop, ← Hm.out] at hown; rw [show m + 1 = D + 1 + (m - D) by omega]; exact hown
                  obtain ⟨a8, c8, rfl, _⟩ := own_slice hown8
                  have HN := HNx.out _ w8 X8.out hown8
                  clear hown8
                  have p0 := (HO3.out.b.ext X8.out).c2; have p1 := (HO3.out.b.ext X8.out).fr 2
                  clear hown hgr hat
                  refine hK.out _ _ (fun _ => ⟨Ext.cell (Ext.trans X8.out (by (focus (repeat (first | (with_reducible exact Ext.refl _) | (with_reducible apply Ext.drew) | (with_reducible apply Ext.drewN) | (with_reducible apply Ext.alloc)))))) q0_1, Ext.cell (Ext.trans X8.out (by (focus (repeat (first | (with_reducible exact Ext.refl _) | (with_reducible apply Ext.drew) | (with_reducible apply Ext.drewN) | (with_reducible apply Ext.alloc)))))) q0_2, Ext.cell (Ext.trans X8.out (by (focus (repeat (first | (with_reducible exact Ext.refl _) | (with_reducible apply Ext.drew) | (with_reducible apply Ext.drewN) | (with_reducible apply Ext.alloc)))))) q0_3⟩) ?_
                  clear hK K; try simp only [Act.put, List.getElem_toArray, List.getElem_cons_zero, List.getElem_cons_succ, List.setIfInBounds_toArray, List.set_cons_zero, List.set_cons_succ]
                  refine anyL_ready (rs := [17]) (by kernel_rfl) (by simp) ?_
                  refine AllL.cons rfl (fun K hK => ?_) AllL.nil
                  go_simp
                  refine hK.out _ _ (fun _ => ⟨Ext.cell (Ext.trans X8.out (by (focus (repeat (first | (with_reducible exact Ext.refl _) | (with_reducible apply Ext.drew) | (with_reducible apply Ext.drewN) | (with_reducible apply Ext.alloc)))))) q0_1, Ext.cell (Ext.trans X8.out (by (focus (repeat (first | (with_reducible exact Ext.refl _) | (with_reducible apply Ext.drew) | (with_reducible apply Ext.drewN) | (with_reducible apply Ext.alloc)))))) q0_2, Ext.cell (Ext.trans X8.out (by (focus (repeat (first | (with_reducible exact Ext.refl _) | (with_reducible apply Ext.drew) | (with_reducible apply Ext.drewN) | (with_reducible apply Ext.alloc)))))) q0_3⟩) ?_
                  clear hK K; try simp only [Act.put, List.getElem_toArray, List.getElem_cons_zero, List.getElem_cons_succ, List.setIfInBounds_toArray, List.set_cons_zero, List.set_cons_succ]
                  refine anyL_ready (rs := [18]) (by kernel_rfl) (by simp) ?_
                  refine AllL.cons rfl (fun K hK => ?_) AllL.nil
                  go_simp
                  refine hK.out _ _ (fun h => absurd rfl h) ?_
                  clear hK K; try simp only [Act.put, List.getElem_toArray, List.getElem_cons_zero, List.getElem_cons_succ, List.setIfInBounds_toArray, List.set_cons_zero, List.set_cons_succ]
                  refine anyL_done (by kernel_rfl) ?_ _
                  go_wp2_with fail
                  all_goals
                    go_roundg (n - (k + 1))
                    case measure => have := Hgk.out; omega
                    case rel => exact ⟨k + 1, insAt hl D A, fl, _, fa, fn, fc, by omega, by go_num, rfl, by omega, Lib.hid ⟨G.out.1, HN⟩⟩
                · as_aux_lemma =>
                  go_simp
                  refine hK.out _ _ (fun _ => ⟨Ext.cell (by (focus (repeat (first | (with_reducible exact Ext.refl _) | (with_reducible apply Ext.drew) | (with_reducible apply Ext.drewN) | (with_reducible apply Ext.alloc))))) q0_1, Ext.cell (by (focus (repeat (first | (with_reducible exact Ext.refl _) | (with_reducible apply Ext.drew) | (with_reducible apply Ext.drewN) | (with_reducible apply Ext.alloc))))) q0_2, Ext.cell (by (focus (repeat (first | (with_reducible exact Ext.refl _) | (with_reducible apply Ext.drew) | (with_reducible apply Ext.drewN) | (with_reducible apply Ext.alloc))))) q0_3⟩) ?_
                  clear hK K; try simp only [Act.put, List.getElem_toArray, List.getElem_cons_zero, List.getElem_cons_succ, List.setIfInBounds_toArray, List.set_cons_zero, List.set_cons_succ]
                  refine anyL_ready (rs := [5]) (by kernel_rfl) (by simp) ?_
                  refine AllL.cons rfl (fun K hK => ?_) AllL.nil
                  have HOL := Lib.hid (own_lit wq wq.heap.size (Nat.le_refl _) 41 2)
                  refine step_app ekN (by rfl) _ _ (by rfl) wq.heap.size _ 0 [] (by rfl) (own_extk HOL.out (by (focus (repeat (first | (with_reducible exact Ext.refl _) | (with_reducible apply Ext.drew) | (with_reducible apply Ext.drewN) | (with_reducible apply Ext.alloc)))))) _ vc ((hl.take D).map Nm.cs) (by rfl) (HTk.out _ (by (focus (repeat (first | (with_reducible exact Ext.refl _) | (with_reducible apply Ext.drew) | (with_reducible apply Ext.drewN) | (with_reducible apply Ext.alloc)))))) (Ks.nm _) (by simp; omega) (by simp; omega) (Ext.size (by (focus (repeat (first | (with_reducible exact Ext.refl _) | (with_reducible apply Ext.drew) | (with_reducible apply Ext.drewN) | (with_reducible apply Ext.alloc)))))) ?_
                  intro v6 w6 hown hgr hat
                  have hown' : w6.ownsRow wq.heap.size 41 2 v6 D ((hl.take D).map Nm.cs).flatten := by rw [List.nil_append, List.length_map, List.length_take, Nat.min_eq_left (by have := Hm.out; omega), Nat.zero_add] at hown; exact hown
                  have X6 : Hid (Ext wq w6) := Lib.hid (Ext.grown (by (focus (repeat (first | (with_reducible exact Ext.refl _) | (with_reducible apply Ext.drew) | (with_reducible apply Ext.drewN) | (with_reducible apply Ext.alloc))))) hgr fun g hg => by cases hg; (first | exact Nat.le_refl _ | exact Nat.le_succ _))
                  have HL6 : Hid (BN w6 (wq.heap.size + 1) A) := Lib.hid (by
                    refine BN.grown ?_ hgr (fun e => by have h1 : wq.heap.size = wq.heap.size + 1 := Option.some.inj e; omega)
                    exact BN.ext (show BN ((wq.alloc (Obj.cells #[] 41)).alloc (Obj.cells #[.int .u8 A.y, .int .i64 A.n] 41)) (wq.heap.size + 1) A by have h1 := BN.new (wq.alloc (Obj.cells #[] 41)) A; simpa using h1) (by (focus (repeat (first | (with_reducible exact Ext.refl _) | (with_reducible apply Ext.drew) | (with_reducible apply Ext.drewN) | (with_reducible apply Ext.alloc))))))
                  have HO6 := Lib.hid hown'
                  clear hown hgr hat hown' HOL
                  refine hK.out _ _ (fun _ => ⟨Ext.cell (Ext.trans X6.out (by (focus (repeat (first | (with_reducible exact Ext.refl _) | (with_reducible apply Ext.drew) | (with_reducible apply Ext.drewN) | (with_reducible apply Ext.alloc)))))) q0_1, Ext.cell (Ext.trans X6.out (by (focus (repeat (first | (with_reducible exact Ext.refl _) | (with_reducible apply Ext.drew) | (with_reducible apply Ext.drewN) | (with_reducible apply Ext.alloc)))))) q0_2, Ext.cell (Ext.trans X6.out (by (focus (repeat (first | (with_reducible exact Ext.refl _) | (with_reducible apply Ext.drew) | (with_reducible apply Ext.drewN) | (with_reducible apply Ext.alloc)))))) q0_3⟩) ?_
                  clear hK K; try simp only [Act.put, List.getElem_toArray, List.getElem_cons_zero, List.getElem_cons_succ, List.setIfInBounds_toArray, List.set_cons_zero, List.set_cons_succ]
                  refine anyL_ready (rs := [11]) (by kernel_rfl) (by simp) ?_
                  refine AllL.cons rfl (fun K hK => ?_) AllL.nil
                  refine step_app ekN (by rfl) _ _ (by rfl) wq.heap.size _ D ((hl.take D).map Nm.cs) (by rfl) (own_extk HO6.out (by (focus (repeat (first | (with_reducible exact Ext.refl _) | (with_reducible apply Ext.drew) | (with_reducible apply Ext.drewN) | (with_reducible apply Ext.alloc)))))) _ 1 [Nm.cs A] (by rfl) (CK.of_blk HL6.out (Ks.nm [A]) rfl (Nat.le_refl _) (by omega) rfl) (Ks.nm [A]) (by simp; omega) (by simp; omega) (Nat.le_trans (Ext.size X6.out) (Ext.size (by (focus (repeat (first | (with_reducible exact Ext.refl _) | (with_reducible apply Ext.drew) | (with_reducible apply Ext.drewN) | (with_reducible apply Ext.alloc))))))) ?_
                  intro v7 w7 hown hgr hat
                  have X7 : Hid (Ext wq w7) := Lib.hid (Ext.grown (Ext.trans X6.out (by (focus (repeat (first | (with_reducible exact Ext.refl _) | (with_reducible apply Ext.drew) | (with_reducible apply Ext.drewN) | (with_reducible apply Ext.alloc)))))) hgr fun g hg => (HO6.out.lt g hg).1)
                  have HO7 : Hid (w7.ownsRow wq.heap.size 41 2 v7 (D + 1) ((hl.take D ++ [A]).map Nm.cs).flatten) := Lib.hid (by rw [List.map_append]; exact hown)
                  clear hown hgr hat
                  refine hK.out _ _ (fun _ => ⟨Ext.cell (Ext.trans X7.out (by (focus (repeat (first | (with_reducible exact Ext.refl _) | (with_reducible apply Ext.drew) | (with_reducible apply Ext.drewN) | (with_reducible apply Ext.alloc)))))) q0_1, Ext.cell (Ext.trans X7.out (by (focus (repeat (first | (with_reducible exact Ext.refl _) | (with_reducible apply Ext.drew) | (with_reducible apply Ext.drewN) | (with_reducible apply Ext.alloc)))))) q0_2, Ext.cell (Ext.trans X7.out (by (focus (repeat (first | (with_reducible exact Ext.refl _) | (with_reducible apply Ext.drew) | (with_reducible apply Ext.drewN) | (with_reducible apply Ext.alloc)))))) q0_3⟩) ?_
                  clear hK K; try simp only [Act.put, List.getElem_toArray, List.getElem_cons_zero, List.getElem_cons_succ, List.setIfInBounds_toArray, List.set_cons_zero, List.set_cons_succ]
                  refine anyL_ready (rs := [16]) (by kernel_rfl) (by simp) ?_
                  refine AllL.cons rfl (fun K hK => ?_) AllL.nil
                  refine step_app ekN (by rfl) _ _ (by rfl) wq.heap.size _ (D + 1) ((hl.take D ++ [A]).map Nm.cs) (by rfl) HO7.out _ (vc - D) ((hl.drop D).map Nm.cs) (by rfl) (HDr.out _ X7.out) (Ks.nm _) (by have := Hm.out; simp; omega) (by have := Hm.out; simp; omega) (Ext.size X7.out) ?_
                  intro v8 w8 hown hgr hat
                  have X8 : Hid (Ext wq w8) := Lib.hid (Ext.grown X7.out hgr fun g hg => (HO7.out.lt g hg).1)
                  have hown8 : w8.ownsRow wq.heap.size 41 2 v8 (m + 1) ((hl.take D ++ [A] ++ hl.drop D).map Nm.cs).flatten := by rw [← List.map_append, List.length_map, List.length_drop, ← Hm.out] at hown; rw [show m + 1 = D + 1 + (m - D) by omega]; exact hown
                  obtain ⟨a8, c8, rfl, _⟩ := own_slice hown8
                  have HN := HNx.out _ w8 X8.out hown8
                  clear hown8
                  have p0 := (HO3.out.b.ext X8.out).c2; have p1 := (HO3.out.b.ext X8.out).fr 2
                  clear hown hgr hat
                  refine hK.out _ _ (fun _ => ⟨Ext.cell (Ext.trans X8.out (by (focus (repeat (first | (with_reducible exact Ext.refl _) | (with_reducible apply Ext.drew) | (with_reducible apply Ext.drewN) | (with_reducible apply Ext.alloc)))))) q0_1, Ext.cell (Ext.trans X8.out (by (focus (repeat (first | (with_reducible exact Ext.refl _) | (with_reducible apply Ext.drew) | (with_reducible apply Ext.drewN) | (with_reducible apply Ext.alloc)))))) q0_2, Ext.cell (Ext.trans X8.out (by (focus (repeat (first | (with_reducible exact Ext.refl _) | (with_reducible apply Ext.drew) | (with_reducible apply Ext.drewN) | (with_reducible apply Ext.alloc)))))) q0_3⟩) ?_
                  clear hK K; try simp only [Act.put, List.getElem_toArray, List.getElem_cons_zero, List.getElem_cons_succ, List.setIfInBounds_toArray, List.set_cons_zero, List.set_cons_succ]
                  refine anyL_ready (rs := [17]) (by kernel_rfl) (by simp) ?_
                  refine AllL.cons rfl (fun K hK => ?_) AllL.nil
                  go_simp
                  refine hK.out _ _ (fun _ => ⟨Ext.cell (Ext.trans X8.out (by (focus (repeat (first | (with_reducible exact Ext.refl _) | (with_reducible apply Ext.drew) | (with_reducible apply Ext.drewN) | (with_reducible apply Ext.alloc)))))) q0_1, Ext.cell (Ext.trans X8.out (by (focus (repeat (first | (with_reducible exact Ext.refl _) | (with_reducible apply Ext.drew) | (with_reducible apply Ext.drewN) | (with_reducible apply Ext.alloc)))))) q0_2, Ext.cell (Ext.trans X8.out (by (focus (repeat (first | (with_reducible exact Ext.refl _) | (with_reducible apply Ext.drew) | (with_reducible apply Ext.drewN) | (with_reducible apply Ext.alloc)))))) q0_3⟩) ?_
                  clear hK K; try simp only [Act.put, List.getElem_toArray, List.getElem_cons_zero, List.getElem_cons_succ, List.setIfInBounds_toArray, List.set_cons_zero, List.set_cons_succ]
                  refine anyL_ready (rs := [18]) (by kernel_rfl) (by simp) ?_
                  refine AllL.cons rfl (fun K hK => ?_) AllL.nil
                  go_simp
                  refine hK.out _ _ (fun h => absurd rfl h) ?_
                  clear hK K; try simp only [Act.put, List.getElem_toArray, List.getElem_cons_zero, List.getElem_cons_succ, List.setIfInBounds_toArray, List.set_cons_zero, List.set_cons_succ]
                  refine anyL_done (by kernel_rfl) ?_ _
                  go_wp2_with fail
                  all_goals
                    go_roundg (n - (k + 1))
                    case measure => have := Hgk.out; omega
                    case rel => exact ⟨k + 1, insAt hl D A, fl, _, fa, fn, fc, by omega, by go_num, rfl, by omega, Lib.hid ⟨G.out.1, HN⟩⟩
              · as_aux_lemma =>
                go_simp
                refine hK.out _ _ (fun _ => ⟨Ext.cell (by (focus (repeat (first | (with_reducible exact Ext.refl _) | (with_reducible apply Ext.drew) | (with_reducible apply Ext.drewN) | (with_reducible apply Ext.alloc))))) q0_1, Ext.cell (by (focus (repeat (first | (with_reducible exact Ext.refl _) | (with_reducible apply Ext.drew) | (with_reducible apply Ext.drewN) | (with_reducible apply Ext.alloc))))) q0_2, Ext.cell (by (focus (repeat (first | (with_reducible exact Ext.refl _) | (with_reducible apply Ext.drew) | (with_reducible apply Ext.drewN) | (with_reducible apply Ext.alloc))))) q0_3⟩) ?_
                clear hK K; try simp only [Act.put, List.getElem_toArray, List.getElem_cons_zero, List.getElem_cons_succ, List.setIfInBounds_toArray, List.set_cons_zero, List.set_cons_succ]
                refine anyL_ready (rs := [0]) (by kernel_rfl) (by simp) ?_
                refine AllL.cons rfl (fun K hK => ?_) AllL.nil
                go_simp
                refine hK.out _ _ (fun _ => ⟨Ext.cell (by (focus (repeat (first | (with_reducible exact Ext.refl _) | (with_reducible apply Ext.drew) | (with_reducible apply Ext.drewN) | (with_reducible apply Ext.alloc))))) q0_1, Ext.cell (by (focus (repeat (first | (with_reducible exact Ext.refl _) | (with_reducible apply Ext.drew) | (with_reducible apply Ext.drewN) | (with_reducible apply Ext.alloc))))) q0_2, Ext.cell (by (focus (repeat (first | (with_reducible exact Ext.refl _) | (with_reducible apply Ext.drew) | (with_reducible apply Ext.drewN) | (with_reducible apply Ext.alloc))))) q0_3⟩) ?_
                clear hK K; try simp only [Act.put, List.getElem_toArray, List.getElem_cons_zero, List.getElem_cons_succ, List.setIfInBounds_toArray, List.set_cons_zero, List.set_cons_succ]
                refine anyL_ready (rs := [5]) (by kernel_rfl) (by simp) ?_
                refine AllL.cons rfl (fun K hK => ?_) AllL.nil
                have HOL := Lib.hid (show ((wq.alloc (Obj.cells #[.int .u8 A.y, .int .i64 A.n] 41)).alloc (Obj.cells #[] 41)).ownsRow wq.heap.size 41 2 (.slice (some ⟨wq.heap.size + 1, 0, none⟩) 0 0) 0 ([] : List (List Value)).flatten by have h1 := own_lit (wq.alloc (Obj.cells #[.int .u8 A.y, .int .i64 A.n] 41)) wq.heap.size (Ext.size (by (focus (repeat (first | (with_reducible exact Ext.refl _) | (with_reducible apply Ext.drew) | (with_reducible apply Ext.drewN) | (with_reducible apply Ext.alloc)))))) 41 2; simpa using h1)
                refine step_app ekN (by rfl) _ _ (by rfl) wq.heap.size _ 0 [] (by rfl) (own_extk HOL.out (by (focus (repeat (first | (with_reducible exact Ext.refl _) | (with_reducible apply Ext.drew) | (with_reducible apply Ext.drewN) | (with_reducible apply Ext.alloc)))))) _ vc ((hl.take D).map Nm.cs) (by rfl) (HTk.out _ (by (focus (repeat (first | (with_reducible exact Ext.refl _) | (with_reducible apply Ext.drew) | (with_reducible apply Ext.drewN) | (with_reducible apply Ext.alloc)))))) (Ks.nm _) (by simp; omega) (by simp; omega) (Ext.size (by (focus (repeat (first | (with_reducible exact Ext.refl _) | (with_reducible apply Ext.drew) | (with_reducible apply Ext.drewN) | (with_reducible apply Ext.alloc)))))) ?_
                intro v6 w6 hown hgr hat
                have hown' : w6.ownsRow wq.heap.size 41 2 v6 D ((hl.take D).map Nm.cs).flatten := by rw [List.nil_append, List.length_map, List.length_take, Nat.min_eq_left (by have := Hm.out; omega), Nat.zero_add] at hown; exact hown
                have X6 : Hid (Ext wq w6) := Lib.hid (Ext.grown (by (focus (repeat (first | (with_reducible exact Ext.refl _) | (with_reducible apply Ext.drew) | (with_reducible apply Ext.drewN) | (with_reducible apply Ext.alloc))))) hgr fun g hg => by cases hg; (first | exact Nat.le_refl _ | exact Nat.le_succ _))
                have HL6 : Hid (BN w6 wq.heap.size A) := Lib.hid (by
                  refine BN.grown ?_ hgr (fun e => by have h1 : wq.heap.size + 1 = wq.heap.size := Option.some.inj e; omega)
                  exact BN.ext (BN.new wq A) (by (focus (repeat (first | (with_reducible exact Ext.refl _) | (with_reducible apply Ext.drew) | (with_reducible apply Ext.drewN) | (with_reducible apply Ext.alloc))))))
                have HO6 := Lib.hid hown'
                clear hown hgr hat hown' HOL
                refine hK.out _ _ (fun _ => ⟨Ext.cell (Ext.trans X6.out (by (focus (repeat (first | (with_reducible exact Ext.refl _) | (with_reducible apply Ext.drew) | (with_reducible apply Ext.drewN) | (with_reducible apply Ext.alloc)))))) q0_1, Ext.cell (Ext.trans X6.out (by (focus (repeat (first | (with_reducible exact Ext.refl _) | (with_reducible apply Ext.drew) | (with_reducible apply Ext.drewN) | (with_reducible apply Ext.alloc)))))) q0_2, Ext.cell (Ext.trans X6.out (by (focus (repeat (first | (with_reducible exact Ext.refl _) | (with_reducible apply Ext.drew) | (with_reducible apply Ext.drewN) | (with_reducible apply Ext.alloc)))))) q0_3⟩) ?_
                clear hK K; try simp only [Act.put, List.getElem_toArray, List.getElem_cons_zero, List.getElem_cons_succ, List.setIfInBounds_toArray, List.set_cons_zero, List.set_cons_succ]
                refine anyL_ready (rs := [11]) (by kernel_rfl) (by simp) ?_
                refine AllL.cons rfl (fun K hK => ?_) AllL.nil
                refine step_app ekN (by rfl) _ _ (by rfl) wq.heap.size _ D ((hl.take D).map Nm.cs) (by rfl) (own_extk HO6.out (by (focus (repeat (first | (with_reducible exact Ext.refl _) | (with_reducible apply Ext.drew) | (with_reducible apply Ext.drewN) | (with_reducible apply Ext.alloc)))))) _ 1 [Nm.cs A] (by rfl) (CK.of_blk HL6.out (Ks.nm [A]) rfl (Nat.le_refl _) (by omega) rfl) (Ks.nm [A]) (by simp; omega) (by simp; omega) (Nat.le_trans (Ext.size X6.out) (Ext.size (by (focus (repeat (first | (with_reducible exact Ext.refl _) | (with_reducible apply Ext.drew) | (with_reducible apply Ext.drewN) | (with_reducible apply Ext.alloc))))))) ?_
                intro v7 w7 hown hgr hat
                have X7 : Hid (Ext wq w7) := Lib.hid (Ext.grown (Ext.trans X6.out (by (focus (repeat (first | (with_reducible exact Ext.refl _) | (with_reducible apply Ext.drew) | (with_reducible apply Ext.drewN) | (with_reducible apply Ext.alloc)))))) hgr fun g hg => (HO6.out.lt g hg).1)
                have HO7 : Hid (w7.ownsRow wq.heap.size 41 2 v7 (D + 1) ((hl.take D ++ [A]).map Nm.cs).flatten) := Lib.hid (by rw [List.map_append]; exact hown)
                clear hown hgr hat
                refine hK.out _ _ (fun _ => ⟨Ext.cell (Ext.trans X7.out (by (focus (repeat (first | (with_reducible exact Ext.refl _) | (with_reducible apply Ext.drew) | (with_reducible apply Ext.drewN) | (with_reducible apply Ext.alloc)))))) q0_1, Ext.cell (Ext.trans X7.out (by (focus (repeat (first | (with_reducible exact Ext.refl _) | (with_reducible apply Ext.drew) | (with_reducible apply Ext.drewN) | (with_reducible apply Ext.alloc)))))) q0_2, Ext.cell (Ext.trans X7.out (by (focus (repeat (first | (with_reducible exact Ext.refl _) | (with_reducible apply Ext.drew) | (with_reducible apply Ext.drewN) | (with_reducible apply Ext.alloc)))))) q0_3⟩) ?_
                clear hK K; try simp only [Act.put, List.getElem_toArray, List.getElem_cons_zero, List.getElem_cons_succ, List.setIfInBounds_toArray, List.set_cons_zero, List.set_cons_succ]
                refine anyL_ready (rs := [16]) (by kernel_rfl) (by simp) ?_
                refine AllL.cons rfl (fun K hK => ?_) AllL.nil
                refine step_app ekN (by rfl) _ _ (by rfl) wq.heap.size _ (D + 1) ((hl.take D ++ [A]).map Nm.cs) (by rfl) HO7.out _ (vc - D) ((hl.drop D).map Nm.cs) (by rfl) (HDr.out _ X7.out) (Ks.nm _) (by have := Hm.out; simp; omega) (by have := Hm.out; simp; omega) (Ext.size X7.out) ?_
                intro v8 w8 hown hgr hat
                have X8 : Hid (Ext wq w8) := Lib.hid (Ext.grown X7.out hgr fun g hg => (HO7.out.lt g hg).1)
                have hown8 : w8.ownsRow wq.heap.size 41 2 v8 (m + 1) ((hl.take D ++ [A] ++ hl.drop D).map Nm.cs).flatten := by rw [← List.map_append, List.length_map, List.length_drop, ← Hm.out] at hown; rw [show m + 1 = D + 1 + (m - D) by omega]; exact hown
                obtain ⟨a8, c8, rfl, _⟩ := own_slice hown8
                have HN := HNx.out _ w8 X8.out hown8
                clear hown8
                have p0 := (HO3.out.b.ext X8.out).c2; have p1 := (HO3.out.b.ext X8.out).fr 2
                clear hown hgr hat
                refine hK.out _ _ (fun _ => ⟨Ext.cell (Ext.trans X8.out (by (focus (repeat (first | (with_reducible exact Ext.refl _) | (with_reducible apply Ext.drew) | (with_reducible apply Ext.drewN) | (with_reducible apply Ext.alloc)))))) q0_1, Ext.cell (Ext.trans X8.out (by (focus (repeat (first | (with_reducible exact Ext.refl _) | (with_reducible apply Ext.drew) | (with_reducible apply Ext.drewN) | (with_reducible apply Ext.alloc)))))) q0_2, Ext.cell (Ext.trans X8.out (by (focus (repeat (first | (with_reducible exact Ext.refl _) | (with_reducible apply Ext.drew) | (with_reducible apply Ext.drewN) | (with_reducible apply Ext.alloc)))))) q0_3⟩) ?_
                clear hK K; try simp only [Act.put, List.getElem_toArray, List.getElem_cons_zero, List.getElem_cons_succ, List.setIfInBounds_toArray, List.set_cons_zero, List.set_cons_succ]
                refine anyL_ready (rs := [17]) (by kernel_rfl) (by simp) ?_
                refine AllL.cons rfl (fun K hK => ?_) AllL.nil
                go_simp
                refine hK.out _ _ (fun _ => ⟨Ext.cell (Ext.trans X8.out (by (focus (repeat (first | (with_reducible exact Ext.refl _) | (with_reducible apply Ext.drew) | (with_reducible apply Ext.drewN) | (with_reducible apply Ext.alloc)))))) q0_1, Ext.cell (Ext.trans X8.out (by (focus (repeat (first | (with_reducible exact Ext.refl _) | (with_reducible apply Ext.drew) | (with_reducible apply Ext.drewN) | (with_reducible apply Ext.alloc)))))) q0_2, Ext.cell (Ext.trans X8.out (by (focus (repeat (first | (with_reducible exact Ext.refl _) | (with_reducible apply Ext.drew) | (with_reducible apply Ext.drewN) | (with_reducible apply Ext.alloc)))))) q0_3⟩) ?_
                clear hK K; try simp only [Act.put, List.getElem_toArray, List.getElem_cons_zero, List.getElem_cons_succ, List.setIfInBounds_toArray, List.set_cons_zero, List.set_cons_succ]
                refine anyL_ready (rs := [18]) (by kernel_rfl) (by simp) ?_
                refine AllL.cons rfl (fun K hK => ?_) AllL.nil
                go_simp
                refine hK.out _ _ (fun h => absurd rfl h) ?_
                clear hK K; try simp only [Act.put, List.getElem_toArray, List.getElem_cons_zero, List.getElem_cons_succ, List.setIfInBounds_toArray, List.set_cons_zero, List.set_cons_succ]
                refine anyL_done (by kernel_rfl) ?_ _
                go_wp2_with fail
                all_goals
                  go_roundg (n - (k + 1))
                  case measure => have := Hgk.out; omega
                  case rel => exact ⟨k + 1, insAt hl D A, fl, _, fa, fn, fc, by omega, by go_num, rfl, by omega, Lib.hid ⟨G.out.1, HN⟩⟩
    · as_aux_lemma =>
      have f1 : ¬ (k : Int) < n := by omega
      have hkn' : k = n := by omega
      have hn' : n ≤ 100 := by omega
      have hH := G.out.2.2
      rw [hkn'] at hH
      have HH := Lib.hid hH
      obtain ⟨cf, hNL⟩ := CK.of_own G.out.2.1.f (Ks.nm fl) (by rw [List.length_map]) (by decide)
      have hle := runH_bd x s.t s.made n
      rw [← hH] at hle
      dsimp only at hle
      have HSo := Lib.hid (Sorted_calls (.slice fa fn fc) cf fl wr hNL (by omega))
      obtain ⟨va, vc, rfl, hvc⟩ := own_slice G.out.2.1.h
      obtain ⟨m, hm⟩ : ∃ m, m = hl.length := ⟨_, rfl⟩
      rw [← hm] at G hvc hle
      have m60 : m ≤ 60 := by omega
      have HO := Lib.hid G.out.2.1
      have Hm := Lib.hid hm
      clear hH hNL hkn' hkn hgk hm hle
      go_wp2_with fail
      refine HSo.out.mono ?_
      rintro e w2 ⟨fv', r, rfl, hrp, hrs, hown, hx⟩
      have hr : r = srt fl := srt_eq hrp hrs
      subst hr
      obtain ⟨qa, qc, rfl, _⟩ := own_slice hown
      have HF := Lib.hid hown; have X2 := Lib.hid hx
      have p0 := (HO.out.b.ext hx).c3; have p1 := (HO.out.b.ext hx).fr 3
      have hmk : ∀ w, (Instr.makeSlice 33 (.int .i64 0) (.int .i64 (m : Int))).run Tryd.prog w = .ok (.slice (some ⟨w.heap.size, 0, none⟩) 0 m) (w.alloc (.cells (madeCells #[.int .u8 0, .int .i64 0] (m * 2)) 41)) := fun w => make_k0 ekN (by decide) m (by omega) .i64 .i64 w
      clear hrp hrs hown hx
      go_upto_region 24 with fail
      have HB2 := Lib.hid ((HO.out.b.ext X2.out).put3 (.slice qa (srt fl).length qc))
      obtain ⟨w3, hw3⟩ : ∃ w3, w3 = w2.setCell ⟨w1.heap.size, 3, none⟩ (.slice qa (srt fl).length qc) := ⟨_, rfl⟩
      rw [← hw3]
      have Hw3 := Lib.hid hw3
      rw [← hw3] at HB2
      have HOh := Lib.hid (show w3.ownsRow w1.heap.size 41 2 (.slice va m vc) m (hl.map Nm.cs).flatten by
        have h1 := own_extk HO.out.h X2.out
        rw [← Hm.out] at h1
        rw [hw3]; exact own_set h1 (own_b4 h1 (HO.out.b.ext X2.out) (by decide)) _)
      have Hsz3 := Lib.hid (show w3.heap.size = w2.heap.size by rw [hw3]; simp)
      clear hw3 p0 p1
      obtain ⟨u0, u1, q0_1, u3⟩ := B4.cells HB2.out
      clear u0 u1 u3
      go_cut [] from 123 to 133 (fun wx => ∃ hv', Hid (OX w1 wx g0 (.slice none 0 0) hv' (.slice qa (srt fl).length qc) [] hl (srt fl)))
      case first =>
        refine region_L (L := 8) (S := fun w' => w'.cell? ⟨w1.heap.size, 2, Option.none⟩ = some (.slice va m vc)) (by kernel_rfl) ?_ (fun hHeld => ?_)
        · exact q0_1
        refine anyL_take (i := 0) (v := ?va569_0) rfl (by kernel_rfl) (by kernel_rfl) (by kernel_rfl) (by kernel_rfl) (fun _ _ _ h => h) (Or.inl ⟨by rfl, fun w hSw => ?ti569_0⟩) (by assumption) ?rest569_0
        case ti569_0 => ((try dsimp only at hSw); go_simp; (first | done | with_reducible rfl))
        try simp only [Act.put, List.getElem_toArray, List.getElem_cons_zero, List.getElem_cons_succ, List.setIfInBounds_toArray, List.set_cons_zero, List.set_cons_succ]
        refine anyL_take (i := 1) (v := ?va572_1) rfl (by kernel_rfl) (by kernel_rfl) (by kernel_rfl) (by kernel_rfl) (fun _ _ _ h => h) (Or.inl ⟨by rfl, fun w hSw => ?ti572_1⟩) (by assumption) ?rest572_1
        case ti572_1 => ((try dsimp only at hSw); go_simp; (first | done | with_reducible rfl))
        try simp only [Act.put, List.getElem_toArray, List.getElem_cons_zero, List.getElem_cons_succ, List.setIfInBounds_toArray, List.set_cons_zero, List.set_cons_succ]
        refine anyL_take (i := 2) (v := ?va575_2) rfl (by kernel_rfl) (by kernel_rfl) (by kernel_rfl) (by kernel_rfl) (fun _ _ _ h => h) (Or.inl ⟨by rfl, fun w hSw => ?ti575_2⟩) (by assumption) ?rest575_2
        case ti575_2 => ((try dsimp only at hSw); go_simp; (first | done | with_reducible rfl))
        try simp only [Act.put, List.getElem_toArray, List.getElem_cons_zero, List.getElem_cons_succ, List.setIfInBounds_toArray, List.set_cons_zero, List.set_cons_succ]
        refine anyL_take (i := 4) (v := ?va578_4) rfl (by kernel_rfl) (by kernel_rfl) (by kernel_rfl) (by kernel_rfl) (fun _ _ _ h => h) (Or.inl ⟨by rfl, fun w hSw => ?ti578_4⟩) (by assumption) ?rest578_4
        case ti578_4 => ((try dsimp only at hSw); go_simp; (first | done | with_reducible rfl))
        try simp only [Act.put, List.getElem_toArray, List.getElem_cons_zero, List.getElem_cons_succ, List.setIfInBounds_toArray, List.set_cons_zero, List.set_cons_succ]
        refine anyL_take (i := 5) (v := ?va581_5) rfl (by kernel_rfl) (by kernel_rfl) (by kernel_rfl) (by kernel_rfl) (fun _ _ _ h => h) (Or.inl ⟨by rfl, fun w hSw => ?ti581_5⟩) (by assumption) ?rest581_5
        case ti581_5 => ((try dsimp only at hSw); go_simp; (first | done | with_reducible rfl))
        try simp only [Act.put, List.getElem_toArray, List.getElem_cons_zero, List.getElem_cons_succ, List.setIfInBounds_toArray, List.set_cons_zero, List.set_cons_succ]
        refine anyL_ready (rs := [3]) (by kernel_rfl) (by simp) ?_
        refine AllL.cons rfl (fun K hK => ?_) AllL.nil
        go_simp
        refine hK.out _ _ (fun _ => Ext.cell (by (focus (repeat (first | (with_reducible exact Ext.refl _) | (with_reducible apply Ext.drew) | (with_reducible apply Ext.drewN) | (with_reducible apply Ext.alloc))))) q0_1) ?_
        clear hK K; try simp only [Act.put, List.getElem_toArray, List.getElem_cons_zero, List.getElem_cons_succ, List.setIfInBounds_toArray, List.set_cons_zero, List.set_cons_succ]
        refine anyL_ready (rs := [6]) (by kernel_rfl) (by simp) ?_
        refine AllL.cons rfl (fun K hK => ?_) AllL.nil
        have HOL : Hid ((w3.alloc (.cells (madeCells #[.int .u8 0, .int .i64 0] (m * 2)) 41)).ownsRow w3.heap.size 41 2 (.slice (some ⟨w3.heap.size, 0, none⟩) 0 m) 0 ([] : List (List Value)).flatten) := Lib.hid (own_made (by unfold maxLen; omega))
        refine step_app ekN (by rfl) _ _ (by rfl) w3.heap.size _ 0 [] (by rfl) (own_extk HOL.out (by (focus (repeat (first | (with_reducible exact Ext.refl _) | (with_reducible apply Ext.drew) | (with_reducible apply Ext.drewN) | (with_reducible apply Ext.alloc)))))) _ vc (hl.map Nm.cs) (by rfl) (CK.ext (own_ck HOh.out Hm.out) (by (focus (repeat (first | (with_reducible exact Ext.refl _) | (with_reducible apply Ext.drew) | (with_reducible apply Ext.drewN) | (with_reducible apply Ext.alloc)))))) (Ks.nm _) (by have := Hm.out; simp; omega) (by have := Hm.out; simp; omega) (Ext.size (by (focus (repeat (first | (with_reducible exact Ext.refl _) | (with_reducible apply Ext.drew) | (with_reducible apply Ext.drewN) | (with_reducible apply Ext.alloc)))))) ?_
        intro v6 w6 hown hgr hat
        have X6 : Hid (Ext w3 w6) := Lib.hid (Ext.grown (by (focus (repeat (first | (with_reducible exact Ext.refl _) | (with_reducible apply Ext.drew) | (with_reducible apply Ext.drewN) | (with_reducible apply Ext.alloc))))) hgr fun g hg => by cases hg; exact Nat.le_refl _)
        have hown6 : w6.ownsRow w2.heap.size 41 2 v6 m (hl.map Nm.cs).flatten := by rw [← Hsz3.out]; rw [List.nil_append, List.length_map, ← Hm.out, Nat.zero_add] at hown; exact hown
        obtain ⟨a6, c6, rfl, _⟩ := own_slice hown6
        have p0 := (HB2.out.ext X6.out).c2; have p1 := (HB2.out.ext X6.out).fr 2
        have HR := Lib.hid (show OX w1 (w6.setCell ⟨w1.heap.size, 2, none⟩ (.slice a6 m c6)) g0 (.slice none 0 0) (.slice a6 m c6) (.slice qa (srt fl).length qc) [] hl (srt fl) from OX.start HO.out X2.out HF.out (by rw [← Hw3.out]; exact X6.out) (by rw [← Hm.out]; exact hown6))
        clear hown hgr hat hown6
        refine hK.out _ _ (fun _ => X6.out.cell q0_1) ?_
        clear hK K; try simp only [Act.put, List.getElem_toArray, List.getElem_cons_zero, List.getElem_cons_succ, List.setIfInBounds_toArray, List.set_cons_zero, List.set_cons_succ]
        refine anyL_ready (rs := [7]) (by kernel_rfl) (by simp) ?_
        refine AllL.cons rfl (fun K hK => ?_) AllL.nil
        go_simp
        refine hK.out _ _ (fun _ => Ext.cell (Ext.trans X6.out (by (focus (repeat (first | (with_reducible exact Ext.refl _) | (with_reducible apply Ext.drew) | (with_reducible apply Ext.drewN) | (with_reducible apply Ext.alloc)))))) q0_1) ?_
        clear hK K; try simp only [Act.put, List.getElem_toArray, List.getElem_cons_zero, List.getElem_cons_succ, List.setIfInBounds_toArray, List.set_cons_zero, List.set_cons_succ]
        refine anyL_ready (rs := [8]) (by kernel_rfl) (by simp) ?_
        refine AllL.cons rfl (fun K hK => ?_) AllL.nil
        go_simp
        refine hK.out _ _ (fun h => absurd rfl h) ?_
        clear hK K; try simp only [Act.put, List.getElem_toArray, List.getElem_cons_zero, List.getElem_cons_succ, List.setIfInBounds_toArray, List.set_cons_zero, List.set_cons_succ]
        refine anyL_done (by kernel_rfl) ?_ _
        go_wp2_with fail
        go_meet
        case rel => exact ⟨_, HR⟩
      case rest =>
        obtain ⟨hv', GX⟩ := hcut
        obtain ⟨w4, hw4⟩ : ∃ w4, w4 = wc := ⟨_, rfl⟩
        subst hw4
        clear q0_1 hmk
        obtain ⟨FV, hFV⟩ : ∃ FV, FV = Value.slice qa (srt fl).length qc := ⟨_, rfl⟩
        rw [← hFV] at GX
        clear hFV
        go_wp2_with fail
        go_loopg [14, 15, 16] cn (fun g iv _ _ wr => ∃ (i : Nat) (cr : List Xg) (cv' : Value), g + i = cn ∧ iv = .int .i64 i ∧ Hid (OX w1 wr g0 cv' hv' FV cr hl (srt fl) ∧ cr = (x.cross.take i).foldl (stepC s.made) [] ∧ (1 < n ∨ i = 0)))
        case atStart => exact ⟨0, [], _, by omega, rfl, Lib.hid ⟨GX.out, rfl, .inr rfl⟩⟩
        case round =>
          obtain ⟨i, cr, cv', hgi, rfl, G4⟩ := hrel
          have Hgi := Lib.hid hgi
          obtain ⟨y0, y1, y2, y3⟩ := B4.cells (HB1.out.ext G4.out.1.x)
          by_cases hin : i < cn ∧ 1 < n
          · obtain ⟨hic, hn1⟩ := hin
            have f2 : (i : Int) < cn := by omega
            have f3 : (1 : Int) < n := by omega
            have f4 : (0 : Int) ≤ i := by omega
            have f5 : (0 : Int) < n := by omega
            clear hgi
            obtain ⟨C, hC⟩ : ∃ C, C = c3 x.cross i := ⟨_, rfl⟩
            obtain ⟨bq, oq, rfl, hq⟩ := Hcat.out i hic
            rw [← hC] at hq
            have hCi : C3.In C := by rw [hC]; exact HI.out.2.2.2 _ (c3_mem (by rw [← Hcn.out]; exact hic))
            obtain ⟨ia, hia⟩ : ∃ ia, ia = C.1.toNat % n := ⟨_, rfl⟩
            obtain ⟨ib, hib⟩ : ∃ ib, ib = C.2.1.toNat % n := ⟨_, rfl⟩
            have hial : ia < n := by rw [hia]; exact Nat.mod_lt _ (by omega)
            have hibl : ib < n := by rw [hib]; exact Nat.mod_lt _ (by omega)
            have z1 : wrap64 C.1 = C.1 := IntWalk.wrap64_in _ ⟨by have := hCi.1; omega, by have := hCi.1; omega⟩
            have z2 : wrap64 C.2.1 = C.2.1 := IntWalk.wrap64_in _ ⟨by have := hCi.2.1; omega, by have := hCi.2.1; omega⟩
            have z3 : C.1.tmod (n : Int) = (ia : Int) := by
              rw [Int.tmod_eq_emod_of_nonneg hCi.1.1, hia]
              have h1 : C.1 = (C.1.toNat : Int) := by have := hCi.1; omega
              conv => lhs; rw [h1]
              rw [← Int.natCast_emod]
            have z4 : C.2.1.tmod (n : Int) = (ib : Int) := by
              rw [Int.tmod_eq_emod_of_nonneg hCi.2.1.1, hib]
              have h1 : C.2.1 = (C.2.1.toNat : Int) := by have := hCi.2.1; omega
              conv => lhs; rw [h1]
              rw [← Int.natCast_emod]
            have z5 : ¬ (n = 0) := by omega
            have z1' : IntKind.i64.wrap C.1 = C.1 := IntWalk.i64_in _ ⟨by have := hCi.1; omega, by have := hCi.1; omega⟩
            have z2' : IntKind.i64.wrap C.2.1 = C.2.1 := IntWalk.i64_in _ ⟨by have := hCi.2.1; omega, by have := hCi.2.1; omega⟩
            have z6 : (ia : Int) < n := by omega
            have z7 : (ib : Int) < n := by omega
            obtain ⟨bm, om, rfl, hAa⟩ := HM.out ia hial
            obtain ⟨b', o', e, hAb⟩ := HM.out ib hibl
            cases e
            obtain ⟨A, hA⟩ : ∃ A, A = ni s.made ia := ⟨_, rfl⟩
            obtain ⟨B, hB⟩ : ∃ B, B = ni s.made ib := ⟨_, rfl⟩
            rw [← hA] at hAa
            rw [← hB] at hAb
            obtain ⟨q0_2, q0_3, q0_8⟩ := hq.ext (X1.out.trans G4.out.1.x)
            obtain ⟨q0_4, q0_5⟩ := hAa.ext G4.out.1.x
            obtain ⟨q0_6, q0_7⟩ := hAb.ext G4.out.1.x
            have HC := Lib.hid (And.intro hC hCi); have HAB := Lib.hid (And.intro (And.intro hA hB) (And.intro hia hib)); have Hq := Lib.hid hq
            clear hC hCi hq hA hB hAa hAb hia hib y0 y1 y2
            go_upto_region 28 with fail
            have q0_1 := y3
            obtain ⟨wo, hwo⟩ : ∃ wo, wo = wr := ⟨_, rfl⟩
            subst hwo
            go_cut [15, 16] from 134 to 196 (fun pa pb wx => ∃ ga gb, pa = .pointer (some ⟨ga, 0, none⟩) ∧ pb = .pointer (some ⟨gb, 0, none⟩) ∧ Hid (Ext wo wx ∧ wo.heap.size ≤ ga ∧ wo.heap.size ≤ gb ∧ ga ≠ gb ∧ BN wx ga A ∧ BN wx gb B))
            case first =>
              refine wp_region_held_drew (S := fun w' => w'.cell? ⟨w.heap.size, 3, Option.none⟩ = some (.slice (some ⟨bq, oq, none⟩) cn cc) ∧ w'.cell? ⟨bq, oq + i * 3, Option.none⟩ = some (.int .u8 C.1) ∧ w'.cell? ⟨bq, oq + i * 3 + 1, Option.none⟩ = some (.int .u8 C.2.1) ∧ w'.cell? ⟨bm, om + ia * 2, Option.none⟩ = some (.int .u8 A.y) ∧ w'.cell? ⟨bm, om + ia * 2 + 1, Option.none⟩ = some (.int .i64 A.n) ∧ w'.cell? ⟨bm, om + ib * 2, Option.none⟩ = some (.int .u8 B.y) ∧ w'.cell? ⟨bm, om + ib * 2 + 1, Option.none⟩ = some (.int .i64 B.n)) (by kernel_rfl) ?_ (fun hHeld => ?_)
              · exact ⟨q0_1, q0_2, q0_3, q0_4, q0_5, q0_6, q0_7⟩
              refine wpAnyH_take (i := 0) (v := ?va683_0) rfl (by kernel_rfl) (by kernel_rfl) (by kernel_rfl) (fun _ _ _ h => h) (Or.inl ⟨by rfl, fun w hSw => ?ti683_0⟩) (by assumption) ?rest683_0
              case ti683_0 => ((try dsimp only at hSw); go_simp; (first | done | with_reducible rfl))
              try simp only [Act.put, List.getElem_toArray, List.getElem_cons_zero, List.getElem_cons_succ, List.setIfInBounds_toArray, List.set_cons_zero, List.set_cons_succ]
              refine wpAnyH_take (i := 1) (v := ?va686_1) rfl (by kernel_rfl) (by kernel_rfl) (by kernel_rfl) (fun _ _ _ h => h) (Or.inl ⟨by rfl, fun w hSw => ?ti686_1⟩) (by assumption) ?rest686_1
              case ti686_1 => ((try dsimp only at hSw); go_simp; (first | done | with_reducible rfl))
              try simp only [Act.put, List.getElem_toArray, List.getElem_cons_zero, List.getElem_cons_succ, List.setIfInBounds_toArray, List.set_cons_zero, List.set_cons_succ]
              refine wpAnyH_take (i := 2) (v := ?va689_2) rfl (by kernel_rfl) (by kernel_rfl) (by kernel_rfl) (fun _ _ _ h => h) (Or.inl ⟨by rfl, fun w hSw => ?ti689_2⟩) (by assumption) ?rest689_2
              case ti689_2 => ((try dsimp only at hSw); go_simp; (first | done | with_reducible rfl))
              try simp only [Act.put, List.getElem_toArray, List.getElem_cons_zero, List.getElem_cons_succ, List.setIfInBounds_toArray, List.set_cons_zero, List.set_cons_succ]
              refine wpAnyH_take (i := 3) (v := ?va692_3) rfl (by kernel_rfl) (by kernel_rfl) (by kernel_rfl) (fun _ _ _ h => h) (Or.inl ⟨by rfl, fun w hSw => ?ti692_3⟩) (by assumption) ?rest692_3
              case ti692_3 => ((try dsimp only at hSw); go_simp; (first | done | with_reducible rfl))
              try simp only [Act.put, List.getElem_toArray, List.getElem_cons_zero, List.getElem_cons_succ, List.setIfInBounds_toArray, List.set_cons_zero, List.set_cons_succ]
              refine wpAnyH_take (i := 4) (v := ?va695_4) rfl (by kernel_rfl) (by kernel_rfl) (by kernel_rfl) (fun _ _ _ h => h) (Or.inl ⟨by rfl, fun w hSw => ?ti695_4⟩) (by assumption) ?rest695_4
              case ti695_4 => ((try dsimp only at hSw); go_simp; (first | done | with_reducible rfl))
              try simp only [Act.put, List.getElem_toArray, List.getElem_cons_zero, List.getElem_cons_succ, List.setIfInBounds_toArray, List.set_cons_zero, List.set_cons_succ]
              refine wpAnyH_take (i := 5) (v := ?va698_5) rfl (by kernel_rfl) (by kernel_rfl) (by kernel_rfl) (fun _ _ _ h => h) (Or.inl ⟨by rfl, fun w hSw => ?ti698_5⟩) (by assumption) ?rest698_5
              case ti698_5 => ((try dsimp only at hSw); go_simp; (first | done | with_reducible rfl))
              try simp only [Act.put, List.getElem_toArray, List.getElem_cons_zero, List.getElem_cons_succ, List.setIfInBounds_toArray, List.set_cons_zero, List.set_cons_succ]
              refine wpAnyH_take (i := 6) (v := ?va701_6) rfl (by kernel_rfl) (by kernel_rfl) (by kernel_rfl) (fun _ _ _ h => h) (Or.inl ⟨by rfl, fun w hSw => ?ti701_6⟩) (by assumption) ?rest701_6
              case ti701_6 => ((try dsimp only at hSw); go_simp; (first | done | with_reducible rfl))
              try simp only [Act.put, List.getElem_toArray, List.getElem_cons_zero, List.getElem_cons_succ, List.setIfInBounds_toArray, List.set_cons_zero, List.set_cons_succ]
              refine wpAnyH_take (i := 7) (v := ?va704_7) rfl (by kernel_rfl) (by kernel_rfl) (by kernel_rfl) (fun _ _ _ h => h) (Or.inl ⟨by rfl, fun w hSw => ?ti704_7⟩) (by assumption) ?rest704_7
              case ti704_7 => ((try dsimp only at hSw); go_simp; (first | done | with_reducible rfl))
              try simp only [Act.put, List.getElem_toArray, List.getElem_cons_zero, List.getElem_cons_succ, List.setIfInBounds_toArray, List.set_cons_zero, List.set_cons_succ]
              refine wpAnyH_take (i := 8) (v := ?va707_8) rfl (by kernel_rfl) (by kernel_rfl) (by kernel_rfl) (fun _ _ _ h => h) (Or.inl ⟨by rfl, fun w hSw => ?ti707_8⟩) (by assumption) ?rest707_8
              case ti707_8 => ((try dsimp only at hSw); go_simp; (first | done | with_reducible rfl))
              try simp only [Act.put, List.getElem_toArray, List.getElem_cons_zero, List.getElem_cons_succ, List.setIfInBounds_toArray, List.set_cons_zero, List.set_cons_succ]
              refine wpAnyH_take (i := 9) (v := ?va710_9) rfl (by kernel_rfl) (by kernel_rfl) (by kernel_rfl) (fun _ _ _ h => h) (Or.inl ⟨by rfl, fun w hSw => ?ti710_9⟩) (by assumption) ?rest710_9
              case ti710_9 => ((try dsimp only at hSw); go_simp; (first | done | with_reducible rfl))
              try simp only [Act.put, List.getElem_toArray, List.getElem_cons_zero, List.getElem_cons_succ, List.setIfInBounds_toArray, List.set_cons_zero, List.set_cons_succ]
              refine wpAnyH_take (i := 10) (v := ?va713_10) rfl (by kernel_rfl) (by kernel_rfl) (by kernel_rfl) (fun _ _ _ h => h) (Or.inl ⟨by rfl, fun w hSw => ?ti713_10⟩) (by assumption) ?rest713_10
              case ti713_10 => ((try dsimp only at hSw); go_simp; (first | done | with_reducible rfl))
              try simp only [Act.put, List.getElem_toArray, List.getElem_cons_zero, List.getElem_cons_succ, List.setIfInBounds_toArray, List.set_cons_zero, List.set_cons_succ]
              refine wpAnyH_take (i := 11) (v := ?va716_11) rfl (by kernel_rfl) (by kernel_rfl) (by kernel_rfl) (fun _ _ _ h => h) (Or.inl ⟨by rfl, fun w hSw => ?ti716_11⟩) (by assumption) ?rest716_11
              case ti716_11 => ((try dsimp only at hSw); go_simp; (first | done | with_reducible rfl))
              try simp only [Act.put, List.getElem_toArray, List.getElem_cons_zero, List.getElem_cons_succ, List.setIfInBounds_toArray, List.set_cons_zero, List.set_cons_succ]
              refine wpAnyH_take (i := 12) (v := ?va719_12) rfl (by kernel_rfl) (by kernel_rfl) (by kernel_rfl) (fun _ _ _ h => h) (Or.inl ⟨by rfl, fun w hSw => ?ti719_12⟩) (by assumption) ?rest719_12
              case ti719_12 => ((try dsimp only at hSw); go_simp; (first | done | with_reducible rfl))
              try simp only [Act.put, List.getElem_toArray, List.getElem_cons_zero, List.getElem_cons_succ, List.setIfInBounds_toArray, List.set_cons_zero, List.set_cons_succ]
              refine wpAnyH_take (i := 13) (v := ?va722_13) rfl (by kernel_rfl) (by kernel_rfl) (by kernel_rfl) (fun _ _ _ h => h) (Or.inl ⟨by rfl, fun w hSw => ?ti722_13⟩) (by assumption) ?rest722_13
              case ti722_13 => ((try dsimp only at hSw); go_simp; (first | done | with_reducible rfl))
              try simp only [Act.put, List.getElem_toArray, List.getElem_cons_zero, List.getElem_cons_succ, List.setIfInBounds_toArray, List.set_cons_zero, List.set_cons_succ]
              refine wpAnyH_take (i := 14) (v := ?va725_14) rfl (by kernel_rfl) (by kernel_rfl) (by kernel_rfl) (fun _ _ _ h => h) (Or.inl ⟨by rfl, fun w hSw => ?ti725_14⟩) (by assumption) ?rest725_14
              case ti725_14 => ((try dsimp only at hSw); go_simp; (first | done | with_reducible rfl))
              try simp only [Act.put, List.getElem_toArray, List.getElem_cons_zero, List.getElem_cons_succ, List.setIfInBounds_toArray, List.set_cons_zero, List.set_cons_succ]
              refine wpAnyH_take (i := 15) (v := ?va728_15) rfl (by kernel_rfl) (by kernel_rfl) (by kernel_rfl) (fun _ _ _ h => h) (Or.inl ⟨by rfl, fun w hSw => ?ti728_15⟩) (by assumption) ?rest728_15
              case ti728_15 => ((try dsimp only at hSw); go_simp; (first | done | with_reducible rfl))
              try simp only [Act.put, List.getElem_toArray, List.getElem_cons_zero, List.getElem_cons_succ, List.setIfInBounds_toArray, List.set_cons_zero, List.set_cons_succ]
              refine wpAnyH_take (i := 16) (v := ?va731_16) rfl (by kernel_rfl) (by kernel_rfl) (by kernel_rfl) (fun _ _ _ h => h) (Or.inl ⟨by rfl, fun w hSw => ?ti731_16⟩) (by assumption) ?rest731_16
              case ti731_16 => ((try dsimp only at hSw); go_simp; (first | done | with_reducible rfl))
              try simp only [Act.put, List.getElem_toArray, List.getElem_cons_zero, List.getElem_cons_succ, List.setIfInBounds_toArray, List.set_cons_zero, List.set_cons_succ]
              refine wpAnyH_take (i := 17) (v := ?va734_17) rfl (by kernel_rfl) (by kernel_rfl) (by kernel_rfl) (fun _ _ _ h => h) (Or.inl ⟨by rfl, fun w hSw => ?ti734_17⟩) (by assumption) ?rest734_17
              case ti734_17 => ((try dsimp only at hSw); go_simp; (first | done | with_reducible rfl))
              try simp only [Act.put, List.getElem_toArray, List.getElem_cons_zero, List.getElem_cons_succ, List.setIfInBounds_toArray, List.set_cons_zero, List.set_cons_succ]
              refine wpAnyH_take (i := 18) (v := ?va737_18) rfl (by kernel_rfl) (by kernel_rfl) (by kernel_rfl) (fun _ _ _ h => h) (Or.inl ⟨by rfl, fun w hSw => ?ti737_18⟩) (by assumption) ?rest737_18
              case ti737_18 => ((try dsimp only at hSw); go_simp; (first | done | with_reducible rfl))
              try simp only [Act.put, List.getElem_toArray, List.getElem_cons_zero, List.getElem_cons_succ, List.setIfInBounds_toArray, List.set_cons_zero, List.set_cons_succ]
              refine wpAnyH_take (i := 19) (v := ?va740_19) rfl (by kernel_rfl) (by kernel_rfl) (by kernel_rfl) (fun _ _ _ h => h) (Or.inl ⟨by rfl, fun w hSw => ?ti740_19⟩) (by assumption) ?rest740_19
              case ti740_19 => ((try dsimp only at hSw); go_simp; (first | done | with_reducible rfl))
              try simp only [Act.put, List.getElem_toArray, List.getElem_cons_zero, List.getElem_cons_succ, List.setIfInBounds_toArray, List.set_cons_zero, List.set_cons_succ]
              refine wpAnyH_take (i := 20) (v := ?va743_20) rfl (by kernel_rfl) (by kernel_rfl) (by kernel_rfl) (fun _ _ _ h => h) (Or.inl ⟨by rfl, fun w hSw => ?ti743_20⟩) (by assumption) ?rest743_20
              case ti743_20 => ((try dsimp only at hSw); go_simp; (first | done | with_reducible rfl))
              try simp only [Act.put, List.getElem_toArray, List.getElem_cons_zero, List.getElem_cons_succ, List.setIfInBounds_toArray, List.set_cons_zero, List.set_cons_succ]
              refine wpAnyH_take (i := 21) (v := ?va746_21) rfl (by kernel_rfl) (by kernel_rfl) (by kernel_rfl) (fun _ _ _ h => h) (Or.inl ⟨by rfl, fun w hSw => ?ti746_21⟩) (by assumption) ?rest746_21
              case ti746_21 => ((try dsimp only at hSw); go_simp; (first | done | with_reducible rfl))
              try simp only [Act.put, List.getElem_toArray, List.getElem_cons_zero, List.getElem_cons_succ, List.setIfInBounds_toArray, List.set_cons_zero, List.set_cons_succ]
              refine wpAnyH_take (i := 22) (v := ?va749_22) rfl (by kernel_rfl) (by kernel_rfl) (by kernel_rfl) (fun _ _ _ h => h) (Or.inl ⟨by rfl, fun w hSw => ?ti749_22⟩) (by assumption) ?rest749_22
              case ti749_22 => ((try dsimp only at hSw); go_simp; (first | done | with_reducible rfl))
              try simp only [Act.put, List.getElem_toArray, List.getElem_cons_zero, List.getElem_cons_succ, List.setIfInBounds_toArray, List.set_cons_zero, List.set_cons_succ]
              refine wpAnyH_take (i := 23) (v := ?va752_23) rfl (by kernel_rfl) (by kernel_rfl) (by kernel_rfl) (fun _ _ _ h => h) (Or.inl ⟨by rfl, fun w hSw => ?ti752_23⟩) (by assumption) ?rest752_23
              case ti752_23 => ((try dsimp only at hSw); go_simp; (first | done | with_reducible rfl))
              try simp only [Act.put, List.getElem_toArray, List.getElem_cons_zero, List.getElem_cons_succ, List.setIfInBounds_toArray, List.set_cons_zero, List.set_cons_succ]
              refine wpAnyH_take (i := 24) (v := ?va755_24) rfl (by kernel_rfl) (by kernel_rfl) (by kernel_rfl) (fun _ _ _ h => h) (Or.inl ⟨by rfl, fun w hSw => ?ti755_24⟩) (by assumption) ?rest755_24
              case ti755_24 => ((try dsimp only at hSw); go_simp; (first | done | with_reducible rfl))
              try simp only [Act.put, List.getElem_toArray, List.getElem_cons_zero, List.getElem_cons_succ, List.setIfInBounds_toArray, List.set_cons_zero, List.set_cons_succ]
              refine wpAnyH_take (i := 25) (v := ?va758_25) rfl (by kernel_rfl) (by kernel_rfl) (by kernel_rfl) (fun _ _ _ h => h) (Or.inl ⟨by rfl, fun w hSw => ?ti758_25⟩) (by assumption) ?rest758_25
              case ti758_25 => ((try dsimp only at hSw); go_simp; (first | done | with_reducible rfl))
              try simp only [Act.put, List.getElem_toArray, List.getElem_cons_zero, List.getElem_cons_succ, List.setIfInBounds_toArray, List.set_cons_zero, List.set_cons_succ]
              refine wpAnyH_ready (rs := [26, 27]) (by kernel_rfl) (by simp) ?_
              refine AllReadyH.cons rfl (fun K hK => ?_) (AllReadyH.cons rfl (fun K hK => ?_) AllReadyH.nil)
              · as_aux_lemma =>
                go_simp
                refine hK.out _ _ ⟨Ext.cell (by (focus (repeat (first | (with_reducible exact Ext.refl _) | (with_reducible apply Ext.drew) | (with_reducible apply Ext.drewN) | (with_reducible apply Ext.alloc))))) q0_1, Ext.cell (by (focus (repeat (first | (with_reducible exact Ext.refl _) | (with_reducible apply Ext.drew) | (with_reducible apply Ext.drewN) | (with_reducible apply Ext.alloc))))) q0_2, Ext.cell (by (focus (repeat (first | (with_reducible exact Ext.refl _) | (with_reducible apply Ext.drew) | (with_reducible apply Ext.drewN) | (with_reducible apply Ext.alloc))))) q0_3, Ext.cell (by (focus (repeat (first | (with_reducible exact Ext.refl _) | (with_reducible apply Ext.drew) | (with_reducible apply Ext.drewN) | (with_reducible apply Ext.alloc))))) q0_4, Ext.cell (by (focus (repeat (first | (with_reducible exact Ext.refl _) | (with_reducible apply Ext.drew) | (with_reducible apply Ext.drewN) | (with_reducible apply Ext.alloc))))) q0_5, Ext.cell (by (focus (repeat (first | (with_reducible exact Ext.refl _) | (with_reducible apply Ext.drew) | (with_reducible apply Ext.drewN) | (with_reducible apply Ext.alloc))))) q0_6, Ext.cell (by (focus (repeat (first | (with_reducible exact Ext.refl _) | (with_reducible apply Ext.drew) | (with_reducible apply Ext.drewN) | (with_reducible apply Ext.alloc))))) q0_7⟩ (fun hHeld => ?_)
                clear hK K; try simp only [Act.put, List.getElem_toArray, List.getElem_cons_zero, List.getElem_cons_succ, List.setIfInBounds_toArray, List.set_cons_zero, List.set_cons_succ]
                refine wpAnyH_ready (rs := [27]) (by kernel_rfl) (by simp) ?_
                refine AllReadyH.cons rfl (fun K hK => ?_) AllReadyH.nil
                go_simp
                refine hK.out _ _ ⟨Ext.cell (by (focus (repeat (first | (with_reducible exact Ext.refl _) | (with_reducible apply Ext.drew) | (with_reducible apply Ext.drewN) | (with_reducible apply Ext.alloc))))) q0_1, Ext.cell (by (focus (repeat (first | (with_reducible exact Ext.refl _) | (with_reducible apply Ext.drew) | (with_reducible apply Ext.drewN) | (with_reducible apply Ext.alloc))))) q0_2, Ext.cell (by (focus (repeat (first | (with_reducible exact Ext.refl _) | (with_reducible apply Ext.drew) | (with_reducible apply Ext.drewN) | (with_reducible apply Ext.alloc))))) q0_3, Ext.cell (by (focus (repeat (first | (with_reducible exact Ext.refl _) | (with_reducible apply Ext.drew) | (with_reducible apply Ext.drewN) | (with_reducible apply Ext.alloc))))) q0_4, Ext.cell (by (focus (repeat (first | (with_reducible exact Ext.refl _) | (with_reducible apply Ext.drew) | (with_reducible apply Ext.drewN) | (with_reducible apply Ext.alloc))))) q0_5, Ext.cell (by (focus (repeat (first | (with_reducible exact Ext.refl _) | (with_reducible apply Ext.drew) | (with_reducible apply Ext.drewN) | (with_reducible apply Ext.alloc))))) q0_6, Ext.cell (by (focus (repeat (first | (with_reducible exact Ext.refl _) | (with_reducible apply Ext.drew) | (with_reducible apply Ext.drewN) | (with_reducible apply Ext.alloc))))) q0_7⟩ (fun hHeld => ?_)
                clear hK K; try simp only [Act.put, List.getElem_toArray, List.getElem_cons_zero, List.getElem_cons_succ, List.setIfInBounds_toArray, List.set_cons_zero, List.set_cons_succ]
                refine wpAnyH_ready (rs := [28]) (by kernel_rfl) (by simp) ?_
                refine AllReadyH.cons rfl (fun K hK => ?_) AllReadyH.nil
                go_simp
                refine hK.out _ _ ⟨Ext.cell (by (focus (repeat (first | (with_reducible exact Ext.refl _) | (with_reducible apply Ext.drew) | (with_reducible apply Ext.drewN) | (with_reducible apply Ext.alloc))))) q0_1, Ext.cell (by (focus (repeat (first | (with_reducible exact Ext.refl _) | (with_reducible apply Ext.drew) | (with_reducible apply Ext.drewN) | (with_reducible apply Ext.alloc))))) q0_2, Ext.cell (by (focus (repeat (first | (with_reducible exact Ext.refl _) | (with_reducible apply Ext.drew) | (with_reducible apply Ext.drewN) | (with_reducible apply Ext.alloc))))) q0_3, Ext.cell (by (focus (repeat (first | (with_reducible exact Ext.refl _) | (with_reducible apply Ext.drew) | (with_reducible apply Ext.drewN) | (with_reducible apply Ext.alloc))))) q0_4, Ext.cell (by (focus (repeat (first | (with_reducible exact Ext.refl _) | (with_reducible apply Ext.drew) | (with_reducible apply Ext.drewN) | (with_reducible apply Ext.alloc))))) q0_5, Ext.cell (by (focus (repeat (first | (with_reducible exact Ext.refl _) | (with_reducible apply Ext.drew) | (with_reducible apply Ext.drewN) | (with_reducible apply Ext.alloc))))) q0_6, Ext.cell (by (focus (repeat (first | (with_reducible exact Ext.refl _) | (with_reducible apply Ext.drew) | (with_reducible apply Ext.drewN) | (with_reducible apply Ext.alloc))))) q0_7⟩ (fun hHeld => ?_)
                clear hK K; try simp only [Act.put, List.getElem_toArray, List.getElem_cons_zero, List.getElem_cons_succ, List.setIfInBounds_toArray, List.set_cons_zero, List.set_cons_succ]
                refine wpAnyH_ready (rs := [29]) (by kernel_rfl) (by simp) ?_
                refine AllReadyH.cons rfl (fun K hK => ?_) AllReadyH.nil
                go_simp
                refine hK.out _ _ ⟨Ext.cell (by (focus (repeat (first | (with_reducible exact Ext.refl _) | (with_reducible apply Ext.drew) | (with_reducible apply Ext.drewN) | (with_reducible apply Ext.alloc))))) q0_1, Ext.cell (by (focus (repeat (first | (with_reducible exact Ext.refl _) | (with_reducible apply Ext.drew) | (with_reducible apply Ext.drewN) | (with_reducible apply Ext.alloc))))) q0_2, Ext.cell (by (focus (repeat (first | (with_reducible exact Ext.refl _) | (with_reducible apply Ext.drew) | (with_reducible apply Ext.drewN) | (with_reducible apply Ext.alloc))))) q0_3, Ext.cell (by (focus (repeat (first | (with_reducible exact Ext.refl _) | (with_reducible apply Ext.drew) | (with_reducible apply Ext.drewN) | (with_reducible apply Ext.alloc))))) q0_4, Ext.cell (by (focus (repeat (first | (with_reducible exact Ext.refl _) | (with_reducible apply Ext.drew) | (with_reducible apply Ext.drewN) | (with_reducible apply Ext.alloc))))) q0_5, Ext.cell (by (focus (repeat (first | (with_reducible exact Ext.refl _) | (with_reducible apply Ext.drew) | (with_reducible apply Ext.drewN) | (with_reducible apply Ext.alloc))))) q0_6, Ext.cell (by (focus (repeat (first | (with_reducible exact Ext.refl _) | (with_reducible apply Ext.drew) | (with_reducible apply Ext.drewN) | (with_reducible apply Ext.alloc))))) q0_7⟩ (fun hHeld => ?_)
                clear hK K; try simp only [Act.put, List.getElem_toArray, List.getElem_cons_zero, List.getElem_cons_succ, List.setIfInBounds_toArray, List.set_cons_zero, List.set_cons_succ]
                refine wpAnyH_done (by kernel_rfl) ?_ _
                go_wp2_with fail
                go_meet
                case rel => exact ⟨_, _, rfl, rfl, Lib.hid ⟨by (focus (repeat (first | (with_reducible exact Ext.refl _) | (with_reducible apply Ext.drew) | (with_reducible apply Ext.drewN) | (with_reducible apply Ext.alloc)))), Nat.le_refl _, Nat.le_succ _, by omega, BN.ext (BN.new wo A) (by (focus (repeat (first | (with_reducible exact Ext.refl _) | (with_reducible apply Ext.drew) | (with_reducible apply Ext.drewN) | (with_reducible apply Ext.alloc))))), BN.ext (show BN ((wo.alloc (Obj.cells #[.int .u8 A.y, .int .i64 A.n] 41)).alloc (Obj.cells #[.int .u8 B.y, .int .i64 B.n] 41)) (wo.heap.size + 1) B by have h1 := BN.new (wo.alloc (Obj.cells #[.int .u8 A.y, .int .i64 A.n] 41)) B; simpa using h1) (by (focus (repeat (first | (with_reducible exact Ext.refl _) | (with_reducible apply Ext.drew) | (with_reducible apply Ext.drewN) | (with_reducible apply Ext.alloc)))))⟩⟩
              · as_aux_lemma =>
                go_simp
                refine hK.out _ _ ⟨Ext.cell (by (focus (repeat (first | (with_reducible exact Ext.refl _) | (with_reducible apply Ext.drew) | (with_reducible apply Ext.drewN) | (with_reducible apply Ext.alloc))))) q0_1, Ext.cell (by (focus (repeat (first | (with_reducible exact Ext.refl _) | (with_reducible apply Ext.drew) | (with_reducible apply Ext.drewN) | (with_reducible apply Ext.alloc))))) q0_2, Ext.cell (by (focus (repeat (first | (with_reducible exact Ext.refl _) | (with_reducible apply Ext.drew) | (with_reducible apply Ext.drewN) | (with_reducible apply Ext.alloc))))) q0_3, Ext.cell (by (focus (repeat (first | (with_reducible exact Ext.refl _) | (with_reducible apply Ext.drew) | (with_reducible apply Ext.drewN) | (with_reducible apply Ext.alloc))))) q0_4, Ext.cell (by (focus (repeat (first | (with_reducible exact Ext.refl _) | (with_reducible apply Ext.drew) | (with_reducible apply Ext.drewN) | (with_reducible apply Ext.alloc))))) q0_5, Ext.cell (by (focus (repeat (first | (with_reducible exact Ext.refl _) | (with_reducible apply Ext.drew) | (with_reducible apply Ext.drewN) | (with_reducible apply Ext.alloc))))) q0_6, Ext.cell (by (focus (repeat (first | (with_reducible exact Ext.refl _) | (with_reducible apply Ext.drew) | (with_reducible apply Ext.drewN) | (with_reducible apply Ext.alloc))))) q0_7⟩ (fun hHeld => ?_)
                clear hK K; try simp only [Act.put, List.getElem_toArray, List.getElem_cons_zero, List.getElem_cons_succ, List.setIfInBounds_toArray, List.set_cons_zero, List.set_cons_succ]
                refine wpAnyH_ready (rs := [26]) (by kernel_rfl) (by simp) ?_
                refine AllReadyH.cons rfl (fun K hK => ?_) AllReadyH.nil
                go_simp
                refine hK.out _ _ ⟨Ext.cell (by (focus (repeat (first | (with_reducible exact Ext.refl _) | (with_reducible apply Ext.drew) | (with_reducible apply Ext.drewN) | (with_reducible apply Ext.alloc))))) q0_1, Ext.cell (by (focus (repeat (first | (with_reducible exact Ext.refl _) | (with_reducible apply Ext.drew) | (with_reducible apply Ext.drewN) | (with_reducible apply Ext.alloc))))) q0_2, Ext.cell (by (focus (repeat (first | (with_reducible exact Ext.refl _) | (with_reducible apply Ext.drew) | (with_reducible apply Ext.drewN) | (with_reducible apply Ext.alloc))))) q0_3, Ext.cell (by (focus (repeat (first | (with_reducible exact Ext.refl _) | (with_reducible apply Ext.drew) | (with_reducible apply Ext.drewN) | (with_reducible apply Ext.alloc))))) q0_4, Ext.cell (by (focus (repeat (first | (with_reducible exact Ext.refl _) | (with_reducible apply Ext.drew) | (with_reducible apply Ext.drewN) | (with_reducible apply Ext.alloc))))) q0_5, Ext.cell (by (focus (repeat (first | (with_reducible exact Ext.refl _) | (with_reducible apply Ext.drew) | (with_reducible apply Ext.drewN) | (with_reducible apply Ext.alloc))))) q0_6, Ext.cell (by (focus (repeat (first | (with_reducible exact Ext.refl _) | (with_reducible apply Ext.drew) | (with_reducible apply Ext.drewN) | (with_reducible apply Ext.alloc))))) q0_7⟩ (fun hHeld => ?_)
                clear hK K; try simp only [Act.put, List.getElem_toArray, List.getElem_cons_zero, List.getElem_cons_succ, List.setIfInBounds_toArray, List.set_cons_zero, List.set_cons_succ]
                refine wpAnyH_ready (rs := [28]) (by kernel_rfl) (by simp) ?_
                refine AllReadyH.cons rfl (fun K hK => ?_) AllReadyH.nil
                go_simp
                refine hK.out _ _ ⟨Ext.cell (by (focus (repeat (first | (with_reducible exact Ext.refl _) | (with_reducible apply Ext.drew) | (with_reducible apply Ext.drewN) | (with_reducible apply Ext.alloc))))) q0_1, Ext.cell (by (focus (repeat (first | (with_reducible exact Ext.refl _) | (with_reducible apply Ext.drew) | (with_reducible apply Ext.drewN) | (with_reducible apply Ext.alloc))))) q0_2, Ext.cell (by (focus (repeat (first | (with_reducible exact Ext.refl _) | (with_reducible apply Ext.drew) | (with_reducible apply Ext.drewN) | (with_reducible apply Ext.alloc))))) q0_3, Ext.cell (by (focus (repeat (first | (with_reducible exact Ext.refl _) | (with_reducible apply Ext.drew) | (with_reducible apply Ext.drewN) | (with_reducible apply Ext.alloc))))) q0_4, Ext.cell (by (focus (repeat (first | (with_reducible exact Ext.refl _) | (with_reducible apply Ext.drew) | (with_reducible apply Ext.drewN) | (with_reducible apply Ext.alloc))))) q0_5, Ext.cell (by (focus (repeat (first | (with_reducible exact Ext.refl _) | (with_reducible apply Ext.drew) | (with_reducible apply Ext.drewN) | (with_reducible apply Ext.alloc))))) q0_6, Ext.cell (by (focus (repeat (first | (with_reducible exact Ext.refl _) | (with_reducible apply Ext.drew) | (with_reducible apply Ext.drewN) | (with_reducible apply Ext.alloc))))) q0_7⟩ (fun hHeld => ?_)
                clear hK K; try simp only [Act.put, List.getElem_toArray, List.getElem_cons_zero, List.getElem_cons_succ, List.setIfInBounds_toArray, List.set_cons_zero, List.set_cons_succ]
                refine wpAnyH_ready (rs := [29]) (by kernel_rfl) (by simp) ?_
                refine AllReadyH.cons rfl (fun K hK => ?_) AllReadyH.nil
                go_simp
                refine hK.out _ _ ⟨Ext.cell (by (focus (repeat (first | (with_reducible exact Ext.refl _) | (with_reducible apply Ext.drew) | (with_reducible apply Ext.drewN) | (with_reducible apply Ext.alloc))))) q0_1, Ext.cell (by (focus (repeat (first | (with_reducible exact Ext.refl _) | (with_reducible apply Ext.drew) | (with_reducible apply Ext.drewN) | (with_reducible apply Ext.alloc))))) q0_2, Ext.cell (by (focus (repeat (first | (with_reducible exact Ext.refl _) | (with_reducible apply Ext.drew) | (with_reducible apply Ext.drewN) | (with_reducible apply Ext.alloc))))) q0_3, Ext.cell (by (focus (repeat (first | (with_reducible exact Ext.refl _) | (with_reducible apply Ext.drew) | (with_reducible apply Ext.drewN) | (with_reducible apply Ext.alloc))))) q0_4, Ext.cell (by (focus (repeat (first | (with_reducible exact Ext.refl _) | (with_reducible apply Ext.drew) | (with_reducible apply Ext.drewN) | (with_reducible apply Ext.alloc))))) q0_5, Ext.cell (by (focus (repeat (first | (with_reducible exact Ext.refl _) | (with_reducible apply Ext.drew) | (with_reducible apply Ext.drewN) | (with_reducible apply Ext.alloc))))) q0_6, Ext.cell (by (focus (repeat (first | (with_reducible exact Ext.refl _) | (with_reducible apply Ext.drew) | (with_reducible apply Ext.drewN) | (with_reducible apply Ext.alloc))))) q0_7⟩ (fun hHeld => ?_)
                clear hK K; try simp only [Act.put, List.getElem_toArray, List.getElem_cons_zero, List.getElem_cons_succ, List.setIfInBounds_toArray, List.set_cons_zero, List.set_cons_succ]
                refine wpAnyH_done (by kernel_rfl) ?_ _
                go_wp2_with fail
                go_meet
                case rel => exact ⟨_, _, rfl, rfl, Lib.hid ⟨by (focus (repeat (first | (with_reducible exact Ext.refl _) | (with_reducible apply Ext.drew) | (with_reducible apply Ext.drewN) | (with_reducible apply Ext.alloc)))), Nat.le_succ _, Nat.le_refl _, by omega, BN.ext (show BN ((wo.alloc (Obj.cells #[.int .u8 B.y, .int .i64 B.n] 41)).alloc (Obj.cells #[.int .u8 A.y, .int .i64 A.n] 41)) (wo.heap.size + 1) A by have h1 := BN.new (wo.alloc (Obj.cells #[.int .u8 B.y, .int .i64 B.n] 41)) A; simpa using h1) (by (focus (repeat (first | (with_reducible exact Ext.refl _) | (with_reducible apply Ext.drew) | (with_reducible apply Ext.drewN) | (with_reducible apply Ext.alloc))))), BN.ext (BN.new wo B) (by (focus (repeat (first | (with_reducible exact Ext.refl _) | (with_reducible apply Ext.drew) | (with_reducible apply Ext.drewN) | (with_reducible apply Ext.alloc)))))⟩⟩
            case rest =>
              obtain ⟨ga, gb, rfl, rfl, G5⟩ := hcut
              obtain ⟨w5, hw5⟩ : ∃ w5, w5 = wc := ⟨_, rfl⟩
              subst hw5
              clear q0_1 q0_2 q0_3 q0_4 q0_5 q0_6 q0_7 q0_8 y3 z1 z2 z3 z4 z5 z6 z7 z1' z2'
              obtain ⟨a0, a1⟩ := G5.out.2.2.2.2.1.at
              obtain ⟨b0, b1⟩ := G5.out.2.2.2.2.2.at
              simp only [Nat.zero_add] at a1 b1
              obtain ⟨E, hE⟩ : ∃ E, E = decide (A = B) := ⟨_, rfl⟩
              have HE := Lib.hid hE
              clear hE
              go_upto_region 29 with fail
              go_cut [174] from 134 to 196 (fun c wx => c = .bool E ∧ w5 = wx)
              case first =>
                go_wp2_with fail
                all_goals go_meet
                all_goals (refine ⟨congrArg Value.bool ?_, rfl⟩; rw [HE.out, ← nm_dec]; simp [*])
              case rest =>
                obtain ⟨rfl, rfl⟩ := hcut
                have Hcr := Lib.hid (show ∀ cr', cr' = stepC s.made cr C → cr' = (x.cross.take (i + 1)).foldl (stepC s.made) [] from fun cr' h => by rw [fold_takeC (by rw [← Hcn.out]; exact hic), h, G4.out.2.1, HC.out.1])
                have Hstep := Lib.hid (show stepC s.made cr C = if A = B then cr else addX cr (pairX A B).a (pairX A B).b (sgn C.2.2) by
                  unfold stepC
                  rw [← Hmn.out, ← HAB.out.2.1, ← HAB.out.2.2, ← HAB.out.1.1, ← HAB.out.1.2])
                cases E with
                | true =>
                  have hAB : A = B := of_decide_eq_true HE.out.symm
                  have HN := Lib.hid (show OX w1 w5 g0 cv' hv' FV cr hl (srt fl) ∧ cr = (x.cross.take (i + 1)).foldl (stepC s.made) [] ∧ (1 < n ∨ i + 1 = 0) from ⟨G4.out.1.ext G5.out.1, Hcr.out _ (by rw [Hstep.out, if_pos hAB]), .inl hn1⟩)
                  clear hAB a0 a1 b0 b1
                  go_wp2_with fail
                  go_roundg (cn - (i + 1))
                  case measure => have := Hgi.out; omega
                  case rel => exact ⟨i + 1, cr, cv', by have := Hgi.out; omega, by go_num, HN⟩
                | false =>
                  have hAB : A ≠ B := of_decide_eq_false HE.out.symm
                  obtain ⟨PX, hPX⟩ : ∃ PX, PX = pairX A B := ⟨_, rfl⟩
                  have HAne := Lib.hid hAB; have HPX := Lib.hid hPX
                  clear hAB hPX
                  go_wp2_with fail
                  refine (Less_calls B A w5).mono ?_
                  rintro e w6 ⟨rfl, x6⟩
                  have X6 := Lib.hid (G5.out.1.trans x6)
                  have HBA := Lib.hid (G5.out.2.2.2.2.1.ext x6)
                  have HBB := Lib.hid (G5.out.2.2.2.2.2.ext x6)
                  clear a0 a1 b0 b1 x6
                  go_upto_if 178 with fail
                  go_cut [] from 134 to 196 (fun wx => Hid (Ext wo wx ∧ BN wx ga PX.a ∧ BN wx gb PX.b))
                  case first =>
                    by_cases hlt : ltN B A
                    · have hl' : lessI B A = 1 := by unfold lessI; rw [if_pos (cmpN_lt.2 hlt)]
                      have hP : PX = ⟨B, A, 0⟩ := by rw [HPX.out]; unfold pairX; rw [if_pos (cmpN_gt.2 hlt)]
                      rw [hl']
                      obtain ⟨a0, a1⟩ := HBA.out.at
                      obtain ⟨b0, b1⟩ := HBB.out.at
                      simp only [Nat.zero_add] at a1 b1
                      have g1 := G5.out.2.1; have g2 := G5.out.2.2.1; have g3 := G5.out.2.2.2.1
                      have HN := Lib.hid (show Ext wo ((((w6.setCell ⟨ga, 0, none⟩ (.int .u8 B.y)).setCell ⟨ga, 1, none⟩ (.int .i64 B.n)).setCell ⟨gb, 0, none⟩ (.int .u8 A.y)).setCell ⟨gb, 1, none⟩ (.int .i64 A.n)) ∧ BN ((((w6.setCell ⟨ga, 0, none⟩ (.int .u8 B.y)).setCell ⟨ga, 1, none⟩ (.int .i64 B.n)).setCell ⟨gb, 0, none⟩ (.int .u8 A.y)).setCell ⟨gb, 1, none⟩ (.int .i64 A.n)) ga PX.a ∧ BN ((((w6.setCell ⟨ga, 0, none⟩ (.int .u8 B.y)).setCell ⟨ga, 1, none⟩ (.int .i64 B.n)).setCell ⟨gb, 0, none⟩ (.int .u8 A.y)).setCell ⟨gb, 1, none⟩ (.int .i64 A.n)) gb PX.b from
                        ⟨Ext.setCell (Ext.setCell (Ext.setCell (Ext.setCell X6.out g1 _) g1 _) g2 _) g2 _, by rw [hP]; exact BN.set (BN.set (BN.put HBA.out B) g3 _) g3 _, by rw [hP]; exact BN.put (BN.set (BN.set HBB.out (Ne.symm g3) _) (Ne.symm g3) _) A⟩)
                      have fA0 := BN.fr HBA.out 0; have fA1 := BN.fr HBA.out 1; have fB0 := BN.fr HBB.out 0; have fB1 := BN.fr HBB.out 1
                      have lA := HBA.out.lt; have lB := HBB.out.lt
                      have g4 : ¬ gb = ga := Ne.symm g3
                      clear hl' hlt hP g1 g2
                      go_wp2_with fail
                      go_meet
                      case rel => exact HN
                    · have hl' : lessI B A = 0 := by unfold lessI; rw [if_neg (fun e => hlt (cmpN_lt.1 e))]
                      have hP : PX = ⟨A, B, 0⟩ := by rw [HPX.out]; unfold pairX; rw [if_neg (fun e => hlt (cmpN_gt.1 e))]
                      rw [hl']
                      have HN := Lib.hid (show Ext wo w6 ∧ BN w6 ga PX.a ∧ BN w6 gb PX.b from ⟨X6.out, by rw [hP]; exact HBA.out, by rw [hP]; exact HBB.out⟩)
                      clear hl' hlt hP
                      go_wp2_with fail
                      go_meet
                      case rel => exact HN
                  case rest =>
                    have G6 := hcut
                    clear hcut
                    obtain ⟨w7, hw7⟩ : ∃ w7, w7 = wc := ⟨_, rfl⟩
                    subst hw7
                    obtain ⟨y0, y1, y2, y3⟩ := B4.cells (HB1.out.ext (G4.out.1.x.trans G6.out.1))
                    have q0_6 := y3
                    have q0_7 := (Hq.out.ext ((X1.out.trans G4.out.1.x).trans G6.out.1)).2.2
                    obtain ⟨q0_2, q0_3⟩ := G6.out.2.1.at
                    obtain ⟨q0_4, q0_5⟩ := G6.out.2.2.at
                    simp only [Nat.zero_add] at q0_3 q0_5
                    obtain ⟨xa, xc, rfl, hxc⟩ := own_slice G4.out.1.c
                    obtain ⟨xn, hxn⟩ : ∃ xn, xn = cr.length := ⟨_, rfl⟩
                    rw [← hxn] at hxc G4
                    have HOc := Lib.hid (show wo.ownsRow w1.heap.size 52 5 (.slice xa xn xc) xn (cr.map Xg.cs).flatten by have h1 := G4.out.1.c; rw [← hxn] at h1; exact h1)
                    have q0_1 := (G4.out.1.b.ext G6.out.1).c1
                    have Hxn := Lib.hid hxn
                    obtain ⟨d, hd⟩ : ∃ d, d = C.2.2 % 2 := ⟨_, rfl⟩
                    have hd2 : 0 ≤ d ∧ d ≤ 1 := by omega
                    have e1 : C.2.2.tmod 2 = d := by rw [Int.tmod_eq_emod_of_nonneg HC.out.2.2.2.1, hd]
                    have e2 : IntKind.i64.wrap d = d := IntWalk.i64_in _ ⟨by omega, by omega⟩
                    have e2' : wrap64 d = d := IntWalk.wrap64_in _ ⟨by omega, by omega⟩
                    have e3 : IntKind.i64.wrap (2 * d) = 2 * d := IntWalk.i64_in _ ⟨by omega, by omega⟩
                    have e3' : wrap64 (2 * d) = 2 * d := IntWalk.wrap64_in _ ⟨by omega, by omega⟩
                    have e4 : IntKind.i64.wrap (1 - 2 * d) = 1 - 2 * d := IntWalk.i64_in _ ⟨by omega, by omega⟩
                    have e4' : wrap64 (1 - 2 * d) = 1 - 2 * d := IntWalk.wrap64_in _ ⟨by omega, by omega⟩
                    have hsg : sgn C.2.2 = 1 - 2 * d := by unfold sgn; rw [hd]
                    have hk := XK.of HInv.out x.cross (k := i) (by rw [← Hcn.out]; omega) (by rw [← Hmn.out]; exact hn1)
                    rw [← G4.out.2.1] at hk
                    have hl9 : cr.length ≤ 10000 := Nat.le_trans hk.len (Nat.le_trans (Nat.mul_le_mul (by rw [← Hmn.out]; exact n60) (by rw [← Hmn.out]; exact n60)) (by decide))
                    have HAd := Lib.hid (show ∀ w', Ext w7 w' → Calls Tryd.prog 25 #[.slice xa xn xc, PX.a.val, PX.b.val, .int .i64 (1 - 2 * d)] w' (RetAd w' (adr PX.a PX.b (1 - 2 * d) false cr)) from fun w' x' => Added_calls (.slice xa xn xc) xc cr PX.a PX.b (1 - 2 * d) w' (by
                      obtain ⟨c', hc⟩ := CK.of_own (own_extk HOc.out (G6.out.1.trans x')) (Ks.xg cr) (by rw [List.length_map]; exact Hxn.out) (by decide)
                      obtain ⟨ao', n', e, _⟩ := XL.open hc
                      have e2 := Value.slice.inj e
                      rw [e2.2.2]
                      rw [e2.2.2] at hc
                      exact hc) hl9 (fun j hj => by have := hk.ok.n _ (xi_mem hj); omega))
                    have hadr : adr PX.a PX.b (1 - 2 * d) false cr = stepC s.made cr C := by
                      rw [adr_addX (by omega) (SrtX_pw.2 hk.ok.s) fun c hc => (hk.ok.n c hc).1, Hstep.out, if_neg HAne.out, hsg, HPX.out]
                    have HRx := Lib.hid (show ∀ w' v8 w8, Ext w7 w' → w8.ownsRow w'.heap.size 52 5 v8 (adr PX.a PX.b (1 - 2 * d) false cr).length ((adr PX.a PX.b (1 - 2 * d) false cr).map Xg.cs).flatten → Ext w' w8 → OX w1 (w8.setCell ⟨w1.heap.size, 1, none⟩ v8) g0 v8 hv' FV (adr PX.a PX.b (1 - 2 * d) false cr) hl (srt fl) ∧ adr PX.a PX.b (1 - 2 * d) false cr = (x.cross.take (i + 1)).foldl (stepC s.made) [] ∧ (1 < n ∨ i + 1 = 0) from fun w' v8 w8 x' ho x8 => ⟨OX.setC (G4.out.1.ext (G6.out.1.trans x')) x8 ho, Hcr.out _ hadr, .inl hn1⟩)
                    have Hd := Lib.hid (And.intro hd hd2)
                    clear hd hd2 hsg hk hl9 hadr y0 y1 y2 y3 hxc hxn
                    go_upto_region 32 with fail
                    refine region_L (L := 16) (S := fun w' => w'.cell? ⟨w1.heap.size, 1, Option.none⟩ = some (.slice xa xn xc) ∧ w'.cell? ⟨ga, 0, Option.none⟩ = some (.int .u8 PX.a.y) ∧ w'.cell? ⟨ga, 1, Option.none⟩ = some (.int .i64 PX.a.n) ∧ w'.cell? ⟨gb, 0, Option.none⟩ = some (.int .u8 PX.b.y) ∧ w'.cell? ⟨gb, 1, Option.none⟩ = some (.int .i64 PX.b.n) ∧ w'.cell? ⟨w.heap.size, 3, Option.none⟩ = some (.slice (some ⟨bq, oq, none⟩) cn cc) ∧ w'.cell? ⟨bq, oq + i * 3 + 2, Option.none⟩ = some (.int .u8 C.2.2)) (by kernel_rfl) ?_ (fun hHeld => ?_)
                    · exact ⟨q0_1, q0_2, q0_3, q0_4, q0_5, q0_6, q0_7⟩
                    refine anyL_take (i := 0) (v := ?va926_0) rfl (by kernel_rfl) (by kernel_rfl) (by kernel_rfl) (by kernel_rfl) (fun _ _ _ h => h) (Or.inl ⟨by rfl, fun w hSw => ?ti926_0⟩) (by assumption) ?rest926_0
                    case ti926_0 => ((try dsimp only at hSw); go_simp; (first | done | with_reducible rfl))
                    try simp only [Act.put, List.getElem_toArray, List.getElem_cons_zero, List.getElem_cons_succ, List.setIfInBounds_toArray, List.set_cons_zero, List.set_cons_succ]
                    refine anyL_take (i := 1) (v := ?va929_1) rfl (by kernel_rfl) (by kernel_rfl) (by kernel_rfl) (by kernel_rfl) (fun _ _ _ h => h) (Or.inl ⟨by rfl, fun w hSw => ?ti929_1⟩) (by assumption) ?rest929_1
                    case ti929_1 => ((try dsimp only at hSw); go_simp; (first | done | with_reducible rfl))
                    try simp only [Act.put, List.getElem_toArray, List.getElem_cons_zero, List.getElem_cons_succ, List.setIfInBounds_toArray, List.set_cons_zero, List.set_cons_succ]
                    refine anyL_take (i := 2) (v := ?va932_2) rfl (by kernel_rfl) (by kernel_rfl) (by kernel_rfl) (by kernel_rfl) (fun _ _ _ h => h) (Or.inl ⟨by rfl, fun w hSw => ?ti932_2⟩) (by assumption) ?rest932_2
                    case ti932_2 => ((try dsimp only at hSw); go_simp; (first | done | with_reducible rfl))
                    try simp only [Act.put, List.getElem_toArray, List.getElem_cons_zero, List.getElem_cons_succ, List.setIfInBounds_toArray, List.set_cons_zero, List.set_cons_succ]
                    refine anyL_take (i := 3) (v := ?va935_3) rfl (by kernel_rfl) (by kernel_rfl) (by kernel_rfl) (by kernel_rfl) (fun _ _ _ h => h) (Or.inl ⟨by rfl, fun w hSw => ?ti935_3⟩) (by assumption) ?rest935_3
                    case ti935_3 => ((try dsimp only at hSw); go_simp; (first | done | with_reducible rfl))
                    try simp only [Act.put, List.getElem_toArray, List.getElem_cons_zero, List.getElem_cons_succ, List.setIfInBounds_toArray, List.set_cons_zero, List.set_cons_succ]
                    refine anyL_take (i := 4) (v := ?va938_4) rfl (by kernel_rfl) (by kernel_rfl) (by kernel_rfl) (by kernel_rfl) (fun _ _ _ h => h) (Or.inl ⟨by rfl, fun w hSw => ?ti938_4⟩) (by assumption) ?rest938_4
                    case ti938_4 => ((try dsimp only at hSw); go_simp; (first | done | with_reducible rfl))
                    try simp only [Act.put, List.getElem_toArray, List.getElem_cons_zero, List.getElem_cons_succ, List.setIfInBounds_toArray, List.set_cons_zero, List.set_cons_succ]
                    refine anyL_take (i := 5) (v := ?va941_5) rfl (by kernel_rfl) (by kernel_rfl) (by kernel_rfl) (by kernel_rfl) (fun _ _ _ h => h) (Or.inl ⟨by rfl, fun w hSw => ?ti941_5⟩) (by assumption) ?rest941_5
                    case ti941_5 => ((try dsimp only at hSw); go_simp; (first | done | with_reducible rfl))
                    try simp only [Act.put, List.getElem_toArray, List.getElem_cons_zero, List.getElem_cons_succ, List.setIfInBounds_toArray, List.set_cons_zero, List.set_cons_succ]
                    refine anyL_take (i := 6) (v := ?va944_6) rfl (by kernel_rfl) (by kernel_rfl) (by kernel_rfl) (by kernel_rfl) (fun _ _ _ h => h) (Or.inl ⟨by rfl, fun w hSw => ?ti944_6⟩) (by assumption) ?rest944_6
                    case ti944_6 => ((try dsimp only at hSw); go_simp; (first | done | with_reducible rfl))
                    try simp only [Act.put, List.getElem_toArray, List.getElem_cons_zero, List.getElem_cons_succ, List.setIfInBounds_toArray, List.set_cons_zero, List.set_cons_succ]
                    refine anyL_take (i := 7) (v := ?va947_7) rfl (by kernel_rfl) (by kernel_rfl) (by kernel_rfl) (by kernel_rfl) (fun _ _ _ h => h) (Or.inl ⟨by rfl, fun w hSw => ?ti947_7⟩) (by assumption) ?rest947_7
                    case ti947_7 => ((try dsimp only at hSw); go_simp; (first | done | with_reducible rfl))
                    try simp only [Act.put, List.getElem_toArray, List.getElem_cons_zero, List.getElem_cons_succ, List.setIfInBounds_toArray, List.set_cons_zero, List.set_cons_succ]
                    refine anyL_take (i := 8) (v := ?va950_8) rfl (by kernel_rfl) (by kernel_rfl) (by kernel_rfl) (by kernel_rfl) (fun _ _ _ h => h) (Or.inl ⟨by rfl, fun w hSw => ?ti950_8⟩) (by assumption) ?rest950_8
                    case ti950_8 => ((try dsimp only at hSw); go_simp; (first | done | with_reducible rfl))
                    try simp only [Act.put, List.getElem_toArray, List.getElem_cons_zero, List.getElem_cons_succ, List.setIfInBounds_toArray, List.set_cons_zero, List.set_cons_succ]
                    refine anyL_take (i := 9) (v := ?va953_9) rfl (by kernel_rfl) (by kernel_rfl) (by kernel_rfl) (by kernel_rfl) (fun _ _ _ h => h) (Or.inl ⟨by rfl, fun w hSw => ?ti953_9⟩) (by assumption) ?rest953_9
                    case ti953_9 => ((try dsimp only at hSw); go_simp; (first | done | with_reducible rfl))
                    try simp only [Act.put, List.getElem_toArray, List.getElem_cons_zero, List.getElem_cons_succ, List.setIfInBounds_toArray, List.set_cons_zero, List.set_cons_succ]
                    refine anyL_take (i := 10) (v := ?va956_10) rfl (by kernel_rfl) (by kernel_rfl) (by kernel_rfl) (by kernel_rfl) (fun _ _ _ h => h) (Or.inl ⟨by rfl, fun w hSw => ?ti956_10⟩) (by assumption) ?rest956_10
                    case ti956_10 => ((try dsimp only at hSw); go_simp; (first | done | with_reducible rfl))
                    try simp only [Act.put, List.getElem_toArray, List.getElem_cons_zero, List.getElem_cons_succ, List.setIfInBounds_toArray, List.set_cons_zero, List.set_cons_succ]
                    refine anyL_take (i := 11) (v := ?va959_11) rfl (by kernel_rfl) (by kernel_rfl) (by kernel_rfl) (by kernel_rfl) (fun _ _ _ h => h) (Or.inl ⟨by rfl, fun w hSw => ?ti959_11⟩) (by assumption) ?rest959_11
                    case ti959_11 => ((try dsimp only at hSw); go_simp; (first | done | with_reducible rfl))
                    try simp only [Act.put, List.getElem_toArray, List.getElem_cons_zero, List.getElem_cons_succ, List.setIfInBounds_toArray, List.set_cons_zero, List.set_cons_succ]
                    refine anyL_take (i := 12) (v := ?va962_12) rfl (by kernel_rfl) (by kernel_rfl) (by kernel_rfl) (by kernel_rfl) (fun _ _ _ h => h) (Or.inl ⟨by rfl, fun w hSw => ?ti962_12⟩) (by assumption) ?rest962_12
                    case ti962_12 => ((try dsimp only at hSw); go_simp; (first | done | with_reducible rfl))
                    try simp only [Act.put, List.getElem_toArray, List.getElem_cons_zero, List.getElem_cons_succ, List.setIfInBounds_toArray, List.set_cons_zero, List.set_cons_succ]
                    refine anyL_take (i := 13) (v := ?va965_13) rfl (by kernel_rfl) (by kernel_rfl) (by kernel_rfl) (by kernel_rfl) (fun _ _ _ h => h) (Or.inl ⟨by rfl, fun w hSw => ?ti965_13⟩) (by assumption) ?rest965_13
                    case ti965_13 => ((try dsimp only at hSw); go_simp; (first | done | with_reducible rfl))
                    try simp only [Act.put, List.getElem_toArray, List.getElem_cons_zero, List.getElem_cons_succ, List.setIfInBounds_toArray, List.set_cons_zero, List.set_cons_succ]
                    refine anyL_ready (rs := [14]) (by kernel_rfl) (by simp) ?_
                    refine AllL.cons rfl (fun K hK => ?_) AllL.nil
                    go_simp
                    refine (HAd.out _ ?e0).mono ?_
                    case e0 => (focus (repeat (first | (with_reducible exact Ext.refl _) | (with_reducible apply Ext.drew) | (with_reducible apply Ext.drewN) | (with_reducible apply Ext.alloc))))
                    intro e w8 hh
                    obtain ⟨v8, rfl, hown, hx⟩ := hh
                    have HR8 := Lib.hid (HRx.out _ v8 w8 (by (focus (repeat (first | (with_reducible exact Ext.refl _) | (with_reducible apply Ext.drew) | (with_reducible apply Ext.drewN) | (with_reducible apply Ext.alloc))))) hown hx)
                    have X8 : Hid (Ext w7 w8) := Lib.hid (Ext.trans (by (focus (repeat (first | (with_reducible exact Ext.refl _) | (with_reducible apply Ext.drew) | (with_reducible apply Ext.drewN) | (with_reducible apply Ext.alloc))))) hx)
                    obtain ⟨a8, c8, rfl, _⟩ := own_slice hown
                    have p0 := (G4.out.1.b.ext (G6.out.1.trans X8.out)).c1; have p1 := (G4.out.1.b.ext (G6.out.1.trans X8.out)).fr 1
                    clear hown hx
                    go_simp
                    refine hK.out _ _ (fun _ => ⟨Ext.cell X8.out q0_1, Ext.cell X8.out q0_2, Ext.cell X8.out q0_3, Ext.cell X8.out q0_4, Ext.cell X8.out q0_5, Ext.cell X8.out q0_6, Ext.cell X8.out q0_7⟩) ?_
                    clear hK K; try simp only [Act.put, List.getElem_toArray, List.getElem_cons_zero, List.getElem_cons_succ, List.setIfInBounds_toArray, List.set_cons_zero, List.set_cons_succ]
                    refine anyL_ready (rs := [15]) (by kernel_rfl) (by simp) ?_
                    refine AllL.cons rfl (fun K hK => ?_) AllL.nil
                    go_simp
                    refine hK.out _ _ (fun _ => ⟨Ext.cell (Ext.trans X8.out (by (focus (repeat (first | (with_reducible exact Ext.refl _) | (with_reducible apply Ext.drew) | (with_reducible apply Ext.drewN) | (with_reducible apply Ext.alloc)))))) q0_1, Ext.cell (Ext.trans X8.out (by (focus (repeat (first | (with_reducible exact Ext.refl _) | (with_reducible apply Ext.drew) | (with_reducible apply Ext.drewN) | (with_reducible apply Ext.alloc)))))) q0_2, Ext.cell (Ext.trans X8.out (by (focus (repeat (first | (with_reducible exact Ext.refl _) | (with_reducible apply Ext.drew) | (with_reducible apply Ext.drewN) | (with_reducible apply Ext.alloc)))))) q0_3, Ext.cell (Ext.trans X8.out (by (focus (repeat (first | (with_reducible exact Ext.refl _) | (with_reducible apply Ext.drew) | (with_reducible apply Ext.drewN) | (with_reducible apply Ext.alloc)))))) q0_4, Ext.cell (Ext.trans X8.out (by (focus (repeat (first | (with_reducible exact Ext.refl _) | (with_reducible apply Ext.drew) | (with_reducible apply Ext.drewN) | (with_reducible apply Ext.alloc)))))) q0_5, Ext.cell (Ext.trans X8.out (by (focus (repeat (first | (with_reducible exact Ext.refl _) | (with_reducible apply Ext.drew) | (with_reducible apply Ext.drewN) | (with_reducible apply Ext.alloc)))))) q0_6, Ext.cell (Ext.trans X8.out (by (focus (repeat (first | (with_reducible exact Ext.refl _) | (with_reducible apply Ext.drew) | (with_reducible apply Ext.drewN) | (with_reducible apply Ext.alloc)))))) q0_7⟩) ?_
                    clear hK K; try simp only [Act.put, List.getElem_toArray, List.getElem_cons_zero, List.getElem_cons_succ, List.setIfInBounds_toArray, List.set_cons_zero, List.set_cons_succ]
                    refine anyL_ready (rs := [16]) (by kernel_rfl) (by simp) ?_
                    refine AllL.cons rfl (fun K hK => ?_) AllL.nil
                    go_simp
                    refine hK.out _ _ (fun h => absurd rfl h) ?_
                    clear hK K; try simp only [Act.put, List.getElem_toArray, List.getElem_cons_zero, List.getElem_cons_succ, List.setIfInBounds_toArray, List.set_cons_zero, List.set_cons_succ]
                    refine anyL_done (by kernel_rfl) ?_ _
                    go_wp2_with fail
                    go_roundg (cn - (i + 1))
                    case measure => have := Hgi.out; omega
                    case rel => exact ⟨i + 1, _, _, by have := Hgi.out; omega, by go_num, HR8⟩
          · have hcr : cr = ofC s.made x.cross := by
              unfold ofC
              rw [← Hmn.out]
              by_cases h1 : 1 < n
              · rw [if_pos h1, G4.out.2.1, List.take_of_length_le (by rw [← Hcn.out]; omega)]
              · rw [if_neg h1, G4.out.2.1, (G4.out.2.2.resolve_left h1)]; rfl
            have hof : cr = (ofF x).cr ∧ hl = (ofF x).held ∧ srt fl = (ofF x).fallen := by
              have h1 := HH.out
              rw [Hmn.out, Hs.out] at h1
              refine ⟨by rw [hcr, Hs.out]; rfl, ?_, ?_⟩
              · show hl = (runH x (ofT x.t).t (ofT x.t).made (ofT x.t).made.length).1
                rw [← h1]
              · show srt fl = srt (runH x (ofT x.t).t (ofT x.t).made (ofT x.t).made.length).2
                rw [← h1]
            have hOF : OF w1.heap.size wr cv' hv' FV (ofF x) := ⟨by rw [← hof.1]; exact G4.out.1.c, by rw [← hof.2.1]; exact G4.out.1.h, by rw [← hof.2.2]; exact G4.out.1.f, G4.out.1.d⟩
            obtain ⟨xa, xc, rfl, _⟩ := own_slice G4.out.1.c
            obtain ⟨ya, yc, rfl, _⟩ := own_slice G4.out.1.h
            obtain ⟨za, zc, rfl, _⟩ := own_slice G4.out.1.f
            obtain ⟨xn, hxn⟩ : ∃ xn, xn = cr.length := ⟨_, rfl⟩
            obtain ⟨yn, hyn⟩ : ∃ yn, yn = hl.length := ⟨_, rfl⟩
            obtain ⟨zn, hzn⟩ : ∃ zn, zn = (srt fl).length := ⟨_, rfl⟩
            rw [← hxn, ← hyn, ← hzn] at hOF G4
            obtain ⟨u0, u1, u2, u3⟩ := B4.cells G4.out.1.b
            have hR := HR1.out.ext G4.out.1.x
            obtain ⟨r0, r1, r2, r3⟩ := B4.cells hR
            have rf := hR.fr; have rl := hR.lt
            obtain ⟨VF, hVF⟩ : ∃ VF, VF = (((wr.setCell ⟨w.heap.size + 1, 0, none⟩ (.slice (some ⟨g0, 0, none⟩) 6 6)).setCell ⟨w.heap.size + 1, 1, none⟩ (.slice xa xn xc)).setCell ⟨w.heap.size + 1, 2, none⟩ (.slice ya yn yc)).setCell ⟨w.heap.size + 1, 3, none⟩ (.slice za zn zc) := ⟨_, rfl⟩
            have zF := hR.put4 (.slice (some ⟨g0, 0, none⟩) 6 6) (.slice xa xn xc) (.slice ya yn yc) (.slice za zn zc)
            rw [← hVF] at zF
            have d0 := zF.c0; have d1 := zF.c1; have d2 := zF.c2; have d3 := zF.c3
            have hW0s : W0.heap.size = w.heap.size + 2 := by rw [HW0.out]; simp
            have hg0 := Hg0.out
            have hg1 : g0 < w1.heap.size := HOT.out.tab.lt
            have HE := Lib.hid (show RetFD w x (.returned (.tuple #[.agg #[.slice (some ⟨g0, 0, none⟩) 6 6, .slice xa xn xc, .slice ya yn yc, .slice za zn zc], .slice ma n mc])) VF from ⟨g0, F, us, vs, lv, _, w1, _, _, _, rfl, by omega, by rw [← Hs.out]; exact HOT.out, by
              rw [hVF]
              exact ((((Agr.ext G4.out.1.x).set (.inl (by dsimp only; omega)) _).set (.inl (by dsimp only; omega)) _).set (.inl (by dsimp only; omega)) _).set (.inl (by dsimp only; omega)) _, by rw [hVF]; have := G4.out.1.x.size; simpa using this, by rw [hVF]; exact Ext.set4 (X1.out.trans G4.out.1.x) (by omega) _ _ _ _, by rw [hVF]; exact OF.set4 hOF (by omega) _ _ _ _⟩)
            have HVF := Lib.hid hVF
            have hnn : ¬ ((i : Int) < cn ∧ (1 : Int) < n) := by omega
            clear hcr hof hOF hVF hR zF hW0s hg0 hg1 hgi hxn hyn hzn
            by_cases h1 : i < cn
            · have f2 : (i : Int) < cn := by omega
              have f3 : ¬ (1 : Int) < n := by omega
              have f4 : ¬ 1 < n := by omega
              clear hnn hin h1
              go_wp2
              rw [← HVF.out]
              exact bodyPost_ret (v := .tuple #[.agg #[.slice (some ⟨g0, 0, none⟩) 6 6, .slice xa xn xc, .slice ya yn yc, .slice za zn zc], .slice ma n mc]) (by simp [results, Tryd.results10, go_sem, d0, d1, d2, d3]) rfl HE.out
            · have f2 : ¬ (i : Int) < cn := by omega
              clear hnn hin h1
              go_wp2
              rw [← HVF.out]
              exact bodyPost_ret (v := .tuple #[.agg #[.slice (some ⟨g0, 0, none⟩) 6 6, .slice xa xn xc, .slice ya yn yc, .slice za zn zc], .slice ma n mc]) (by simp [results, Tryd.results10, go_sem, d0, d1, d2, d3]) rfl HE.out
end Go.Proofs.YtlhkehfplcclgaaDoor
