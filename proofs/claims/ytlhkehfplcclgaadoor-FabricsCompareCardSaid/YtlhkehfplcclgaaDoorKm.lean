/- The law FabricsCompare: the walk. -/
import Derived.Test.YtlhkehfplcclgaaDoorKl
namespace Go.Proofs.YtlhkehfplcclgaaDoor
set_option linter.unusedVariables false
set_option linter.unusedSimpArgs false
set_option maxRecDepth 8000
open Go Go.RowKit Go.Sort

set_option maxHeartbeats 16000000 in
theorem FabricsCompare_walk (a b : Nm) (s : Int) (w : World) (ht : PTab w) (ha : a.In) (hb : b.In) (hs : -9223372036854775808 ≤ s ∧ s ≤ 9223372036854775807) :
    Calls Tryd.prog 7 #[a.val, b.val, .int .i64 s] w fun e w' => e = .returned (.bool true) ∧ Ext w w' := by
  obtain ⟨W, hW⟩ : ∃ W, W = (w.alloc (.cells #[.int .u8 a.y, .int .i64 a.n] 41)).alloc (.cells #[.int .u8 b.y, .int .i64 b.n] 41) := ⟨_, rfl⟩
  have xW : Ext w W := by rw [hW]; exact ((Ext.refl _).alloc _).alloc _
  have HA := Lib.hid (show BN W w.heap.size a by rw [hW]; exact (BN.new w a).ext ((Ext.refl _).alloc _))
  have HB := Lib.hid (show BN W (w.heap.size + 1) b by rw [hW]; have := BN.new (w.alloc (.cells #[.int .u8 a.y, .int .i64 a.n] 41)) b; simpa using this)
  have HL := Lib.hid (fun w' => Less_calls a b w')
  have HL2 := Lib.hid (fun w' => Less_calls b a w')
  have HC := Lib.hid (fun w' => Compare_calls a b w')
  have HC2 := Lib.hid (fun w' => Compare_calls b a w')
  obtain ⟨C, hC⟩ : ∃ C, C = cmpN a b := ⟨_, rfl⟩
  have hC2 : cmpN b a = -C := by rw [hC]; exact cmpN_neg a b
  have hCb := cmpN_bd a b
  rw [← hC] at HC hCb
  rw [hC2] at HC2
  have hL1 : lessI a b = if C < 0 then 1 else 0 := by unfold lessI; rw [← hC]
  have hL2 : lessI b a = if 0 < C then 1 else 0 := by unfold lessI; rw [hC2]; by_cases h : 0 < C <;> simp [h]
  rw [hL1] at HL
  rw [hL2] at HL2
  unfold Nm.val at HL HL2 HC HC2 ⊢
  obtain ⟨a0, a1⟩ := HA.out.at
  obtain ⟨b0, b1⟩ := HB.out.at
  simp only [Nat.zero_add] at a1 b1
  have HT := Lib.hid ht; have XW := Lib.hid xW; have HW := Lib.hid hW; have HI := Lib.hid (And.intro ha hb); have HCe := Lib.hid hC
  rw [hW] at a0 a1 b0 b1
  clear ht ha hb hW xW hC hC2 hL1 hL2
  go_enter Tryd.func7, Tryd.ntmps7
  go_wp2_with fail
  rw [← HW.out]
  clear a0 a1 b0 b1
  refine (HL.out W).mono ?_
  rintro e w1 ⟨rfl, x1⟩
  have X1 := Lib.hid x1
  clear x1
  obtain ⟨L1, hL1⟩ : ∃ L1 : Int, L1 = if C < 0 then 1 else 0 := ⟨_, rfl⟩
  rw [← hL1]
  obtain ⟨U1, hU1⟩ : ∃ U1 : Int, U1 = if C < 0 then -1 else 0 := ⟨_, rfl⟩
  have HU1 := Lib.hid hU1
  have HL1 := Lib.hid hL1
  clear hU1 hL1
  go_upto_if 22 with fail
  go_cut [7] from 19 to 153 (fun x wx => x = .int .i64 U1 ∧ w1 = wx)
  case first =>
    by_cases h : C < 0
    · have hl := HL1.out; have hu := HU1.out
      rw [if_pos h] at hl hu
      subst hl; subst hu
      clear h
      go_wp2_with fail
      go_meet
      case rel => exact ⟨rfl, rfl⟩
    · have hl := HL1.out; have hu := HU1.out
      rw [if_neg h] at hl hu
      subst hl; subst hu
      clear h
      go_wp2_with fail
      go_meet
      case rel => exact ⟨rfl, rfl⟩
  case rest =>
    obtain ⟨rfl, rfl⟩ := hcut
    obtain ⟨a0, a1⟩ := (HA.out.ext X1.out).at
    obtain ⟨b0, b1⟩ := (HB.out.ext X1.out).at
    simp only [Nat.zero_add] at a1 b1
    go_wp2_with fail
    clear a0 a1 b0 b1
    refine (HL2.out w1).mono ?_
    rintro e w2 ⟨rfl, x2⟩
    have X2 := Lib.hid (X1.out.trans x2)
    clear x2
    obtain ⟨L2, hL2⟩ : ∃ L2 : Int, L2 = if 0 < C then 1 else 0 := ⟨_, rfl⟩
    rw [← hL2]
    have HL2' := Lib.hid hL2
    clear hL2
    go_upto_if 26 with fail
    go_cut [7] from 19 to 153 (fun x wx => x = .int .i64 C ∧ w2 = wx)
    case first =>
      by_cases h : 0 < C
      · have hl := HL2'.out
        rw [if_pos h] at hl
        have hc : C = 1 := by omega
        subst hl
        have HC1 := Lib.hid hc
        clear h hc
        go_wp2_with fail
        go_meet
        case rel => exact ⟨by rw [HC1.out], rfl⟩
      · have hl := HL2'.out
        rw [if_neg h] at hl
        have hc : U1 = C := by rw [HU1.out]; split <;> omega
        subst hl
        have HC1 := Lib.hid hc
        clear h hc
        go_wp2_with fail
        go_meet
        case rel => exact ⟨by rw [HC1.out], rfl⟩
    case rest =>
      obtain ⟨rfl, rfl⟩ := hcut
      obtain ⟨a0, a1⟩ := (HA.out.ext X2.out).at
      obtain ⟨b0, b1⟩ := (HB.out.ext X2.out).at
      simp only [Nat.zero_add] at a1 b1
      go_wp2_with fail
      clear a0 a1 b0 b1
      refine (HC.out w2).mono ?_
      rintro e w3 ⟨rfl, x3⟩
      have X3 := Lib.hid (X2.out.trans x3)
      clear x3
      obtain ⟨a0, a1⟩ := (HA.out.ext X3.out).at
      obtain ⟨b0, b1⟩ := (HB.out.ext X3.out).at
      simp only [Nat.zero_add] at a1 b1
      have t1 : (C != C) = false := by simp
      go_wp2_with fail
      clear a0 a1 b0 b1
      refine (HC2.out w3).mono ?_
      rintro e w4 ⟨rfl, x4⟩
      have X4 := Lib.hid (X3.out.trans x4)
      clear x4
      have t2 : IntKind.i64.wrap (-C) = -C := IntWalk.i64_in _ ⟨by omega, by omega⟩
      go_wp2_with fail
      refine (Example_calls w4).mono ?_
      rintro e w5 ⟨t0, r0, u0, p0, c0, h0, rfl, hM, hh, hc0, x5⟩
      obtain ⟨F, hF⟩ : ∃ F, F = w5.heap.size := ⟨_, rfl⟩
      obtain ⟨W5, hW5⟩ : ∃ W5, W5 = ((w5.alloc (.cells #[.slice (some ⟨t0, 0, none⟩) 6 6, .slice (some ⟨c0, 0, none⟩) 1 1, .slice (some ⟨h0, 0, none⟩) 2 2, .slice none 0 0] 35)).alloc (.cells #[.int .u8 1, .int .i64 0] 41)).alloc (.cells #[.int .u8 1, .int .i64 1] 41) := ⟨_, rfl⟩
      have z5 : Ext w5 W5 := by rw [hW5]; exact (((Ext.refl _).alloc _).alloc _).alloc _
      have HM := Lib.hid (hM.ext z5)
      have HH := Lib.hid (z5.block hh)
      have HBx := Lib.hid (show B4 W5 F (.slice (some ⟨t0, 0, none⟩) 6 6) (.slice (some ⟨c0, 0, none⟩) 1 1) (.slice (some ⟨h0, 0, none⟩) 2 2) (.slice none 0 0) 35 by rw [hW5, hF]; exact (B4.new _ _ _ _ _ _).ext (((Ext.refl _).alloc _).alloc _))
      have HX := Lib.hid (show BN W5 (F + 1) ⟨1, 0⟩ by rw [hW5, hF]; have := (BN.new (w5.alloc (.cells #[.slice (some ⟨t0, 0, none⟩) 6 6, .slice (some ⟨c0, 0, none⟩) 1 1, .slice (some ⟨h0, 0, none⟩) 2 2, .slice none 0 0] 35)) ⟨1, 0⟩).ext ((Ext.refl _).alloc (.cells #[.int .u8 1, .int .i64 1] 41)); simpa using this)
      have HY := Lib.hid (show BN W5 (F + 1 + 1) ⟨1, 1⟩ by rw [hW5, hF]; have := BN.new ((w5.alloc (.cells #[.slice (some ⟨t0, 0, none⟩) 6 6, .slice (some ⟨c0, 0, none⟩) 1 1, .slice (some ⟨h0, 0, none⟩) 2 2, .slice none 0 0] 35)).alloc (.cells #[.int .u8 1, .int .i64 0] 41)) ⟨1, 1⟩; simpa using this)
      have X5 := Lib.hid ((X4.out.trans x5).trans z5)
      have hwc : w.heap.size ≤ c0 := by have h1 := (XW.out.trans X4.out).size; omega
      have HWc := Lib.hid hwc
      have HW5 := Lib.hid hW5; have HF := Lib.hid hF
      have b0 := HBx.out.c0; have b1 := HBx.out.c1; have b2 := HBx.out.c2; have b3 := HBx.out.c3
      obtain ⟨d0, d1⟩ := HX.out.at
      obtain ⟨e0, e1⟩ := HY.out.at
      simp only [Nat.zero_add] at d1 e1
      rw [hW5, hF] at b0 b1 b2 b3 d0 d1 e0 e1
      clear hM hh hc0 z5 x5 hW5 hF hwc
      have hFI : FIn (exF (-1) [⟨1, 1⟩, ⟨1, 2⟩] []) := exFIn (by decide) (fun a ha => by
        simp only [List.mem_cons, List.not_mem_nil, or_false] at ha
        rcases ha with rfl | rfl <;> exact exIn _ _ (by decide)) (fun a ha => by cases ha) (by decide) (by decide)
      have HFI := Lib.hid hFI
      clear hFI
      have HFB := Lib.hid (show ∀ w', Ext W5 w' → FB w' (.slice (some ⟨t0, 0, none⟩) 6 6) (.slice (some ⟨c0, 0, none⟩) 1 1) (.slice (some ⟨h0, 0, none⟩) 2 2) (.slice none 0 0) (exF (-1) [⟨1, 1⟩, ⟨1, 2⟩] []) from fun w' x => (HM.out.ext x).fb (c1 := 2) (CK.of_blk (x.block HH.out) (Ks.nm [⟨1, 1⟩, ⟨1, 2⟩]) rfl (Nat.le_refl _) (by omega) rfl) (NL.nil w'))
      go_wp2_with fail
      rw [← HW5.out]
      clear b0 b1 b2 b3 d0 d1 e0 e1
      obtain ⟨F', hF'⟩ : ∃ F', F' = w5.heap.size := ⟨_, rfl⟩
      rw [← hF']
      obtain rfl : F' = F := by rw [hF', HF.out]
      clear hF' HF
      refine (Cross_calls _ _ _ _ (exF (-1) [⟨1, 1⟩, ⟨1, 2⟩] []) ⟨1, 0⟩ ⟨1, 1⟩ s W5 (HFB.out W5 (Ext.refl _)) HFI.out (fun _ => exOK) (exIn _ _ (by decide)) (exIn _ _ (by decide)) hs).mono ?_
      rintro e w6 hcr
      obtain ⟨a1, n1, c1, a2, n2, c2, a3, n3, c3, a4, n4, c4, rfl, x6, _, _⟩ := hcr.open
      obtain ⟨E1, hE1⟩ : ∃ E1, E1 = crossE (exF (-1) [⟨1, 1⟩, ⟨1, 2⟩] []) ⟨1, 0⟩ ⟨1, 1⟩ s := ⟨_, rfl⟩
      have HE1 := Lib.hid (show E1 = if s = 1 ∨ s = -1 then 0 else 1 by rw [hE1]; exact ex_cross1 s)
      rw [← hE1]
      clear hE1 hcr
      obtain ⟨W6, hW6⟩ : ∃ W6, W6 = w6.alloc (.cells #[.slice a1 n1 c1, .slice a2 n2 c2, .slice a3 n3 c3, .slice a4 n4 c4] 35) := ⟨_, rfl⟩
      have V6 := Lib.hid (show Ext W5 W6 by rw [hW6]; exact x6.trans ((Ext.refl _).alloc _))
      have HW6 := Lib.hid hW6
      have b0 := (HBx.out.ext V6.out).c0; have b1 := (HBx.out.ext V6.out).c1; have b2 := (HBx.out.ext V6.out).c2; have b3 := (HBx.out.ext V6.out).c3
      obtain ⟨d0, d1⟩ := (HA.out.ext (X5.out.trans V6.out)).at
      obtain ⟨e0, e1⟩ := (HB.out.ext (X5.out.trans V6.out)).at
      simp only [Nat.zero_add] at d1 e1
      rw [hW6] at b0 b1 b2 b3 d0 d1 e0 e1
      clear hW6 x6
      go_wp2_with fail
      rw [← HW6.out]
      clear b0 b1 b2 b3 d0 d1 e0 e1
      have HCr2 := Lib.hid (Cross_calls _ _ _ _ (exF (-1) [⟨1, 1⟩, ⟨1, 2⟩] []) a b 1 W6 (HFB.out W6 V6.out) HFI.out (fun _ => exOK) HI.out.1 HI.out.2 (by decide))
      unfold Nm.val at HCr2
      refine HCr2.out.mono ?_
      rintro e w7 hcr
      obtain ⟨f1, m1, g1, f2, m2, g2, f3, m3, g3, f4, m4, g4, rfl, x7, _, _⟩ := hcr.open
      obtain ⟨E2, hE2⟩ : ∃ E2, E2 = crossE (exF (-1) [⟨1, 1⟩, ⟨1, 2⟩] []) a b 1 := ⟨_, rfl⟩
      have HE2 := Lib.hid (show E2 = if a = b then 1 else if thereB a && thereB b then 0 else 7 by rw [hE2]; exact ex_cross2 a b)
      rw [← hE2]
      clear hE2 hcr HCr2
      obtain ⟨W7, hW7⟩ : ∃ W7, W7 = w7.alloc (.cells #[.slice f1 m1 g1, .slice f2 m2 g2, .slice f3 m3 g3, .slice f4 m4 g4] 35) := ⟨_, rfl⟩
      have V7 := Lib.hid (show Ext W5 W7 by rw [hW7]; exact (V6.out.trans x7).trans ((Ext.refl _).alloc _))
      have HW7 := Lib.hid hW7
      clear hW7 x7
      go_upto_region 12 with fail
      rw [← HW7.out]
      obtain ⟨TH, hTH⟩ : ∃ TH, TH = (thereB a && thereB b) := ⟨_, rfl⟩
      rw [← hTH] at HE2
      have HTH := Lib.hid (show TH = decide (a.y = 1 ∧ b.y = 1 ∧ 0 ≤ a.n ∧ a.n < 3 ∧ 0 ≤ b.n ∧ b.n < 3) by rw [hTH]; unfold thereB; rw [← Bool.decide_and]; congr 1; apply propext; exact ⟨fun h => ⟨h.1.1, h.2.1, h.1.2.1, h.1.2.2, h.2.2.1, h.2.2.2⟩, fun h => ⟨⟨h.1, h.2.2.1, h.2.2.2.1⟩, h.2.1, h.2.2.2.2.1, h.2.2.2.2.2⟩⟩)
      clear hTH
      go_cut [15] from 58 to 85 (fun x wx => x = .bool TH ∧ W7 = wx)
      case first =>
        obtain ⟨a0, a1⟩ := (HA.out.ext (X5.out.trans V7.out)).at
        obtain ⟨b0, b1⟩ := (HB.out.ext (X5.out.trans V7.out)).at
        simp only [Nat.zero_add] at a1 b1
        have hT := HTH.out
        obtain ⟨ay, hay⟩ : ∃ ay, ay = a.y := ⟨_, rfl⟩
        obtain ⟨an, han⟩ : ∃ an, an = a.n := ⟨_, rfl⟩
        obtain ⟨by', hby⟩ : ∃ by', by' = b.y := ⟨_, rfl⟩
        obtain ⟨bn, hbn⟩ : ∃ bn, bn = b.n := ⟨_, rfl⟩
        rw [← hay, ← han, ← hby, ← hbn] at hT
        rw [← hay] at a0; rw [← han] at a1; rw [← hby] at b0; rw [← hbn] at b1
        clear hay han hby hbn
        by_cases p0 : ay = 1
        case neg =>
          have q0 : (ay == 1) = false := beq_eq_false_iff_ne.2 p0
          have hv : TH = false := by rw [hT]; exact decide_eq_false (fun h => by omega)
          have Hv := Lib.hid hv
          clear hT hv p0
          go_wp2_with fail
          go_meet
          case rel => exact ⟨by rw [Hv.out], rfl⟩
        have q0 : (ay == 1) = true := by rw [p0]; rfl
        have Hp0 := Lib.hid p0
        clear p0
        by_cases p1 : by' = 1
        case neg =>
          have q1 : (by' == 1) = false := beq_eq_false_iff_ne.2 p1
          have hv : TH = false := by rw [hT]; exact decide_eq_false (fun h => by omega)
          have Hv := Lib.hid hv
          clear hT hv p1
          go_wp2_with fail
          go_meet
          case rel => exact ⟨by rw [Hv.out], rfl⟩
        have q1 : (by' == 1) = true := by rw [p1]; rfl
        have Hp1 := Lib.hid p1
        clear p1
        by_cases p2 : 0 ≤ an
        case neg =>
          have q2 : decide (0 ≤ an) = false := decide_eq_false p2
          have hv : TH = false := by rw [hT]; exact decide_eq_false (fun h => by omega)
          have Hv := Lib.hid hv
          clear hT hv
          go_wp2_with fail
          go_meet
          case rel => exact ⟨by rw [Hv.out], rfl⟩
        have q2 : decide (0 ≤ an) = true := decide_eq_true p2
        by_cases p3 : an < 3
        case neg =>
          have q3 : decide (an < 3) = false := decide_eq_false p3
          have hv : TH = false := by rw [hT]; exact decide_eq_false (fun h => by omega)
          have Hv := Lib.hid hv
          clear hT hv
          go_wp2_with fail
          go_meet
          case rel => exact ⟨by rw [Hv.out], rfl⟩
        have q3 : decide (an < 3) = true := decide_eq_true p3
        by_cases p4 : 0 ≤ bn
        case neg =>
          have q4 : decide (0 ≤ bn) = false := decide_eq_false p4
          have hv : TH = false := by rw [hT]; exact decide_eq_false (fun h => by omega)
          have Hv := Lib.hid hv
          clear hT hv
          go_wp2_with fail
          go_meet
          case rel => exact ⟨by rw [Hv.out], rfl⟩
        have q4 : decide (0 ≤ bn) = true := decide_eq_true p4
        by_cases p5 : bn < 3
        case neg =>
          have q5 : decide (bn < 3) = false := decide_eq_false p5
          have hv : TH = false := by rw [hT]; exact decide_eq_false (fun h => by omega)
          have Hv := Lib.hid hv
          clear hT hv
          go_wp2_with fail
          go_meet
          case rel => exact ⟨by rw [Hv.out], rfl⟩
        have q5 : decide (bn < 3) = true := decide_eq_true p5
        have hv : TH = true := by rw [hT]; exact decide_eq_true ⟨Hp0.out, Hp1.out, by omega, by omega, by omega, by omega⟩
        have Hv := Lib.hid hv
        clear hT hv
        go_wp2_with fail
        go_meet
        case rel => exact ⟨by rw [Hv.out], rfl⟩
      case rest =>
        obtain ⟨rfl, rfl⟩ := hcut
        obtain ⟨AB, hAB⟩ : ∃ AB, AB = decide (a = b) := ⟨_, rfl⟩
        have HAB := Lib.hid hAB
        clear hAB
        go_upto_region 14 with fail
        go_cut [88] from 86 to 88 (fun x wx => x = .bool AB ∧ W7 = wx)
        case first =>
          obtain ⟨a0, a1⟩ := (HA.out.ext (X5.out.trans V7.out)).at
          obtain ⟨b0, b1⟩ := (HB.out.ext (X5.out.trans V7.out)).at
          simp only [Nat.zero_add] at a1 b1
          by_cases hab : a = b
          · have Hv := Lib.hid (show AB = true by rw [HAB.out]; exact decide_eq_true hab)
            subst hab
            go_wp2_with fail
            go_meet
            case rel => exact ⟨by rw [Hv.out], rfl⟩
          · have Hv := Lib.hid (show AB = false by rw [HAB.out]; exact decide_eq_false hab)
            obtain ⟨ay, hay⟩ : ∃ ay, ay = a.y := ⟨_, rfl⟩
            obtain ⟨an, han⟩ : ∃ an, an = a.n := ⟨_, rfl⟩
            obtain ⟨by', hby⟩ : ∃ by', by' = b.y := ⟨_, rfl⟩
            obtain ⟨bn, hbn⟩ : ∃ bn, bn = b.n := ⟨_, rfl⟩
            have hne : ¬ (ay = by' ∧ an = bn) := fun h => hab (Nm.ext' (by rw [← hay, ← hby]; exact h.1) (by rw [← han, ← hbn]; exact h.2))
            rw [← hay] at a0; rw [← han] at a1; rw [← hby] at b0; rw [← hbn] at b1
            clear hay han hby hbn hab
            by_cases hy : ay = by'
            · subst hy
              have hn : ¬ an = bn := fun e => hne ⟨rfl, e⟩
              clear hne
              go_wp2_with fail
              go_meet
              case rel => exact ⟨by rw [Hv.out], rfl⟩
            · clear hne
              go_wp2_with fail
              go_meet
              case rel => exact ⟨by rw [Hv.out], rfl⟩
        case rest =>
        obtain ⟨rfl, rfl⟩ := hcut
        go_upto_if 88 with fail
        go_cut [15, 16] from 58 to 89 (fun y x wx => y = .bool TH ∧ x = .int .i64 E2 ∧ W7 = wx)
        case first =>
          cases hAb : AB with
          | true =>
            have He := Lib.hid (show E2 = 1 by rw [HE2.out, if_pos (of_decide_eq_true (by rw [← HAB.out]; exact hAb))])
            clear hAb
            go_wp2_with fail
            go_meet
            case rel => exact ⟨rfl, by rw [He.out], rfl⟩
          | false =>
            have He := Lib.hid (show E2 = if TH = true then 0 else 7 by rw [HE2.out, if_neg (of_decide_eq_false (by rw [← HAB.out]; exact hAb))])
            clear hAb
            cases hTb : TH with
            | true =>
              have he := He.out
              rw [hTb, if_pos rfl] at he
              have He2 := Lib.hid he
              have HTb := Lib.hid hTb
              clear he hTb
              go_wp2_with fail
              go_meet
              case rel => exact ⟨by rw [HTb.out], by rw [He2.out], rfl⟩
            | false =>
              have he := He.out
              rw [hTb, if_neg (by decide)] at he
              have He2 := Lib.hid he
              have HTb := Lib.hid hTb
              clear he hTb
              go_wp2_with fail
              go_meet
              case rel => exact ⟨by rw [HTb.out], by rw [He2.out], rfl⟩
        case rest =>
        obtain ⟨rfl, rfl, rfl⟩ := hcut
        go_upto_region 18 with fail
        go_cut [111] from 90 to 111 (fun x wx => x = .bool false ∧ W7 = wx)
        case first =>
          have t3 : (E2 != E2) = false := by simp
          by_cases h1 : s = 1
          · have he := HE1.out
            rw [if_pos (.inl h1)] at he
            subst he
            subst h1
            go_wp2_with fail
            go_meet
            case rel => exact ⟨rfl, rfl⟩
          · by_cases h2 : s = -1
            · have he := HE1.out
              rw [if_pos (.inr h2)] at he
              subst he
              subst h2
              go_wp2_with fail
              go_meet
              case rel => exact ⟨rfl, rfl⟩
            · have he := HE1.out
              rw [if_neg (by omega)] at he
              subst he
              have u1 : (s == 1) = false := beq_eq_false_iff_ne.2 h1
              have u2 : (s == -1) = false := beq_eq_false_iff_ne.2 h2
              clear h1 h2
              go_wp2_with fail
              go_meet
              case rel => exact ⟨rfl, rfl⟩
        case rest =>
        obtain ⟨rfl, rfl⟩ := hcut
        have b1 := (HBx.out.ext V7.out).c1
        have hM7 := HM.out.ext V7.out
        have k4 : W7.cell? ⟨c0, 4, none⟩ = some (.int .i64 (-1)) := by simp [World.cell?, hM7.c]
        have kf : W7.frozen? ⟨c0, 4, none⟩ = false := by simp [World.frozen?, hM7.c]
        obtain ⟨W8, hW8⟩ : ∃ W8, W8 = W7.setCell ⟨c0, 4, none⟩ (.int .i64 1048576) := ⟨_, rfl⟩
        have hne : ∀ {g : Nat} {o : Array Value} {t : TypeId}, W7.heap[g]? = some (.cells o t (0, 0)) → t ≠ 52 → g ≠ c0 := fun hg ht e => by
          rw [e, hM7.c] at hg
          cases hg
          exact ht rfl
        have hk8 : ∀ {g : Nat} {o : Array Value} {t : TypeId}, W7.heap[g]? = some (.cells o t (0, 0)) → t ≠ 52 → W8.heap[g]? = some (.cells o t (0, 0)) := fun hg ht => by rw [hW8, Below.heap_setCell _ _ _ _ (hne hg ht)]; exact hg
        have HM8 := Lib.hid (show ExM W8 t0 r0 u0 p0 c0 1048576 by rw [hW8]; exact hM7.set _)
        have HH8 := Lib.hid (hk8 (V7.out.block HH.out) (by decide))
        have HBx8 := Lib.hid (show B4 W8 F' (.slice (some ⟨t0, 0, none⟩) 6 6) (.slice (some ⟨c0, 0, none⟩) 1 1) (.slice (some ⟨h0, 0, none⟩) 2 2) (.slice none 0 0) 35 from hk8 (HBx.out.ext V7.out) (by decide))
        have HX8 := Lib.hid (show BN W8 (F' + 1) ⟨1, 0⟩ from hk8 (HX.out.ext V7.out) (by decide))
        have HY8 := Lib.hid (show BN W8 (F' + 1 + 1) ⟨1, 1⟩ from hk8 (HY.out.ext V7.out) (by decide))
        have X8 := Lib.hid (show Ext w W8 by rw [hW8]; exact Ext.setCell (XW.out.trans (X5.out.trans V7.out)) HWc.out _)
        have HFB8 := Lib.hid (show ∀ w', Ext W8 w' → FB w' (.slice (some ⟨t0, 0, none⟩) 6 6) (.slice (some ⟨c0, 0, none⟩) 1 1) (.slice (some ⟨h0, 0, none⟩) 2 2) (.slice none 0 0) (exF 1048576 [⟨1, 1⟩, ⟨1, 2⟩] []) from fun w' x => (HM8.out.ext x).fb (c1 := 2) (CK.of_blk (x.block HH8.out) (Ks.nm [⟨1, 1⟩, ⟨1, 2⟩]) rfl (Nat.le_refl _) (by omega) rfl) (NL.nil w'))
        have hFI : FIn (exF 1048576 [⟨1, 1⟩, ⟨1, 2⟩] []) := exFIn (by decide) (fun a ha => by
          simp only [List.mem_cons, List.not_mem_nil, or_false] at ha
          rcases ha with rfl | rfl <;> exact exIn _ _ (by decide)) (fun a ha => by cases ha) (by decide) (by decide)
        have HFI8 := Lib.hid hFI
        have HW8 := Lib.hid hW8
        clear hM7 hne hk8 hFI hW8 HL HL2 HC HC2
        go_upto_region 21 with fail
        rw [← HW8.out]
        clear b1 k4 kf
        have b0 := HBx8.out.c0; have b1 := HBx8.out.c1; have b2 := HBx8.out.c2; have b3 := HBx8.out.c3
        obtain ⟨e0, e1⟩ := HY8.out.at
        simp only [Nat.zero_add] at e1
        go_wp2_with fail
        clear b0 b1 b2 b3 e0 e1
        refine (Cross_calls _ _ _ _ (exF 1048576 [⟨1, 1⟩, ⟨1, 2⟩] []) ⟨1, 2⟩ ⟨1, 1⟩ 1 W8 (HFB8.out W8 (Ext.refl _)) HFI8.out (fun _ => exOK) (exIn _ _ (by decide)) (exIn _ _ (by decide)) (by decide)).mono ?_
        rintro e w9 hcr
        obtain ⟨k1, l1, s1, k2, l2, s2, k3, l3, s3, k4, l4, s4, rfl, x9, hx1, hx2⟩ := hcr.open
        rw [ex_cross3]
        have V9 := Lib.hid x9
        clear x9 hcr hx1 hx2
        have b0 := (HBx8.out.ext V9.out).c0; have b1 := (HBx8.out.ext V9.out).c1; have b2 := (HBx8.out.ext V9.out).c2; have b3 := (HBx8.out.ext V9.out).c3
        obtain ⟨e0, e1⟩ := (HY8.out.ext V9.out).at
        simp only [Nat.zero_add] at e1
        go_wp2_with fail
        clear b0 b1 b2 b3 e0 e1
        refine (Cross_calls _ _ _ _ (exF 1048576 [⟨1, 1⟩, ⟨1, 2⟩] []) ⟨1, 1⟩ ⟨1, 2⟩ (-1) w9 (HFB8.out w9 V9.out) HFI8.out (fun _ => exOK) (exIn _ _ (by decide)) (exIn _ _ (by decide)) (by decide)).mono ?_
        rintro e w10 hcr
        obtain ⟨p1, q1, r1, p2, q2, r2, p3, q3, r3, p4, q4, r4, rfl, x10, hx1, hx2⟩ := hcr.open
        obtain ⟨_, hq2, hr2, hXL⟩ := hx1 ex_cross4
        rw [ex_cross4]
        rw [ex_cross5] at hq2 hXL
        obtain rfl : q2 = 1 := hq2
        obtain ⟨aX, nX, eX, hnX, _, _, hatX⟩ := hXL.open
        obtain ⟨bq, oq, hpq, hA5⟩ := hatX 0 (by rw [hnX]; decide)
        have e3 : p2 = aX := (Value.slice.inj eX).1
        rw [← e3] at hpq
        subst hpq
        have V10 := Lib.hid (V9.out.trans x10)
        have hN := hA5.2.2.2.2
        rw [Nat.zero_mul, Nat.add_zero] at hN
        have hN2 : w10.cell? ⟨bq, oq + 4, none⟩ = some (.int .i64 1048575) := hN
        clear x10 hcr hx1 hx2 hr2 hXL eX hnX hatX hA5 e3 hN
        obtain ⟨WX, hWX⟩ : ∃ WX, WX = w10.alloc (.cells #[.slice p1 q1 r1, .slice (some ⟨bq, oq, none⟩) 1 r2, .slice p3 q3 r3, .slice p4 q4 r4] 35) := ⟨_, rfl⟩
        have VX := Lib.hid (show Ext W8 WX by rw [hWX]; exact V10.out.trans ((Ext.refl _).alloc _))
        have b0 := (HBx8.out.ext VX.out).c0; have b1 := (HBx8.out.ext VX.out).c1; have b2 := (HBx8.out.ext VX.out).c2; have b3 := (HBx8.out.ext VX.out).c3
        obtain ⟨d0, d1⟩ := (HX8.out.ext VX.out).at
        simp only [Nat.zero_add] at d1
        have hN3 := cell_alloc hN2 (.cells #[.slice p1 q1 r1, .slice (some ⟨bq, oq, none⟩) 1 r2, .slice p3 q3 r3, .slice p4 q4 r4] 35)
        rw [hWX] at b0 b1 b2 b3 d0 d1
        have HWX := Lib.hid hWX
        clear hWX hN2
        have HLk := Lib.hid (show ∀ w', Ext W8 w' → Calls Tryd.prog 24 #[.agg #[.slice (some ⟨t0, 0, none⟩) 6 6, .slice (some ⟨c0, 0, none⟩) 1 1, .slice (some ⟨h0, 0, none⟩) 2 2, .slice none 0 0], .agg #[.int .u8 1, .int .i64 0], .agg #[.int .u8 1, .int .i64 0]] w' fun e w'' => e = .returned (.int .i64 0) ∧ Ext w' w'' from fun w' x => by
          have := Linking_calls _ _ _ _ _ ⟨1, 0⟩ ⟨1, 0⟩ w' (HFB8.out w' x) (by decide)
          rw [ex_lnk0] at this
          exact this)
        go_wp2_with fail
        rw [← HWX.out]
        clear b0 b1 b2 b3 d0 d1 hN3
        refine (HLk.out WX VX.out).mono ?_
        rintro e w11 ⟨rfl, x11⟩
        have X11 := Lib.hid (X8.out.trans (VX.out.trans x11))
        clear x11
        go_wp2_with fail
        refine (Lives_calls w11 (HT.out.ext X11.out)).mono ?_
        rintro e w12 ⟨rfl, x12⟩
        have X12 := Lib.hid (X11.out.trans x12)
        clear x12
        go_wp2
        go_ret
        exact ⟨rfl, X12.out⟩
end Go.Proofs.YtlhkehfplcclgaaDoor
