/- checkCrossings. -/
import Derived.Test.YtlhkehfplcclgaaDoorVg
namespace Go.Proofs.YtlhkehfplcclgaaDoor
set_option linter.unusedVariables false
set_option linter.unusedSimpArgs false
set_option maxRecDepth 8000
open Go Go.RowKit

/-- Crossing i is as it should be. -/
def crB (t : Tab) (cr : List Xg) (i : Nat) : Bool :=
  hasB t (xi cr i).a && (hasB t (xi cr i).b && (decide (cmpN (xi cr i).a (xi cr i).b < 0) && (decide (-1048576 ≤ (xi cr i).n) && (decide ((xi cr i).n ≤ 1048576) && (decide ((xi cr i).n ≠ 0) && (decide (i = 0) || decide (cmpX (xi cr (i - 1)) (xi cr i) < 0)))))))
def cchk (t : Tab) (cr : List Xg) : Int := if (List.range cr.length).all (crB t cr) then 0 else 1
theorem cchk_ok {t : Tab} {cr : List Xg} (h : ∀ i, i < cr.length → crB t cr i = true) : cchk t cr = 0 := if_pos (List.all_eq_true.2 fun i hi => h i (List.mem_range.1 hi))
theorem cchk_bad {t : Tab} {cr : List Xg} {i : Nat} (hi : i < cr.length) (h : crB t cr i = false) : cchk t cr = 1 := if_neg fun hh => by
  have := List.all_eq_true.1 hh i (List.mem_range.2 hi)
  rw [h] at this; cases this
set_option maxHeartbeats 16000000 in
theorem ChkX_calls (tv cv hv fv : Value) (f : Fab) (w : World) (h : FB w tv cv hv fv f) (hin : ∀ c ∈ f.cr, c.In) (hl : f.cr.length ≤ 100000) :
    Calls Tryd.prog 45 #[.agg #[tv, cv, hv, fv]] w fun e w' => e = .returned (.int .i64 (cchk f.ys f.cr)) ∧ Ext w w' := by
  obtain ⟨ct, hT⟩ := h.t
  obtain ⟨cc, hC⟩ := h.c
  obtain ⟨ta, tn, rfl, htn, htc, ht9, _⟩ := hT.open
  clear htn
  obtain ⟨ao, n, rfl, hn, hnc, hc9, hat⟩ := hC.open
  have Hin := Lib.hid (fun i (hi : i < n) => hin (xi f.cr i) (xi_mem (by omega)))
  have hn5 : n ≤ 100000 := by omega
  obtain ⟨W, hW⟩ : ∃ W, W = w.alloc (.cells #[.slice ta tn ct, .slice ao n cc, hv, fv] 35) := ⟨_, rfl⟩
  have xW : Ext w W := by rw [hW]; exact (Ext.refl _).alloc _
  have b4 : B4 W w.heap.size (.slice ta tn ct) (.slice ao n cc) hv fv 35 := by rw [hW]; exact B4.new _ _ _ _ _ _
  have hHas := fun w' a (x : Ext W w') (ha : Nm.In a) => Has_calls (.slice ta tn ct) ct f.ys a w' (hT.ext (xW.trans x)) ha
  have Hat := Lib.hid (fun i (hi : i < n) => (by obtain ⟨b, o, e, ha⟩ := hat i hi; exact ⟨b, o, e, ha.ext xW⟩ : ∃ b o, ao = some ⟨b, o, none⟩ ∧ At5 W b (o + i * 5) (xi f.cr i)))
  obtain ⟨R, hR⟩ : ∃ R, R = cchk f.ys f.cr := ⟨_, rfl⟩
  have HOk := Lib.hid (show (∀ i, i < n → crB f.ys f.cr i = true) → R = 0 from fun hh => by rw [hR]; exact cchk_ok fun i hi => hh i (by omega))
  have HBad := Lib.hid (show ∀ i, i < n → crB f.ys f.cr i = false → R = 1 from fun i hi hh => by rw [hR]; exact cchk_bad (by omega) hh)
  obtain ⟨CB, hCB⟩ : ∃ CB, CB = crB f.ys f.cr := ⟨_, rfl⟩
  obtain ⟨C, hCx⟩ : ∃ C, C = xi f.cr := ⟨_, rfl⟩
  have HCB := Lib.hid (show ∀ i, CB i = (hasB f.ys (C i).a && (hasB f.ys (C i).b && (decide (cmpN (C i).a (C i).b < 0) && (decide (-1048576 ≤ (C i).n) && (decide ((C i).n ≤ 1048576) && (decide ((C i).n ≠ 0) && (decide (i = 0) || decide (cmpX (C (i - 1)) (C i) < 0)))))))) from fun i => by rw [hCB, hCx]; rfl)
  rw [← hR]
  rw [← hCB] at HOk HBad
  rw [← hCx] at Hat Hin
  have HHas := Lib.hid hHas; have HB := Lib.hid b4; have HW := Lib.hid hW; have XW := Lib.hid xW
  have c1 := b4.c1
  rw [hW] at c1
  clear hHas b4 hW xW hat hR hCB hCx hn hC hT h hin hl
  go_enter Tryd.func45, Tryd.ntmps45
  go_wp2
  rw [← HW.out]
  go_loopw [3, 4, 8] (fun _ _ i wr => ∃ k : Nat, k ≤ n ∧ i = .int .i64 k ∧ Hid (Ext W wr ∧ ∀ j, j < k → CB j = true)) (fun _ _ i _ => n - (intOf i).toNat)
  case atStart => exact ⟨0, Nat.zero_le _, rfl, Lib.hid ⟨Ext.refl _, fun j hj => by omega⟩⟩
  case round =>
    obtain ⟨k, hk, rfl, G⟩ := hrel
    by_cases hlt : k < n
    · obtain ⟨b, o, rfl, hA⟩ := Hat.out k hlt
      have e1 : (k : Int) < n := by omega
      have e2 : (0 : Int) ≤ k := by omega
      have hA0 := hA.ext G.out.1
      have hIn0 := Hin.out k hlt
      have hCk := HCB.out k
      obtain ⟨c, hc⟩ : ∃ c, c = C k := ⟨_, rfl⟩
      obtain ⟨p, hp⟩ : ∃ p, p = C (k - 1) := ⟨_, rfl⟩
      have hpA : 0 < k → At5 wr b (o + (k - 1) * 5) p := fun h0 => by
        obtain ⟨b', o', e, h2⟩ := Hat.out (k - 1) (by omega)
        obtain ⟨rfl, rfl⟩ : b = b' ∧ o = o' := by simpa using e
        rw [hp]; exact h2.ext G.out.1
      rw [← hc] at hA0 hIn0 hCk
      rw [← hp] at hCk
      have HCk := Lib.hid hCk; have HpA := Lib.hid hpA
      obtain ⟨x0, x1, x2, x3, x4⟩ := hA0
      obtain ⟨hi1, hi2, hi3⟩ := hIn0
      have I1 := Lib.hid hi1; have I2 := Lib.hid hi2
      obtain ⟨W1, hW1⟩ : ∃ W1, W1 = wr.alloc (.cells #[.int .u8 c.a.y, .int .i64 c.a.n, .int .u8 c.b.y, .int .i64 c.b.n, .int .i64 c.n] 52) := ⟨_, rfl⟩
      have Y1 := Lib.hid (show Ext W W1 by rw [hW1]; exact G.out.1.trans ((Ext.refl _).alloc _))
      have N1 := Lib.hid (show B5 W1 wr.heap.size c 52 by rw [hW1]; exact B5.new wr c _)
      have HW1 := Lib.hid hW1
      have f0 := cell_alloc (G.out.1.cell HB.out.c0) (.cells #[.int .u8 c.a.y, .int .i64 c.a.n, .int .u8 c.b.y, .int .i64 c.b.n, .int .i64 c.n] 52)
      have f1 : w.heap.size < wr.heap.size := by have h1 := G.out.1.size; have h2 := HB.out; unfold B4 at h2; have h3 := (Array.getElem?_eq_some_iff.1 h2).1; omega
      have HP := Lib.hid (fun h0 => (hpA h0).ext (show Ext wr W1 by rw [hW1]; exact (Ext.refl _).alloc _))
      clear hA hp hc hCk hpA hi1 hi2 hi3 hW1
      go_wp2_with fail
      rw [← HW1.out]
      clear x0 x1 x2 x3 x4 f0 f1
      refine (HHas.out W1 c.a Y1.out I1.out).mono ?_
      rintro e w2 ⟨rfl, x⟩
      have Y2 := Lib.hid (Y1.out.trans x); have N2 := Lib.hid (N1.out.ext x); have P2 := Lib.hid (fun h0 => (HP.out h0).ext x)
      clear x
      have f0 := Y2.out.cell HB.out.c0; have f1 := Y2.out.cell HB.out.c1
      obtain ⟨y0, y1, y2, y3, y4⟩ := (N2.out.at : At5 w2 wr.heap.size 0 c)
      simp only [Nat.zero_add] at y1 y2 y3 y4
      rcases hb1 : hasB f.ys c.a with _ | _
      · have hbad := HBad.out k hlt (by rw [HCk.out, hb1]; rfl)
        go_wp2
        go_ret
        exact ⟨ret_int (by first | rfl | rw [hbad]), XW.out.trans Y2.out⟩
      go_wp2_with fail
      clear f0 f1 y0 y1 y2 y3 y4
      refine (HHas.out w2 c.b Y2.out I2.out).mono ?_
      rintro e w3 ⟨rfl, x⟩
      have Y3 := Lib.hid (Y2.out.trans x); have N3 := Lib.hid (N2.out.ext x); have P3 := Lib.hid (fun h0 => (P2.out h0).ext x)
      clear x
      have f0 := Y3.out.cell HB.out.c0; have f1 := Y3.out.cell HB.out.c1
      obtain ⟨y0, y1, y2, y3, y4⟩ := (N3.out.at : At5 w3 wr.heap.size 0 c)
      simp only [Nat.zero_add] at y1 y2 y3 y4
      rcases hb2 : hasB f.ys c.b with _ | _
      · have hbad := HBad.out k hlt (by rw [HCk.out, hb1, hb2]; rfl)
        go_wp2
        go_ret
        exact ⟨ret_int (by first | rfl | rw [hbad]), XW.out.trans Y3.out⟩
      go_wp2_with fail
      clear f0 f1 y0 y1 y2 y3 y4
      refine (Compare_calls c.a c.b w3).mono ?_
      rintro e w4 ⟨rfl, x⟩
      have Y4 := Lib.hid (Y3.out.trans x); have N4 := Lib.hid (N3.out.ext x); have P4 := Lib.hid (fun h0 => (P3.out h0).ext x)
      clear x
      have f0 := Y4.out.cell HB.out.c0; have f1 := Y4.out.cell HB.out.c1
      obtain ⟨y0, y1, y2, y3, y4⟩ := (N4.out.at : At5 w4 wr.heap.size 0 c)
      simp only [Nat.zero_add] at y1 y2 y3 y4
      obtain ⟨cc1, hcc⟩ : ∃ cc1, cc1 = cmpN c.a c.b := ⟨_, rfl⟩
      rw [← hcc]
      by_cases hb3 : cc1 < 0
      case neg =>
        have hbad := HBad.out k hlt (by rw [HCk.out, hb1, hb2, ← hcc, decide_eq_false hb3]; rfl)
        have e3 : (0 : Int) ≤ cc1 := by omega
        clear hcc
        go_wp2
        go_ret
        exact ⟨ret_int (by first | rfl | rw [hbad]), XW.out.trans Y4.out⟩
      have e3 : ¬ (0 : Int) ≤ cc1 := by omega
      have Hcc := Lib.hid hcc
      clear hcc
      by_cases hb4 : -1048576 ≤ c.n
      case neg =>
        have hbad := HBad.out k hlt (by rw [HCk.out, hb1, hb2, ← Hcc.out, decide_eq_true hb3, decide_eq_false hb4]; rfl)
        have e4 : c.n < -1048576 := by omega
        go_wp2
        go_ret
        exact ⟨ret_int (by first | rfl | rw [hbad]), XW.out.trans Y4.out⟩
      have e4 : ¬ c.n < -1048576 := by omega
      by_cases hb5 : c.n ≤ 1048576
      case neg =>
        have hbad := HBad.out k hlt (by rw [HCk.out, hb1, hb2, ← Hcc.out, decide_eq_true hb3, decide_eq_true hb4, decide_eq_false hb5]; rfl)
        have e5 : 1048576 < c.n := by omega
        go_wp2
        go_ret
        exact ⟨ret_int (by first | rfl | rw [hbad]), XW.out.trans Y4.out⟩
      have e5 : ¬ 1048576 < c.n := by omega
      by_cases hb6 : c.n ≠ 0
      case neg =>
        have hbad := HBad.out k hlt (by rw [HCk.out, hb1, hb2, ← Hcc.out, decide_eq_true hb3, decide_eq_true hb4, decide_eq_true hb5, decide_eq_false hb6]; rfl)
        have e6 : (c.n == 0) = true := by simpa using hb6
        go_wp2
        go_ret
        exact ⟨ret_int (by first | rfl | rw [hbad]), XW.out.trans Y4.out⟩
      have e6 : (c.n == 0) = false := by simpa using hb6
      by_cases hk0 : k = 0
      · have hok : CB k = true := by rw [HCk.out, hb1, hb2, ← Hcc.out, decide_eq_true hb3, decide_eq_true hb4, decide_eq_true hb5, decide_eq_true hb6, decide_eq_true hk0]; rfl
        have HN := Lib.hid (show ∀ j, j < k + 1 → CB j = true from fun j hj => by
          rcases Nat.lt_or_ge j k with h1 | h1
          · exact G.out.2 j h1
          · obtain rfl : j = k := by omega
            exact hok)
        have e7 : ¬ (0 : Int) < k := by omega
        have e8 : decide ((0 : Int) < k) = false := decide_eq_false e7
        clear hok
        go_wp2
        go_quiet (fail)
        go_wp2
        go_roundw
        case rel => exact ⟨k + 1, by omega, by go_num, Lib.hid ⟨Y4.out.trans (by (focus (repeat (first | (with_reducible exact Ext.refl _) | (with_reducible apply Ext.drew) | (with_reducible apply Ext.drewN) | (with_reducible apply Ext.alloc))))), HN.out⟩⟩
        case measure => simp [intOf]; omega
      · have e7 : (0 : Int) < k := by omega
        have e7n : 0 < k := by omega
        have e8 : decide ((0 : Int) < k) = true := decide_eq_true e7
        have e8n : decide (0 < k) = true := decide_eq_true e7n
        have e9 : IntKind.i64.wrap ((k : Int) - 1) = (k : Int) - 1 := IntWalk.i64_in _ ⟨by omega, by omega⟩
        have e10 : ((k : Int) - 1).toNat = k - 1 := by omega
        have e11 : (0 : Int) ≤ (k : Int) - 1 := by omega
        have e13 : (1 : Int) ≤ k := by omega
        have e14 : 1 ≤ k := by omega
        have e12 : (k : Int) - 1 < n := by omega
        obtain ⟨z0, z1, z2, z3, z4⟩ := P4.out (by omega)
        obtain ⟨q0_1, q0_2, q0_3, q0_4, q0_5, q0_6, q0_7, q0_8, q0_9, q0_10, q0_11⟩ := And.intro f1 (And.intro y0 (And.intro y1 (And.intro y2 (And.intro y3 (And.intro y4 (And.intro z0 (And.intro z1 (And.intro z2 (And.intro z3 z4)))))))))
        go_wp2
        go_region_held3 (fun w' => w'.cell? ⟨w.heap.size, 1, Option.none⟩ = some (.slice (some ⟨b, o, none⟩) n cc) ∧ w'.cell? ⟨wr.heap.size, 0, Option.none⟩ = some (.int .u8 c.a.y) ∧ w'.cell? ⟨wr.heap.size, 1, Option.none⟩ = some (.int .i64 c.a.n) ∧ w'.cell? ⟨wr.heap.size, 2, Option.none⟩ = some (.int .u8 c.b.y) ∧ w'.cell? ⟨wr.heap.size, 3, Option.none⟩ = some (.int .i64 c.b.n) ∧ w'.cell? ⟨wr.heap.size, 4, Option.none⟩ = some (.int .i64 c.n) ∧ w'.cell? ⟨b, o + (k - 1) * 5, Option.none⟩ = some (.int .u8 p.a.y) ∧ w'.cell? ⟨b, o + (k - 1) * 5 + 1, Option.none⟩ = some (.int .i64 p.a.n) ∧ w'.cell? ⟨b, o + (k - 1) * 5 + 2, Option.none⟩ = some (.int .u8 p.b.y) ∧ w'.cell? ⟨b, o + (k - 1) * 5 + 3, Option.none⟩ = some (.int .i64 p.b.n) ∧ w'.cell? ⟨b, o + (k - 1) * 5 + 4, Option.none⟩ = some (.int .i64 p.n)) (first | (with_reducible exact ⟨q0_1, q0_2, q0_3, q0_4, q0_5, q0_6, q0_7, q0_8, q0_9, q0_10, q0_11⟩) | (with_reducible exact ⟨q1_1, q1_2, q1_3, q1_4, q1_5, q1_6, q1_7, q1_8, q1_9, q1_10, q1_11⟩) | go_keep) (first
          | (go_at_call 51; (refine (Pairs_calls p c _).mono ?_); intro e w5 hh; obtain ⟨rfl, x⟩ := hh; have Xa : Hid (Ext w4 w5) := Lib.hid (Ext.trans (by ((repeat (first | (with_reducible exact Ext.refl _) | (with_reducible apply Ext.drew) | (with_reducible apply Ext.drewN) | (with_reducible apply Ext.alloc))); done)) x); have q1_1 := Xa.out.cell q0_1; have q1_2 := Xa.out.cell q0_2; have q1_3 := Xa.out.cell q0_3; have q1_4 := Xa.out.cell q0_4; have q1_5 := Xa.out.cell q0_5; have q1_6 := Xa.out.cell q0_6; have q1_7 := Xa.out.cell q0_7; have q1_8 := Xa.out.cell q0_8; have q1_9 := Xa.out.cell q0_9; have q1_10 := Xa.out.cell q0_10; have q1_11 := Xa.out.cell q0_11; clear x))
        obtain ⟨cx, hcx⟩ : ∃ cx, cx = cmpX p c := ⟨_, rfl⟩
        rw [← hcx]
        have Hcx := Lib.hid hcx
        clear hcx
        by_cases hb7 : cx < 0
        · have e15 : ¬ (0 : Int) ≤ cx := by omega
          have hok : CB k = true := by rw [HCk.out, hb1, hb2, ← Hcc.out, ← Hcx.out, decide_eq_true hb3, decide_eq_true hb4, decide_eq_true hb5, decide_eq_true hb6, decide_eq_true hb7]; simp
          have HN := Lib.hid (show ∀ j, j < k + 1 → CB j = true from fun j hj => by
            rcases Nat.lt_or_ge j k with h1 | h1
            · exact G.out.2 j h1
            · obtain rfl : j = k := by omega
              exact hok)
          clear hok
          go_wp2
          go_roundw
          case rel => exact ⟨k + 1, by omega, by go_num, Lib.hid ⟨Y4.out.trans Xa.out, HN.out⟩⟩
          case measure => simp [intOf]; omega
        · have e15 : (0 : Int) ≤ cx := by omega
          have hbad := HBad.out k hlt (by rw [HCk.out, hb1, hb2, ← Hcc.out, ← Hcx.out, decide_eq_true hb3, decide_eq_true hb4, decide_eq_true hb5, decide_eq_true hb6, decide_eq_false hb7, decide_eq_false hk0]; rfl)
          go_wp2
          go_ret
          exact ⟨ret_int (by first | rfl | rw [hbad]), XW.out.trans (Y4.out.trans Xa.out)⟩
    · obtain rfl : k = n := by omega
      have e1 : ¬ (k : Int) < k := by omega
      go_wp2
      go_ret
      refine ⟨ret_int ?_, XW.out.trans G.out.1⟩
      rw [HOk.out G.out.2]
end Go.Proofs.YtlhkehfplcclgaaDoor
