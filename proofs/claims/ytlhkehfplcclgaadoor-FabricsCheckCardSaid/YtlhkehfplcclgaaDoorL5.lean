/- Texts of this claim in one file: libraries and walks. -/
import Derived.Deep.LoopGhost
import Derived.Test.YtlhkehfplcclgaaDoorL4
/- loops.first: the walk. The order that it makes has all loops, where the table is acyclic. -/
namespace Go.Proofs.YtlhkehfplcclgaaDoor
set_option linter.unusedVariables false
set_option linter.unusedSimpArgs false
set_option maxRecDepth 8000
open Go Go.RowKit

theorem BN.put {w : World} {b : Nat} {z : Nm} (h : BN w b z) (a : Nm) : BN ((w.setCell ⟨b, 0, none⟩ (.int .u8 a.y)).setCell ⟨b, 1, none⟩ (.int .i64 a.n)) b a := by
  unfold BN at h ⊢
  simp [World.setCell, Array.getElem?_modify, h]
/-- What first returns: its own list of as many names as there are loops. -/
def RetF (w0 : World) (t : Tab) (en : Ending) (w' : World) : Prop :=
  ∃ v n, en = .returned v ∧ ((n : Nat) : Int) = cntT t ∧ (∃ ns : List Nm, n = ns.length ∧ w'.ownsRow w0.heap.size 41 2 v n (ns.map Nm.cs).flatten) ∧ Ext w0 w'
/-- Outer state. -/
def St1 (B : Nat) (w0 wr : World) (t : Tab) (tn : Nat) (r : Value) (s g1 g2 : Nat) (mk th : Nat → Nat) : Prop :=
  FS B w0 wr tn r s g1 g2 mk th ∧ FInv t tn mk th ∧ s = sumN mk tn
set_option maxHeartbeats 16000000 in
theorem First_calls (tv : Value) (ct : Nat) (t : Tab) (rk : Nm → Nat) (w : World) (h : TB w tv ct t) (hr : RightT t) (hac : Acyc t rk) :
    Calls Tryd.prog 75 #[tv] w (RetF w t) := by
  have hCnt := CountL_calls tv ct t w h hr.n4 hr.n5
  obtain ⟨ta, tn, rfl, htn, htc, ht9, htt⟩ := h.open
  have hs0 := cntT_sum t tn (by omega)
  have e0 : cntT t = (sumN (fun y => (yi t y).length) tn : Nat) := by rw [← hs0, htn, List.take_length]
  obtain ⟨all, hall⟩ : ∃ all, all = sumN (fun y => (yi t y).length) tn := ⟨_, rfl⟩
  have hall9 : all ≤ 100000 := by
    have h1 := cntT_bd hr.n5
    have h2 := Nat.mul_le_mul_right 1000 hr.n4
    omega
  rw [← hall] at e0
  rw [e0] at hCnt
  obtain ⟨g1, hg1⟩ : ∃ g, g = w.heap.size + 1 := ⟨_, rfl⟩
  obtain ⟨g2, hg2⟩ : ∃ g, g = w.heap.size + 1 + 1 := ⟨_, rfl⟩
  have hmk0 : ∀ w, (Instr.makeSlice 33 (.int .i64 0) (.int .i64 (all : Int))).run Tryd.prog w = .ok (.slice (some ⟨w.heap.size, 0, none⟩) 0 all) (w.alloc (.cells (madeCells #[.int .u8 0, .int .i64 0] (all * 2)) 41)) := fun w => make_k0 ekN (by decide) all (by omega) .i64 .i64 w
  have hmk1 : ∀ w, (Instr.makeSlice 58 (.int .i64 (tn : Int)) (.int .i64 (tn : Int))).run Tryd.prog w = .ok (.slice (some ⟨w.heap.size, 0, none⟩) tn tn) (w.alloc (.cells (madeCells #[.int .i64 0] tn) 3)) := fun w => (by have := make_k weiI (by decide) tn (by have := hr.n4; omega) .i64 .i64 w; rw [Nat.mul_one] at this; exact this)
  obtain ⟨W, hW⟩ : ∃ W, W = ((w.alloc (.cells (madeCells #[.int .u8 0, .int .i64 0] (all * 2)) 41)).alloc (.cells (madeCells #[.int .i64 0] tn) 3)).alloc (.cells (madeCells #[.int .i64 0] tn) 3) := ⟨_, rfl⟩
  have hFS : FS w.heap.size w W tn (.slice (some ⟨w.heap.size, 0, none⟩) 0 all) 0 g1 g2 (fun _ => 0) (fun _ => 0) := by
    have x2 : Ext (w.alloc (.cells (madeCells #[.int .u8 0, .int .i64 0] (all * 2)) 41)) W := by rw [hW]; exact ((Ext.refl _).alloc _).alloc _
    refine ⟨by rw [hW]; exact (((Ext.refl _).alloc _).alloc _).alloc _, ⟨[], rfl, own_extk (own_made (by unfold maxLen; omega)) x2⟩, ?_, ?_, by omega, by omega, by omega⟩
    · have h1 := World.rowIs_made (w.alloc (.cells (madeCells #[.int .u8 0, .int .i64 0] (all * 2)) 41)) (.int .i64 0) tn 3
      have h2 := h1.alloc (.cells (madeCells #[.int .i64 0] tn) 3)
      rw [← hW] at h2
      rw [hg1]; simpa using h2
    · have h1 := World.rowIs_made ((w.alloc (.cells (madeCells #[.int .u8 0, .int .i64 0] (all * 2)) 41)).alloc (.cells (madeCells #[.int .i64 0] tn) 3)) (.int .i64 0) tn 3
      rw [← hW] at h1
      rw [hg2]; simpa using h1
  have H0 := Lib.hid (show St1 w.heap.size w W t tn (.slice (some ⟨w.heap.size, 0, none⟩) 0 all) 0 g1 g2 (fun _ => 0) (fun _ => 0) from ⟨hFS, FInv.zero, by
    have : ∀ n, sumN (fun _ => 0) n = 0 := fun n => by induction n with
      | zero => rfl
      | succ n ih => rw [sumN, ih]
    rw [this]⟩)
  have HC := Lib.hid hCnt
  have HT := Lib.hid (show ∀ y, y < tn → (∃ b o a m d, ta = some ⟨b, o, none⟩ ∧ w.cell? ⟨b, o + y, none⟩ = some (.slice a m d) ∧ m = (yi t y).length ∧ LR w (.slice a m d) d (yi t y)) ∧ (yi t y).length ≤ 1000 ∧ (∀ l ∈ yi t y, RightL t l) from fun y hy => ⟨htt y hy, hr.n5 _ (yi_mem (by omega)), fun l hl => (hr.ri _ (yi_mem (by omega)) l hl).1⟩)
  have tn9 : tn ≤ 100 := by have := hr.n4; omega
  have HW := Lib.hid hW; have Hg1 := Lib.hid hg1; have Hg2 := Lib.hid hg2; have Hall := Lib.hid hall; have Htn := Lib.hid htn; have Hac := Lib.hid hac; have HE0 := Lib.hid e0
  have g1l : w.heap.size + 1 ≤ g1 := by omega
  have g2l : w.heap.size + 1 ≤ g2 := by omega
  have hne : g1 ≠ g2 := by omega
  have HNe := Lib.hid hne
  clear hCnt h hr hac htt htn hW hg1 hg2 hall hFS hs0 e0 hne
  go_enter Tryd.func75, Tryd.ntmps75
  go_wp2_with fail
  refine HC.out.mono ?_
  rintro e w' ⟨rfl, rfl⟩
  go_wp2
  rw [← HW.out, ← Hg2.out, ← Hg1.out]
  go_loopg [4, 7, 8, 9, 10, 11] all (fun gk r _ _ _ _ _ wr => ∃ (ao : Option Addr) (s c : Nat) (mk th : Nat → Nat), s + gk = all ∧ r = .slice ao s c ∧ s ≤ c ∧ Hid (St1 w'.heap.size w' wr t tn r s g1 g2 mk th))
  case atStart => exact ⟨_, 0, all, _, _, by omega, rfl, by omega, H0⟩
  case round =>
    obtain ⟨ao, s, c, mk, th0, hsg, rfl, hsc, G⟩ := hrel
    by_cases hlt : s < all
    · have e1 : (s : Int) < all := by omega
      go_wp2
      go_step3
      go_wp2
      go_step3
      go_wp2
      obtain ⟨wo, hwo⟩ : ∃ wo, wo = wr := ⟨_, rfl⟩
      subst hwo
      go_loopg [4, 8, 9, 10, 11, 30] tn (fun gy r8 _ _ _ _ i wq => ∃ (y : Nat) (th : Nat → Nat), y + gy = tn ∧ i = .int .i64 y ∧ r8 = .slice ao s c ∧ Hid (St1 w'.heap.size w' wq t tn (.slice ao s c) s g1 g2 mk th ∧ ∀ j, j < y → Stuck t mk j))
      case atStart => exact ⟨0, th0, by omega, rfl, rfl, Lib.hid ⟨G.out, fun j hj => by omega⟩⟩
      case round =>
        obtain ⟨y, th, hyg, rfl, rfl, G2⟩ := hrel
        by_cases hyt : y < tn
        · obtain ⟨⟨b1, o1, ra, rm, rd, rfl, hc, hrm, hLR⟩, hr9, hrr⟩ := HT.out y hyt
          have f1 : (y : Int) < tn := by omega
          have f2 : (0 : Int) ≤ y := by omega
          have hx0 : Ext w' wr := G2.out.1.1.x
          have cr := hx0.cell hc
          have cm := G2.out.1.1.r1.cell hyt
          have hmle := G2.out.1.2.1.m y hyt
          obtain ⟨m, hm⟩ : ∃ m, m = mk y := ⟨_, rfl⟩
          rw [← hm] at cm hmle
          have Hm := Lib.hid hm; have Hrm := Lib.hid hrm
          rw [← hrm] at hmle
          by_cases hmr : m = rm
          · have q1 : ((m : Int) == (rm : Int)) = true := by simp [hmr]
            have HN := Lib.hid (show St1 w'.heap.size w' wr t tn (.slice ao s c) s g1 g2 mk th ∧ ∀ j, j < y + 1 → Stuck t mk j from ⟨G2.out.1, fun j hj => by
              rcases Nat.lt_or_ge j y with h1 | h1
              · exact G2.out.2 j h1
              · obtain rfl : j = y := by omega
                exact .inl (by rw [← hm, hmr, hrm])⟩)
            clear hmr hm hrm hc hLR hr9 hrr hx0 hmle
            go_wp2
            go_roundg (tn - (y + 1))
            case measure => omega
            case rel => exact ⟨y + 1, th, by omega, by go_num, rfl, HN⟩
          · have q1 : ((m : Int) == (rm : Int)) = false := beq_eq_false_iff_ne.2 (by omega)
            have hml : m < rm := by omega
            obtain ⟨a', n', e, hn', _, _, hat⟩ := hLR.open
            have e2 : ra = a' ∧ rm = n' := by simpa using e
            obtain ⟨b2, o2, a1, n1, d1, a2, n2, d2, hra, hAL, hn1, hn2, hNL, hPL⟩ := hat m (by omega)
            rw [← e2.1] at hra
            subst hra
            have hRL := hrr _ (li_mem (l := yi t y) (i := m) (by omega))
            obtain ⟨l, hl⟩ : ∃ l, l = li (yi t y) m := ⟨_, rfl⟩
            rw [← hl] at hAL hNL hPL hRL hn1 hn2
            have n19 : n1 ≤ 4 := by have := hRL.n1; omega
            have n29 : n2 ≤ 1000 := by have := hRL.n2; omega
            have i1 : (m : Int) < rm := by omega
            have i2 : (0 : Int) ≤ m := by omega
            obtain ⟨x0, x1, x2, x3⟩ := hAL.ext hx0
            obtain ⟨W1, hW1⟩ : ∃ W1, W1 = wr.alloc (.cells #[.int .u8 l.bed, .bool l.new, .slice a1 n1 d1, .slice a2 n2 d2] 46) := ⟨_, rfl⟩
            obtain ⟨nb, hnb⟩ : ∃ nb, nb = wr.heap.size := ⟨_, rfl⟩
            have xx : Ext wr W1 := by rw [hW1]; exact (Ext.refl _).alloc _
            have hBw : w'.heap.size ≤ wr.heap.size := hx0.size
            have N1 : B4 W1 nb (.int .u8 l.bed) (.bool l.new) (.slice a1 n1 d1) (.slice a2 n2 d2) 46 := by rw [hW1, hnb]; exact B4.new _ _ _ _ _ _
            have hth := (G2.out.1.2.1.n y hyt (by rw [← hm, ← hrm]; exact hml)).1
            rw [← hm, ← hl, needL_len, ← hn1, ← hn2] at hth
            obtain ⟨nd, hnd⟩ : ∃ nd, nd = n1 + n2 := ⟨_, rfl⟩
            have S1 := Lib.hid (show St1 w'.heap.size w' W1 t tn (.slice ao s c) s g1 g2 mk th ∧ B4 W1 nb (.int .u8 l.bed) (.bool l.new) (.slice a1 n1 d1) (.slice a2 n2 d2) 46 from ⟨⟨G2.out.1.1.ext xx hBw, G2.out.1.2.1, G2.out.1.2.2⟩, N1⟩)
            have nb1 : g1 ≠ nb := by have := G2.out.1.1.r1.lt; omega
            have nb2 : g2 ≠ nb := by have := G2.out.1.1.r2.lt; omega
            have HNL := Lib.hid hNL; have HPL := Lib.hid hPL; have HRL := Lib.hid hRL; have HW1 := Lib.hid hW1; have Hnb := Lib.hid hnb; have Hl := Lib.hid hl; have Hn1 := Lib.hid hn1; have Hn2 := Lib.hid hn2; have Hnd := Lib.hid hnd
            have HNb1 := Lib.hid nb1; have HNb2 := Lib.hid nb2
            have hnd9 : nd ≤ 1004 := by omega
            have rm9 : rm ≤ 1000 := by omega
            have t1 : IntKind.i64.wrap ((n1 : Int) + n2) = nd := by rw [hnd]; exact IntWalk.i64_in _ ⟨by omega, by omega⟩
            have Hth := Lib.hid (show th y ≤ nd by omega)
            clear hmr hm hrm hc hLR hr9 hrr hx0 hmle e hn' hat hAL hn1 hn2 hNL hPL hRL hl hW1 hnb xx hBw N1 hth hnd nb1 nb2 e2
            go_wp2
            rw [← HW1.out, ← Hnb.out]
            obtain ⟨wo2, hwo2⟩ : ∃ wo2, wo2 = wr := ⟨_, rfl⟩
            subst hwo2
            clear x0 x1 x2 x3 cr cm
            go_loopg [11] (nd - th y) (fun g3 _ wq => ∃ th3 : Nat → Nat, th3 y + g3 = nd ∧ Hid (St1 w'.heap.size w' wq t tn (.slice ao s c) s g1 g2 mk th3 ∧ B4 wq nb (.int .u8 l.bed) (.bool l.new) (.slice a1 n1 d1) (.slice a2 n2 d2) 46))
            case atStart => exact ⟨th, by have := Hth.out; omega, S1⟩
            case round =>
              obtain ⟨th3, hg3, G3⟩ := hrel
              have c6 := G3.out.1.1.r2.cell hyt
              have c2 := G3.out.2.c2
              have c3 := G3.out.2.c3
              obtain ⟨j, hj⟩ : ∃ j, j = th3 y := ⟨_, rfl⟩
              rw [← hj] at c6
              have Hj := Lib.hid hj
              by_cases hjt : j < nd
              · have k1 : (j : Int) < nd := by omega
                have k2 : decide ((j : Int) < nd) = true := decide_eq_true k1
                clear hj
                go_wp2
                go_quiet (fail)
                obtain ⟨W2, hW2⟩ : ∃ W2, W2 = wr.drewN nq := ⟨_, rfl⟩
                have y2 : Ext wr W2 := by rw [hW2]; exact (Ext.refl _).drewN nq
                obtain ⟨a, ha⟩ : ∃ a, a = ni (needL l) j := ⟨_, rfl⟩
                have S2 := Lib.hid (show Ext w' W2 ∧ St1 w'.heap.size w' W2 t tn (.slice ao s c) s g1 g2 mk th3 ∧ B4 W2 nb (.int .u8 l.bed) (.bool l.new) (.slice a1 n1 d1) (.slice a2 n2 d2) 46 from ⟨Ext.trans (show Ext w' wr from G3.out.1.1.x) y2, ⟨G3.out.1.1.ext y2 G3.out.1.1.x.size, G3.out.1.2.1, G3.out.1.2.2⟩, G3.out.2.ext y2⟩)
                have HNeed := Lib.hid (fun w5 (x5 : Ext W2 w5) => (by rw [ha]; exact Need_calls (.slice a1 n1 d1) (.slice a2 n2 d2) d1 d2 l j w5 (HNL.out.ext (S2.out.1.trans x5)) (HPL.out.ext (S2.out.1.trans x5)) (by rw [needL_len, ← Hn1.out, ← Hn2.out, ← Hnd.out]; exact hjt) (by rw [needL_len, ← Hn1.out, ← Hn2.out]; omega) : Calls Tryd.prog 83 #[.agg #[.int .u8 l.bed, .bool l.new, .slice a1 n1 d1, .slice a2 n2 d2], .int .i64 (j : Int)] w5 fun e w' => e = .returned a.val ∧ Ext w5 w'))
                have Ha := Lib.hid ha
                have HW2 := Lib.hid hW2
                have q0_1 := S2.out.2.2.c0
                have q0_2 := S2.out.2.2.c1
                have q0_3 := S2.out.2.2.c2
                have q0_4 := S2.out.2.2.c3
                have q0_5 := S2.out.2.1.1.r2.cell hyt
                rw [← Hj.out] at q0_5
                clear ha hW2 y2 c6 c2 c3
                unfold Nm.val at HNeed
                go_upto_region 13 with fail
                rw [← HW2.out]
                go_cut [11] from 49 to 81 (fun p wx => ∃ ib : Nat, p = .pointer (some ⟨ib, 0, none⟩) ∧ Hid (BN wx ib a ∧ Ext W2 wx))
                case first =>
                  refine wp_region_held_drew (S := fun w' => w'.cell? ⟨nb, 0, Option.none⟩ = some (.int .u8 l.bed) ∧ w'.cell? ⟨nb, 1, Option.none⟩ = some (.bool l.new) ∧ w'.cell? ⟨nb, 2, Option.none⟩ = some (.slice a1 n1 d1) ∧ w'.cell? ⟨nb, 3, Option.none⟩ = some (.slice a2 n2 d2) ∧ w'.cell? ⟨g2, y, Option.none⟩ = some (.int .i64 (j : Int))) (by kernel_rfl) ?_ (fun hHeld => ?_)
                  · exact ⟨q0_1, q0_2, q0_3, q0_4, q0_5⟩
                  refine wpAnyH_take (i := 0) (v := ?va183_0) rfl (by kernel_rfl) (by kernel_rfl) (by kernel_rfl) (fun _ _ _ h => h) (Or.inl ⟨by rfl, fun w hSw => ?ti183_0⟩) (by assumption) ?rest183_0
                  case ti183_0 => ((try dsimp only at hSw); go_simp; (first | done | with_reducible rfl))
                  try simp only [Act.put, List.getElem_toArray, List.getElem_cons_zero, List.getElem_cons_succ, List.setIfInBounds_toArray, List.set_cons_zero, List.set_cons_succ]
                  refine wpAnyH_take (i := 1) (v := ?va186_1) rfl (by kernel_rfl) (by kernel_rfl) (by kernel_rfl) (fun _ _ _ h => h) (Or.inl ⟨by rfl, fun w hSw => ?ti186_1⟩) (by assumption) ?rest186_1
                  case ti186_1 => ((try dsimp only at hSw); go_simp; (first | done | with_reducible rfl))
                  try simp only [Act.put, List.getElem_toArray, List.getElem_cons_zero, List.getElem_cons_succ, List.setIfInBounds_toArray, List.set_cons_zero, List.set_cons_succ]
                  refine wpAnyH_take (i := 2) (v := ?va189_2) rfl (by kernel_rfl) (by kernel_rfl) (by kernel_rfl) (fun _ _ _ h => h) (Or.inl ⟨by rfl, fun w hSw => ?ti189_2⟩) (by assumption) ?rest189_2
                  case ti189_2 => ((try dsimp only at hSw); go_simp; (first | done | with_reducible rfl))
                  try simp only [Act.put, List.getElem_toArray, List.getElem_cons_zero, List.getElem_cons_succ, List.setIfInBounds_toArray, List.set_cons_zero, List.set_cons_succ]
                  refine wpAnyH_take (i := 3) (v := ?va192_3) rfl (by kernel_rfl) (by kernel_rfl) (by kernel_rfl) (fun _ _ _ h => h) (Or.inl ⟨by rfl, fun w hSw => ?ti192_3⟩) (by assumption) ?rest192_3
                  case ti192_3 => ((try dsimp only at hSw); go_simp; (first | done | with_reducible rfl))
                  try simp only [Act.put, List.getElem_toArray, List.getElem_cons_zero, List.getElem_cons_succ, List.setIfInBounds_toArray, List.set_cons_zero, List.set_cons_succ]
                  refine wpAnyH_take (i := 4) (v := ?va195_4) rfl (by kernel_rfl) (by kernel_rfl) (by kernel_rfl) (fun _ _ _ h => h) (Or.inl ⟨by rfl, fun w hSw => ?ti195_4⟩) (by assumption) ?rest195_4
                  case ti195_4 => ((try dsimp only at hSw); go_simp; (first | done | with_reducible rfl))
                  try simp only [Act.put, List.getElem_toArray, List.getElem_cons_zero, List.getElem_cons_succ, List.setIfInBounds_toArray, List.set_cons_zero, List.set_cons_succ]
                  have hA0 := BN.new W2.drew Nm.zero
                  refine wpAnyH_ready (rs := [5, 6]) (by kernel_rfl) (by simp) ?_
                  refine AllReadyH.cons rfl (fun K hK => ?_) (AllReadyH.cons rfl (fun K hK => ?_) AllReadyH.nil)
                  · go_simp
                    refine (HNeed.out W2.drew (by (focus (repeat (first | (with_reducible exact Ext.refl _) | (with_reducible apply Ext.drew) | (with_reducible apply Ext.drewN) | (with_reducible apply Ext.alloc)))))).mono ?_
                    intro e w5 hh; obtain ⟨rfl, x⟩ := hh
                    have Xa : Hid (Ext W2 w5) := Lib.hid (Ext.trans (by (focus (repeat (first | (with_reducible exact Ext.refl _) | (with_reducible apply Ext.drew) | (with_reducible apply Ext.drewN) | (with_reducible apply Ext.alloc))))) x)
                    go_simp
                    refine hK.out _ _ ?_ (fun hHeld => ?_)
                    · exact ⟨Ext.cell Xa.out q0_1, Ext.cell Xa.out q0_2, Ext.cell Xa.out q0_3, Ext.cell Xa.out q0_4, Ext.cell Xa.out q0_5⟩
                    clear hK K x; try simp only [Act.put, List.getElem_toArray, List.getElem_cons_zero, List.getElem_cons_succ, List.setIfInBounds_toArray, List.set_cons_zero, List.set_cons_succ]
                    refine wpAnyH_ready (rs := [6]) (by kernel_rfl) (by simp) ?_
                    refine AllReadyH.cons rfl (fun K hK => ?_) AllReadyH.nil
                    go_simp
                    refine hK.out _ _ ?_ (fun hHeld => ?_)
                    · exact ⟨Ext.cell (Xa.out.alloc _) q0_1, Ext.cell (Xa.out.alloc _) q0_2, Ext.cell (Xa.out.alloc _) q0_3, Ext.cell (Xa.out.alloc _) q0_4, Ext.cell (Xa.out.alloc _) q0_5⟩
                    clear hK K; try simp only [Act.put, List.getElem_toArray, List.getElem_cons_zero, List.getElem_cons_succ, List.setIfInBounds_toArray, List.set_cons_zero, List.set_cons_succ]
                    refine wpAnyH_ready (rs := [7]) (by kernel_rfl) (by simp) ?_
                    refine AllReadyH.cons rfl (fun K hK => ?_) AllReadyH.nil
                    go_simp
                    refine hK.out _ _ ?_ (fun hHeld => ?_)
                    · exact ⟨Ext.cell (Xa.out.alloc _) q0_1, Ext.cell (Xa.out.alloc _) q0_2, Ext.cell (Xa.out.alloc _) q0_3, Ext.cell (Xa.out.alloc _) q0_4, Ext.cell (Xa.out.alloc _) q0_5⟩
                    have HR := Lib.hid (show BN (w5.alloc (.cells #[.int .u8 a.y, .int .i64 a.n] 41)) w5.heap.size a ∧ Ext W2 (w5.alloc (.cells #[.int .u8 a.y, .int .i64 a.n] 41)) from ⟨BN.new w5 a, Xa.out.alloc _⟩)
                    clear hK K
                    refine wpAnyH_done (by kernel_rfl) ?_ _
                    go_wp2_with fail
                    go_meet
                    case rel => exact ⟨_, rfl, HR⟩
                  · go_simp
                    refine hK.out _ _ ?_ (fun hHeld => ?_)
                    · exact ⟨Ext.cell (by (focus (repeat (first | (with_reducible exact Ext.refl _) | (with_reducible apply Ext.drew) | (with_reducible apply Ext.drewN) | (with_reducible apply Ext.alloc))))) q0_1, Ext.cell (by (focus (repeat (first | (with_reducible exact Ext.refl _) | (with_reducible apply Ext.drew) | (with_reducible apply Ext.drewN) | (with_reducible apply Ext.alloc))))) q0_2, Ext.cell (by (focus (repeat (first | (with_reducible exact Ext.refl _) | (with_reducible apply Ext.drew) | (with_reducible apply Ext.drewN) | (with_reducible apply Ext.alloc))))) q0_3, Ext.cell (by (focus (repeat (first | (with_reducible exact Ext.refl _) | (with_reducible apply Ext.drew) | (with_reducible apply Ext.drewN) | (with_reducible apply Ext.alloc))))) q0_4, Ext.cell (by (focus (repeat (first | (with_reducible exact Ext.refl _) | (with_reducible apply Ext.drew) | (with_reducible apply Ext.drewN) | (with_reducible apply Ext.alloc))))) q0_5⟩
                    clear hK K; try simp only [Act.put, List.getElem_toArray, List.getElem_cons_zero, List.getElem_cons_succ, List.setIfInBounds_toArray, List.set_cons_zero, List.set_cons_succ]
                    refine wpAnyH_ready (rs := [5]) (by kernel_rfl) (by simp) ?_
                    refine AllReadyH.cons rfl (fun K hK => ?_) AllReadyH.nil
                    go_simp
                    refine (HNeed.out (W2.drew.alloc (.cells #[.int .u8 0, .int .i64 0] 41)) (by (focus (repeat (first | (with_reducible exact Ext.refl _) | (with_reducible apply Ext.drew) | (with_reducible apply Ext.drewN) | (with_reducible apply Ext.alloc)))))).mono ?_
                    intro e w5 hh; obtain ⟨rfl, x⟩ := hh
                    have Xa : Hid (Ext W2 w5) := Lib.hid (Ext.trans (by (focus (repeat (first | (with_reducible exact Ext.refl _) | (with_reducible apply Ext.drew) | (with_reducible apply Ext.drewN) | (with_reducible apply Ext.alloc))))) x)
                    have z : BN w5 W2.heap.size Nm.zero := (BN.new W2.drew Nm.zero).ext x
                    have hl5 : W2.heap.size < w5.heap.size := (Array.getElem?_eq_some_iff.1 z).1
                    have HP := Lib.hid (z.put a)
                    have HX := Lib.hid (show Ext W2 ((w5.setCell ⟨W2.heap.size, 0, none⟩ (.int .u8 a.y)).setCell ⟨W2.heap.size, 1, none⟩ (.int .i64 a.n)) from Below.setCell (Below.setCell Xa.out (Nat.le_refl _) _) (Nat.le_refl _) _)
                    obtain ⟨z0, z1⟩ := z.at
                    have zf : ∀ o, w5.frozen? ⟨W2.heap.size, o, none⟩ = false := fun o => by unfold BN at z; simp [World.frozen?, z]
                    simp only [Nat.zero_add] at z1
                    unfold Nm.zero at z0 z1; dsimp only at z0 z1
                    clear z
                    go_simp
                    refine hK.out _ _ ?_ (fun hHeld => ?_)
                    · exact ⟨Ext.cell Xa.out q0_1, Ext.cell Xa.out q0_2, Ext.cell Xa.out q0_3, Ext.cell Xa.out q0_4, Ext.cell Xa.out q0_5⟩
                    clear hK K; try simp only [Act.put, List.getElem_toArray, List.getElem_cons_zero, List.getElem_cons_succ, List.setIfInBounds_toArray, List.set_cons_zero, List.set_cons_succ]
                    refine wpAnyH_ready (rs := [7]) (by kernel_rfl) (by simp) ?_
                    refine AllReadyH.cons rfl (fun K hK => ?_) AllReadyH.nil
                    go_simp
                    refine hK.out _ _ ?_ (fun hHeld => ?_)
                    · exact ⟨Ext.cell HX.out q0_1, Ext.cell HX.out q0_2, Ext.cell HX.out q0_3, Ext.cell HX.out q0_4, Ext.cell HX.out q0_5⟩
                    clear hK K
                    refine wpAnyH_done (by kernel_rfl) ?_ _
                    go_wp2_with fail
                    go_meet
                    case rel => exact ⟨_, rfl, Lib.hid ⟨HP.out, HX.out⟩⟩
                case rest =>
                  obtain ⟨ib, rfl, HI⟩ := hcut
                  have hmem : a ∈ needL l := by rw [Ha.out]; exact ni_mem (by rw [needL_len, ← Hn1.out, ← Hn2.out, ← Hnd.out]; exact hjt)
                  have hhas : hasB t a = true := by
                    rcases List.mem_append.1 hmem with h1 | h1
                    · exact (HRL.out.i1 _ h1).2
                    · obtain ⟨p, hp, rfl⟩ := List.mem_map.1 h1
                      exact (HRL.out.i2 _ hp).2
                  obtain ⟨z, m2, rfl, hz, hm2⟩ := hasB_iff hhas
                  rw [← Htn.out] at hz
                  obtain ⟨i0, i1'⟩ := HI.out.1.at
                  simp only [Nat.zero_add] at i1'
                  dsimp only at i0 i1'
                  have S3 : St1 w'.heap.size w' wc t tn (.slice ao s c) s g1 g2 mk th3 ∧ B4 wc nb (.int .u8 l.bed) (.bool l.new) (.slice a1 n1 d1) (.slice a2 n2 d2) 46 := ⟨⟨S2.out.2.1.1.ext HI.out.2 S2.out.1.size, S2.out.2.1.2.1, S2.out.2.1.2.2⟩, S2.out.2.2.ext HI.out.2⟩
                  have cz := S3.1.1.r1.cell hz
                  have cj := S3.1.1.r2.cell hyt
                  have cf := S3.1.1.r2.frozen y
                  rw [← Hj.out] at cj
                  obtain ⟨mz, hmz⟩ : ∃ mz, mz = mk z := ⟨_, rfl⟩
                  rw [← hmz] at cz
                  have u1 : IntKind.u8.wrap ((z : Int) + 1 - 1) = z := by rw [show (z : Int) + 1 - 1 = z by omega]; exact IntWalk.u8_in _ ⟨by omega, by omega⟩
                  have u2 : IntKind.u8.wrap (z : Int) = z := IntWalk.u8_in _ ⟨by omega, by omega⟩
                  have u3 : (0 : Int) ≤ z := by omega
                  have u4 : (z : Int) < tn := by omega
                  have u5 : IntKind.i64.wrap ((j : Int) + 1) = (j : Int) + 1 := IntWalk.i64_in _ ⟨by omega, by omega⟩
                  have HS3 := Lib.hid S3
                  have Hmz := Lib.hid hmz
                  have Hmem := Lib.hid hmem
                  clear hmem hhas hm2 S3 hmz q0_1 q0_2 q0_3 q0_4 q0_5 HNeed
                  by_cases hge : mz ≤ m2
                  · have v1 : (mz : Int) ≤ m2 := by omega
                    have v2 : decide ((mz : Int) ≤ m2) = true := decide_eq_true v1
                    have v3 : decide (mz ≤ m2) = true := decide_eq_true hge
                    have HN := Lib.hid (show Stuck t mk y from .inr ⟨_, by rw [← Hm.out, ← Hl.out]; exact Hmem.out, by
                      unfold madeB
                      dsimp only
                      rw [show ((z : Int) + 1 - 1).toNat = z by omega, ← Hmz.out]
                      exact decide_eq_false (by omega)⟩)
                    go_wp2
                    go_quiet (fail)
                    have y3 : Ext wc (wc.drewN nq) := (Ext.refl _).drewN _
                    have HN2 := Lib.hid (show St1 w'.heap.size w' (wc.drewN nq) t tn (.slice ao s c) s g1 g2 mk th3 ∧ ∀ j, j < y + 1 → Stuck t mk j from ⟨⟨HS3.out.1.1.ext y3 (Ext.size HS3.out.1.1.x), HS3.out.1.2.1, HS3.out.1.2.2⟩, fun j hj => by
                      rcases Nat.lt_or_ge j y with h1 | h1
                      · exact G2.out.2 j h1
                      · obtain rfl : j = y := by omega
                        exact HN.out⟩)
                    go_wp2
                    go_roundg (tn - (y + 1))
                    case measure => omega
                    case rel => exact ⟨y + 1, th3, by omega, by go_num, rfl, HN2⟩
                  · have v1 : ¬ (mz : Int) ≤ m2 := by omega
                    have v2 : decide ((mz : Int) ≤ m2) = false := decide_eq_false v1
                    have v3 : decide (mz ≤ m2) = false := decide_eq_false hge
                    go_wp2
                    go_quiet (fail)
                    obtain ⟨W3, hW3⟩ : ∃ W3, W3 = wc.drewN nq := ⟨_, rfl⟩
                    have y3 : Ext wc W3 := by rw [hW3]; exact (Ext.refl _).drewN _
                    have T3 : St1 w'.heap.size w' W3 t tn (.slice ao s c) s g1 g2 mk th3 := ⟨HS3.out.1.1.ext y3 (Ext.size HS3.out.1.1.x), HS3.out.1.2.1, HS3.out.1.2.2⟩
                    have hmade : madeB mk (ni (needL (li (yi t y) (mk y))) (th3 y)) = true := by
                      rw [← Hm.out, ← Hl.out, ← Hj.out, ← Ha.out]
                      unfold madeB
                      dsimp only
                      rw [show ((z : Int) + 1 - 1).toNat = z by omega, ← Hmz.out]
                      exact decide_eq_true (by omega)
                    have hstep := T3.2.1.step (y := y) (by rw [← Hm.out, ← Hl.out, ← Hj.out, needL_len, ← Hn1.out, ← Hn2.out, ← Hnd.out]; exact hjt) hmade
                    rw [← Hj.out] at hstep
                    have b4 : B4 (W3.setCell ⟨g2, y, none⟩ (.int .i64 ((j + 1 : Nat) : Int))) nb (.int .u8 l.bed) (.bool l.new) (.slice a1 n1 d1) (.slice a2 n2 d2) 46 := B4.set (HS3.out.2.ext y3) (fun e => HNb2.out e.symm) _
                    have HN := Lib.hid (show St1 w'.heap.size w' (W3.setCell ⟨g2, y, none⟩ (.int .i64 ((j : Int) + 1))) t tn (.slice ao s c) s g1 g2 mk (up1 th3 y (j + 1)) ∧ B4 (W3.setCell ⟨g2, y, none⟩ (.int .i64 ((j : Int) + 1))) nb (.int .u8 l.bed) (.bool l.new) (.slice a1 n1 d1) (.slice a2 n2 d2) 46 from by
                      have e3 : ((j : Int) + 1) = ((j + 1 : Nat) : Int) := by omega
                      rw [e3]
                      exact ⟨⟨T3.1.set2 y (j + 1), hstep, T3.2.2⟩, b4⟩)
                    have d1' := y3.cell cj
                    have d2' : W3.frozen? ⟨g2, y, none⟩ = false := T3.1.r2.frozen y
                    have HW3 := Lib.hid hW3
                    clear T3 hmade hstep b4 y3 hW3 cj cf cz i0 i1'
                    rw [← HW3.out]
                    go_wp2
                    go_roundg (nd - (j + 1))
                    case measure => have := Hj.out; omega
                    case rel => exact ⟨up1 th3 y (j + 1), by have : up1 th3 y (j + 1) y = j + 1 := if_pos rfl; omega, HN⟩
              · have k1 : ¬ (j : Int) < nd := by omega
                have k2 : decide ((j : Int) < nd) = false := decide_eq_false k1
                clear hj
                go_wp2
                go_quiet (fail)
                obtain ⟨W2, hW2⟩ : ∃ W2, W2 = wr.drewN nq := ⟨_, rfl⟩
                have y2 : Ext wr W2 := by rw [hW2]; exact (Ext.refl _).drewN nq
                have T2 : St1 w'.heap.size w' W2 t tn (.slice ao s c) s g1 g2 mk th3 := ⟨G3.out.1.1.ext y2 (Ext.size G3.out.1.1.x), G3.out.1.2.1, G3.out.1.2.2⟩
                have cm := T2.1.r1.cell hyt
                rw [← Hm.out] at cm
                have t2 : IntKind.i64.wrap ((y : Int) + 1) = (y : Int) + 1 := IntWalk.i64_in _ ⟨by omega, by omega⟩
                have t3 : IntKind.u8.wrap ((y : Int) + 1) = (y : Int) + 1 := IntWalk.u8_in _ ⟨by omega, by omega⟩
                have t4 : IntKind.i64.wrap ((m : Int) + 1) = (m : Int) + 1 := IntWalk.i64_in _ ⟨by omega, by omega⟩
                obtain ⟨ns, hns, hown⟩ := T2.1.own
                have HOw := Lib.hid hown
                have Hns := Lib.hid hns
                have HT2 := Lib.hid T2
                have HW2 := Lib.hid hW2
                clear hown hns T2 hW2 c6 c2 c3
                rw [← HW2.out]
                go_wp2_with (at_builtin; refine app_k ekN rfl _ _ rfl w'.heap.size _ s (ns.map Nm.cs) rfl (own_extk HOw.out ((Ext.refl _).alloc _)) _ 1 [Nm.cs ⟨(y : Int) + 1, m⟩] rfl (CK.of_blk (Deep.blk_alloc_new _ _) (Ks.nm [⟨(y : Int) + 1, m⟩]) rfl (Nat.le_refl _) (by omega) rfl) (Ks.nm [⟨(y : Int) + 1, m⟩]) ?c1 ?c2 ?c3 ?_)
                case c1 => simp; omega
                case c2 => simp; omega
                case c3 => have h1 := Ext.size (show Ext w' W2 from HT2.out.1.x); simp; omega
                intro v5 w5 hown5 hgr5
                have FA := HT2.out.1.app ((Ext.refl W2).alloc _) ⟨(y : Int) + 1, m⟩ Hns.out (by rw [List.flatten_append]; simpa using hown5) hgr5
                have FI := HT2.out.2.1.make (y := y) (by rw [← Hm.out, ← Hrm.out]; exact hml)
                have FN := sumN_up (mk := mk) (y := y) tn
                rw [if_pos hyt, ← HT2.out.2.2] at FN
                rw [← Hm.out] at FI FN
                obtain ⟨a5, c5, rfl, hc5⟩ := own_slice hown5
                have F6 := FA.set1 y (m + 1)
                have F7 := F6.set2 y 0
                have z1 := FA.r1.cell hyt
                have z2 := FA.r1.frozen y
                have z3 : ∀ v, (w5.setCell ⟨g1, y, none⟩ v).cell? ⟨g2, y, none⟩ = some (.int .i64 (th3 y : Nat)) := fun v => (FA.r2.setOther (a := ⟨g1, y, none⟩) (fun e => HNe.out e.symm) v).cell hyt
                have z4 : ∀ v, (w5.setCell ⟨g1, y, none⟩ v).frozen? ⟨g2, y, none⟩ = false := fun v => (FA.r2.setOther (a := ⟨g1, y, none⟩) (fun e => HNe.out e.symm) v).frozen y
                rw [← Hm.out] at z1
                have z5 : (((s : Int) + 1) == (s : Int)) = false := beq_eq_false_iff_ne.2 (by omega)
                have HN := Lib.hid (show St1 w'.heap.size w' ((w5.setCell ⟨g1, y, none⟩ (.int .i64 ((m : Int) + 1))).setCell ⟨g2, y, none⟩ (.int .i64 0)) t tn (.slice a5 (s + 1) c5) (s + 1) g1 g2 (up1 mk y (m + 1)) (up1 th3 y 0) from by
                  have e3 : ((m : Int) + 1) = ((m + 1 : Nat) : Int) := by omega
                  rw [e3]
                  exact ⟨F7, FI, FN.symm⟩)
                have Hc5 := Lib.hid hc5
                clear FA FI FN F6 F7 hown5 hgr5 cm hc5
                go_wp2
                rw [Exit.noGoto_normal]
                go_wp2
                go_roundg (all - (s + 1))
                case measure => omega
                case rel => exact ⟨a5, s + 1, c5, _, _, by omega, rfl, Hc5.out, HN⟩
        · obtain rfl : y = tn := by omega
          exfalso
          have h1 := not_all_stuck Hac.out (mk := mk) (fun y hy => G2.out.1.2.1.m y (by rw [Htn.out]; exact hy)) (fun y hy => G2.out.2 y (by rw [Htn.out]; exact hy))
          have h2 := sumN_eq (mk := mk) (lm := fun y => (yi t y).length) y (fun z hz => h1 z (by rw [← Htn.out]; exact hz))
          have h3 := G2.out.1.2.2
          have h4 := Hall.out
          omega
    · obtain rfl : s = all := by omega
      have e1 : ¬ (s : Int) < s := by omega
      go_wp2
      try rw [Exit.noGoto_ret]
      go_ret
      obtain ⟨ns, hns, hown⟩ := G.out.1.own
      exact ⟨_, s, rfl, HE0.out.symm, ⟨ns, hns, hown⟩, G.out.1.x⟩
end Go.Proofs.YtlhkehfplcclgaaDoor
/- loops.check, loops.Check, fabrics.Check. -/
namespace Go.Proofs.YtlhkehfplcclgaaDoor
set_option linter.unusedVariables false
set_option linter.unusedSimpArgs false
set_option maxRecDepth 8000
open Go Go.RowKit

/-- A table that may be valid: each loop is right, nothing is pulled through twice, the loops can be made one by one. -/
structure OKT (t : Tab) : Prop where
  r : RightT t
  nd : (thrT t).Nodup
  ac : ∃ rk, Acyc t rk
  c9 : cntT t ≤ 2048
def lchk (t : Tab) : Int := if t.length = 6 then (if newB t then 0 else 1) else 5
/-- A value, and an error. -/
def RetVE (w : World) (e : Int) (en : Ending) (w' : World) : Prop := ∃ v, en = .returned (.tuple #[v, .int .i64 e]) ∧ Ext w w'
theorem ChkC_calls (tv : Value) (ct : Nat) (t : Tab) (w : World) (h : TB w tv ct t) (hk : t.length = 6 → OKT t) :
    Calls Tryd.prog 63 #[tv] w (RetVE w (lchk t)) := by
  obtain ⟨ta, tn, rfl, htn, htc, ht9, htt⟩ := h.open
  by_cases h6 : t.length = 6
  · have ok := hk h6
    obtain ⟨rk, hac⟩ := ok.ac
    have HC := Lib.hid (fun w' (x : Ext w w') => CountL_calls _ ct t w' (h.ext x) ok.r.n4 ok.r.n5)
    have hHL := (fun w' (x : Ext w w') => ChkL_calls _ ct t w' (h.ext x) ok.r)
    have HT := Lib.hid (fun w' (x : Ext w w') => ChkT_calls _ ct t w' (h.ext x) ok.r ok.nd)
    have HF := Lib.hid (fun w' (x : Ext w w') => First_calls _ ct t rk w' (h.ext x) ok.r hac)
    have hR : lchk t = if newB t then 0 else 1 := if_pos h6
    rw [hR]
    obtain ⟨L, hL⟩ : ∃ L : Int, L = if newB t then 0 else 1 := ⟨_, rfl⟩
    have hL01 : L = 0 ∨ L = 1 := by rw [hL]; split <;> simp
    have HL := Lib.hid (show ∀ w', Ext w w' → Calls Tryd.prog 73 #[.slice ta tn ct] w' fun e w'' => e = .returned (.int .i64 L) ∧ Ext w' w'' by rw [hL]; exact hHL)
    clear hHL
    rw [← hL]
    have c1 : ¬ (2048 : Int) < cntT t := by have := ok.c9; omega
    have c0 := (cntT_bd ok.r.n5).1
    obtain ⟨C, hC⟩ : ∃ C, C = cntT t := ⟨_, rfl⟩
    rw [← hC] at c0 c1
    have hcn : C ≤ 2048 := by omega
    have HCo := Lib.hid (show ∀ w', Ext w w' → Calls Tryd.prog 72 #[.slice ta tn ct] w' fun e w'' => e = .returned (.int .i64 C) ∧ w'' = w' by rw [hC]; exact HC.out)
    have hC2 := Lib.hid hC
    obtain rfl : tn = 6 := by omega
    clear hC HC htt h hk ok hac hR h6 htn hL
    go_enter Tryd.func63, Tryd.ntmps63
    go_wp2_with fail
    refine (HCo.out w (Ext.refl _)).mono ?_
    rintro e w' ⟨rfl, rfl⟩
    go_wp2_with fail
    refine (HL.out w' (Ext.refl _)).mono ?_
    rintro e w1 ⟨rfl, x1⟩
    have X1 := Lib.hid x1
    clear x1
    rcases hL01 with rfl | rfl
    · go_wp2_with fail
      refine (HT.out w1 X1.out).mono ?_
      rintro e w2 ⟨rfl, x2⟩
      have X2 := Lib.hid (X1.out.trans x2)
      clear x2
      go_wp2_with fail
      refine (HF.out w2 X2.out).mono ?_
      rintro e w3 ⟨v, n, rfl, hn, ⟨ns, hns, hown⟩, x3⟩
      have X3 := Lib.hid (X2.out.trans x3)
      obtain ⟨a1, c1', rfl, _⟩ := own_slice hown
      obtain ⟨cc, hck⟩ := CK.of_own hown (Ks.nm ns) (by simp [hns]) (by decide)
      rw [← hC2.out] at hn
      have hns9 : ns.length ≤ 1000000 := by omega
      have HCp := Lib.hid (fun w' (x : Ext w3 w') => LCopN_calls _ cc (ns.map Nm.cs) w' (hck.ext x) (Ks.nm ns) (by simpa using hns9))
      have n1 : ¬ (n : Int) < C := by omega
      clear x3 hown hck hns hn hC2
      go_wp2_with fail
      refine (HCo.out w3 X3.out).mono ?_
      rintro e w4 ⟨rfl, rfl⟩
      go_wp2_with fail
      refine (HCp.out w4 (Ext.refl _)).mono ?_
      rintro e w5 ⟨g, m, hm, rfl, _, _, x5⟩
      have X5 := Lib.hid (X3.out.trans x5)
      clear x5 hm
      go_wp2
      go_ret2
      exact ⟨_, rfl, X5.out⟩
    · go_wp2
      go_ret2
      exact ⟨_, rfl, X1.out⟩
  · have hR : lchk t = 5 := if_neg h6
    rw [hR]
    have c1 : ((tn : Int) != 6) = true := by rw [bne, beq_eq_false_iff_ne.2 (by omega)]; rfl
    clear hR h6 htt hk h htn
    go_enter Tryd.func63, Tryd.ntmps63
    go_wp2
    go_ret2
    exact ⟨_, rfl, Ext.refl _⟩
theorem LCheck_calls (tv : Value) (ct : Nat) (t : Tab) (w : World) (h : TB w tv ct t) (hk : t.length = 6 → OKT t) :
    Calls Tryd.prog 44 #[tv] w fun e w' => e = .returned (.int .i64 (lchk t)) ∧ Ext w w' := by
  have HC := Lib.hid (ChkC_calls tv ct t w h hk)
  clear h hk
  go_enter Tryd.func44, Tryd.ntmps44
  go_wp2_with fail
  refine HC.out.mono ?_
  rintro e w' ⟨v, rfl, x⟩
  have X := Lib.hid x
  clear x
  go_wp2
  go_ret
  exact ⟨rfl, X.out⟩
/-- Check. -/
def fchk (f : Fab) : Int := if lchk f.ys = 0 then (if cchk f.ys f.cr = 0 then pchk f else cchk f.ys f.cr) else lchk f.ys
theorem Check_calls (tv cv hv fv : Value) (f : Fab) (w : World) (h : FB w tv cv hv fv f) (hin : FIn f) (hk : f.ys.length = 6 → OKT f.ys) :
    Calls Tryd.prog 14 #[.agg #[tv, cv, hv, fv]] w fun e w' => e = .returned (.int .i64 (fchk f)) ∧ Ext w w' := by
  obtain ⟨ct, hT⟩ := h.t
  have HL := Lib.hid (fun w' (x : Ext w w') => LCheck_calls tv ct f.ys w' (hT.ext x) hk)
  have HX := Lib.hid (fun w' (x : Ext w w') => ChkX_calls tv cv hv fv f w' (h.ext x) hin.cr (by have := hin.n3; omega))
  have HP := Lib.hid (fun w' (x : Ext w w') => ChkP_calls tv cv hv fv f w' (h.ext x) hin)
  obtain ⟨ta, tn, rfl, o1, _, _, _⟩ := hT.open
  obtain ⟨cc, hC⟩ := h.c
  obtain ⟨ca, cn, rfl, o2, _, _, _⟩ := hC.open
  obtain ⟨ch, hH⟩ := h.h
  obtain ⟨ha, hn, rfl, o3, _, _, _⟩ := hH.open
  obtain ⟨cf, hF⟩ := h.f
  obtain ⟨fa, fn, rfl, o4, _, _, _⟩ := hF.open
  obtain ⟨W, hW⟩ : ∃ W, W = w.alloc (.cells #[.slice ta tn ct, .slice ca cn cc, .slice ha hn ch, .slice fa fn cf] 35) := ⟨_, rfl⟩
  have XW := Lib.hid (show Ext w W by rw [hW]; exact (Ext.refl _).alloc _)
  have HB := Lib.hid (show B4 W w.heap.size (.slice ta tn ct) (.slice ca cn cc) (.slice ha hn ch) (.slice fa fn cf) 35 by rw [hW]; exact B4.new _ _ _ _ _ _)
  have HW := Lib.hid hW
  obtain ⟨R, hR⟩ : ∃ R, R = fchk f := ⟨_, rfl⟩
  have HR := Lib.hid (show R = if lchk f.ys = 0 then (if cchk f.ys f.cr = 0 then pchk f else cchk f.ys f.cr) else lchk f.ys from hR)
  rw [← hR]
  clear hW hR hT h hin hk hC hH hF o1 o2 o3 o4
  go_enter Tryd.func14, Tryd.ntmps14
  go_wp2_with fail
  rw [← HW.out]
  refine (HL.out W XW.out).mono ?_
  rintro e w1 ⟨rfl, x1⟩
  have X1 := Lib.hid (XW.out.trans x1)
  have B1 := HB.out.ext x1
  have p0 := B1.c0; have p1 := B1.c1; have p2 := B1.c2; have p3 := B1.c3
  have HB1 := Lib.hid B1
  clear x1 B1
  obtain ⟨L, hL⟩ : ∃ L, L = lchk f.ys := ⟨_, rfl⟩
  rw [← hL]
  have HL2 := Lib.hid hL
  clear hL
  by_cases hl0 : L = 0
  case neg =>
    have q1 : (L != 0) = true := by rw [bne, beq_eq_false_iff_ne.2 hl0]; rfl
    have HRv := Lib.hid (show R = L by rw [HR.out, ← HL2.out, if_neg hl0])
    go_wp2
    go_ret
    exact ⟨ret_int (by rw [HRv.out]), X1.out⟩
  have q1 : (L != 0) = false := by rw [hl0]; rfl
  have HRv := Lib.hid (show R = if cchk f.ys f.cr = 0 then pchk f else cchk f.ys f.cr by rw [HR.out, ← HL2.out, if_pos hl0])
  clear hl0 HL2 HR
  go_wp2_with fail
  clear p0 p1 p2 p3
  refine (HX.out w1 X1.out).mono ?_
  rintro e w2 ⟨rfl, x2⟩
  have X2 := Lib.hid (X1.out.trans x2)
  have B2 := HB1.out.ext x2
  have p0 := B2.c0; have p1 := B2.c1; have p2 := B2.c2; have p3 := B2.c3
  clear x2 B2
  obtain ⟨C, hC⟩ : ∃ C, C = cchk f.ys f.cr := ⟨_, rfl⟩
  rw [← hC] at HRv ⊢
  clear hC
  by_cases hc0 : C = 0
  case neg =>
    have q2 : (C != 0) = true := by rw [bne, beq_eq_false_iff_ne.2 hc0]; rfl
    have HRv := Lib.hid (show R = C by rw [HRv.out, if_neg hc0])
    go_wp2
    go_ret
    exact ⟨ret_int (by rw [HRv.out]), X2.out⟩
  have q2 : (C != 0) = false := by rw [hc0]; rfl
  have HRw := Lib.hid (show R = pchk f by rw [HRv.out, if_pos hc0])
  clear hc0 HRv
  go_wp2_with fail
  clear p0 p1 p2 p3
  refine (HP.out w2 X2.out).mono ?_
  rintro e w3 ⟨rfl, x3⟩
  have X3 := Lib.hid (X2.out.trans x3)
  clear x3
  rw [← HRw.out]
  go_wp2
  go_ret
  exact ⟨rfl, X3.out⟩
end Go.Proofs.YtlhkehfplcclgaaDoor
