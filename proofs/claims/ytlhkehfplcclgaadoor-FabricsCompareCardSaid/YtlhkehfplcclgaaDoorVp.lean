/- loops.checkThrough: the walk, where no loop was pulled through twice. -/
import Derived.Test.YtlhkehfplcclgaaDoorVo
namespace Go.Proofs.YtlhkehfplcclgaaDoor
set_option linter.unusedVariables false
set_option linter.unusedSimpArgs false
set_option maxRecDepth 8000
open Go Go.RowKit

set_option maxHeartbeats 16000000 in
theorem ChkT_calls (tv : Value) (ct : Nat) (t : Tab) (w : World) (h : TB w tv ct t) (hr : RightT t) (hnd : (thrT t).Nodup) :
    Calls Tryd.prog 74 #[tv] w fun e w' => e = .returned (.int .i64 0) ∧ Ext w w' := by
  obtain ⟨ta, tn, rfl, htn, htc, ht9, htt⟩ := h.open
  obtain ⟨mb, hmb⟩ : ∃ mb, mb = w.heap.size := ⟨_, rfl⟩
  obtain ⟨W, hW⟩ : ∃ W, W = w.alloc (.map #[] 0) := ⟨_, rfl⟩
  have xW : Ext w W := by rw [hW]; exact (Ext.refl _).alloc _
  have M0 := Lib.hid (show MB W mb (addN (fun _ => 0) (thrT (t.take 0))) by rw [List.take_zero, show thrT [] = [] from rfl, addN_nil, hW, hmb]; exact MB.made w)
  have HMb := Lib.hid hmb
  have HT := Lib.hid (show ∀ y, y < tn → (∃ b o a m d, ta = some ⟨b, o, none⟩ ∧ w.cell? ⟨b, o + y, none⟩ = some (.slice a m d) ∧ m = (yi t y).length ∧ LR w (.slice a m d) d (yi t y)) ∧ (yi t y).length ≤ 1000 ∧ (∀ l ∈ yi t y, RightL t l) ∧ thrT (t.take (y + 1)) = thrT (t.take y) ++ thrR (yi t y) ∧
      ∀ n, n < (yi t y).length → ∀ j, j < (li (yi t y) n).thr.length → addN (fun _ => 0) (thrT (t.take y) ++ thrR ((yi t y).take n) ++ (li (yi t y) n).thr.take j) (ni (li (yi t y) n).thr j) = 0 from fun y hy => ⟨htt y hy, hr.n5 _ (yi_mem (by omega)), fun l hl => (hr.ri _ (yi_mem (by omega)) l hl).1, take_yi (by omega), fun n hn j hj => by
        obtain ⟨r, e⟩ := thrT_split (t := t) (y := y) (by omega) hn hj
        exact addN_fresh (fresh_of hnd e)⟩)
  have tn9 : tn ≤ 100 := by have := hr.n4; omega
  have HW := Lib.hid hW; have XW := Lib.hid xW
  have hmm := @run_makeMap Tryd.prog
  clear h hr htt htn hnd hW xW hmb
  go_enter Tryd.func74, Tryd.ntmps74
  go_wp2
  rw [← HW.out, ← HMb.out]
  go_loopw [5, 7, 9, 13] (fun _ _ _ i wr => ∃ y : Nat, y ≤ tn ∧ i = .int .i64 y ∧ Hid (Ext w wr ∧ MB wr mb (addN (fun _ => 0) (thrT (t.take y))))) (fun _ _ _ i _ => tn - (intOf i).toNat)
  case atStart => exact ⟨0, Nat.zero_le _, rfl, Lib.hid ⟨XW.out, M0.out⟩⟩
  case round =>
    obtain ⟨y, hy, rfl, G⟩ := hrel
    by_cases hlt : y < tn
    · obtain ⟨⟨b1, o1, ra, rm, rd, rfl, hc, hrm, hLR⟩, hr9, hrr, hty, hfr⟩ := HT.out y hlt
      have e1 : (y : Int) < tn := by omega
      have e2 : (0 : Int) ≤ y := by omega
      have cr := G.out.1.cell hc
      have rm9 : rm ≤ 1000 := by omega
      obtain ⟨BS, hBS⟩ : ∃ BS, BS = thrT (t.take y) := ⟨_, rfl⟩
      obtain ⟨RW, hRW⟩ : ∃ RW, RW = yi t y := ⟨_, rfl⟩
      rw [← hRW] at hLR hrr hty hfr hrm
      rw [← hBS] at hty hfr
      have HLo := Lib.hid (show ∀ i, i < rm → (∃ b o a1 n1 d1 a2 n2 d2, ra = some ⟨b, o, none⟩ ∧ AtL w b (o + i * 4) (li RW i) (.slice a1 n1 d1) (.slice a2 n2 d2) ∧ n1 = (li RW i).thr.length ∧ NL w (.slice a1 n1 d1) d1 (li RW i).thr) ∧ RightL t (li RW i) from fun i hi => by
        obtain ⟨a', n', e, hn', _, _, hat⟩ := hLR.open
        have e2 : ra = a' ∧ rm = n' := by simpa using e
        obtain ⟨b, o, a1, n1, d1, a2, n2, d2, h1, h2, h5, _, h3, _⟩ := hat i (by omega)
        exact ⟨⟨b, o, a1, n1, d1, a2, n2, d2, by rw [e2.1]; exact h1, h2, h5, h3⟩, hrr _ (li_mem (by omega))⟩)
      have Hrm := Lib.hid hrm; have Hty := Lib.hid hty; have HFr := Lib.hid hfr
      have GM := Lib.hid (show MB wr mb (addN (fun _ => 0) (BS ++ thrR (RW.take 0))) by rw [List.take_zero, show thrR [] = [] from rfl, List.append_nil, hBS]; exact G.out.2)
      clear hc hrm hLR hr9 hrr hty hfr hBS hRW
      go_wp2
      obtain ⟨w8, hw8⟩ : ∃ w8, w8 = wr := ⟨_, rfl⟩
      subst hw8
      go_loopw [7, 9, 19] (fun _ _ i wq => ∃ n : Nat, n ≤ rm ∧ i = .int .i64 n ∧ Hid (Ext w wq ∧ MB wq mb (addN (fun _ => 0) (BS ++ thrR (RW.take n))))) (fun _ _ i _ => rm - (intOf i).toNat)
      case atStart => exact ⟨0, Nat.zero_le _, rfl, Lib.hid ⟨G.out.1, GM.out⟩⟩
      case round =>
        obtain ⟨n, hn0, rfl, G2⟩ := hrel
        clear cr
        by_cases hnt : n < rm
        · obtain ⟨⟨b2, o2, a1, n1, d1, a2, n2, d2, rfl, hAL, hn1, hNL⟩, hRL⟩ := HLo.out n hnt
          have f1 : (n : Int) < rm := by omega
          have f2 : (0 : Int) ≤ n := by omega
          obtain ⟨x0, x1, x2, x3⟩ := hAL.ext G2.out.1
          have hfr := HFr.out n (by rw [← Hrm.out]; exact hnt)
          have htk := take_li (ls := RW) (k := n) (by rw [← Hrm.out]; exact hnt)
          obtain ⟨l, hl⟩ : ∃ l, l = li RW n := ⟨_, rfl⟩
          rw [← hl] at x0 x1 hNL hRL hn1 hfr htk
          obtain ⟨BT, hBT⟩ : ∃ BT, BT = BS ++ thrR (RW.take n) := ⟨_, rfl⟩
          rw [← hBT] at hfr
          have n19 : n1 ≤ 4 := by have := hRL.n1; omega
          have HNL := Lib.hid (show ∀ i, i < n1 → (∃ b o, a1 = some ⟨b, o, none⟩ ∧ At2 w b (o + i * 2) (ni l.thr i)) ∧ (ni l.thr i).In ∧ addN (fun _ => 0) (BT ++ l.thr.take i) (ni l.thr i) = 0 ∧ BT ++ l.thr.take (i + 1) = (BT ++ l.thr.take i) ++ [ni l.thr i] from fun i hi => by
            obtain ⟨a', n', e, hn', _, _, hat⟩ := hNL.open
            have e2 : a1 = a' ∧ n1 = n' := by simpa using e
            refine ⟨by rw [e2.1]; exact hat i (by omega), (hRL.i1 _ (ni_mem (by omega))).1, hfr i (by omega), ?_⟩
            rw [List.append_assoc, ni_of (by omega), ← List.take_succ_eq_append_getElem]
            )
          have Hn1 := Lib.hid hn1
          have Htk := Lib.hid (show BS ++ thrR (RW.take (n + 1)) = BT ++ l.thr by rw [htk, hBT, List.append_assoc])
          have MT := Lib.hid (show MB wr mb (addN (fun _ => 0) (BT ++ l.thr.take 0)) by rw [List.take_zero, List.append_nil, hBT]; exact G2.out.2)
          obtain ⟨W1, hW1⟩ : ∃ W1, W1 = wr.alloc (.cells #[.int .u8 l.bed, .bool l.new, .slice a1 n1 d1, .slice a2 n2 d2] 46) := ⟨_, rfl⟩
          have xx : Ext wr W1 := by rw [hW1]; exact (Ext.refl _).alloc _
          have Y1 := Lib.hid (G2.out.1.trans xx)
          have M1 := Lib.hid (MT.out.ext xx)
          have HW1 := Lib.hid hW1
          clear hAL hNL hRL hn1 hfr htk hl hBT hW1 xx MT
          go_wp2
          rw [← HW1.out]
          clear x0 x1 x2 x3
          obtain ⟨w7, hw7⟩ : ∃ w7, w7 = wr := ⟨_, rfl⟩
          subst hw7
          go_loopw [9, 26] (fun _ i wq => ∃ j : Nat, j ≤ n1 ∧ i = .int .i64 j ∧ Hid (Ext w wq ∧ MB wq mb (addN (fun _ => 0) (BT ++ l.thr.take j)))) (fun _ i _ => n1 - (intOf i).toNat)
          case atStart => exact ⟨0, Nat.zero_le _, rfl, Lib.hid ⟨Y1.out, M1.out⟩⟩
          case round =>
            obtain ⟨j, hj0, rfl, G3⟩ := hrel
            by_cases hjt : j < n1
            · obtain ⟨⟨b3, o3, rfl, hA⟩, hin, h0, hnx⟩ := HNL.out j hjt
              have i1 : (j : Int) < n1 := by omega
              have i2 : (0 : Int) ≤ j := by omega
              obtain ⟨ca, cb⟩ := hA.ext G3.out.1
              obtain ⟨a, ha⟩ : ∃ a, a = ni l.thr j := ⟨_, rfl⟩
              rw [← ha] at ca cb hin h0 hnx
              obtain ⟨F, hF⟩ : ∃ F, F = addN (fun _ => 0) (BT ++ l.thr.take j) := ⟨_, rfl⟩
              have Hnx := Lib.hid (show addN (fun _ => 0) (BT ++ l.thr.take (j + 1)) = upN F a 1 by rw [hnx, addN_snoc, ← hF, show F a = 0 by rw [hF]; exact h0]; rfl)
              have hMr := G3.out.2
              rw [← hF] at hMr h0
              obtain ⟨W2, hW2⟩ : ∃ W2, W2 = wr.alloc (.cells #[.int .u8 a.y, .int .i64 a.n] 41) := ⟨_, rfl⟩
              have hMW : MB W2.drew mb F := show MB W2 mb F by rw [hW2]; exact hMr.kept (World.grownBy_alloc _ _ none) (by simp)
              have hN2 : BN W2 wr.heap.size a := by rw [hW2]; exact BN.new wr a
              have hbl : mb < wr.heap.size := by obtain ⟨es, clock, hb, _⟩ := hMr; exact (Array.getElem?_eq_some_iff.1 hb).1
              have hX2 : Ext w W2.drew := (show Ext w W2 by rw [hW2]; exact G3.out.1.trans ((Ext.refl _).alloc _)).drew
              obtain ⟨st, wm, wn, r1, r2, r3, r4, hm3, g2, g3⟩ := hMW.incr hin 1
              have r5 := hm3.look hin
              rw [upN_upN] at r5
              rw [h0] at r1 r2 r3
              obtain ⟨a0, a1'⟩ := hN2.at
              simp only [Nat.zero_add] at a1'
              have v2 := World.grownBy.cell g2 (show W2.drew.cell? _ = _ from a0) (by simp; omega)
              have v3 := World.grownBy.cell g2 (show W2.drew.cell? _ = _ from a1') (by simp; omega)
              have v4 := World.grownBy.cell g3 (show W2.drew.cell? _ = _ from a0) (by simp; omega)
              have v5 := World.grownBy.cell g3 (show W2.drew.cell? _ = _ from a1') (by simp; omega)
              have HR := Lib.hid (show Ext w wn ∧ MB wn mb (addN (fun _ => 0) (BT ++ l.thr.take (j + 1))) from ⟨Ext.grown hX2 g3 (fun k hk => by cases hk; rw [HMb.out]; exact Nat.le_refl _), by rw [Hnx.out]; exact hm3⟩)
              have HW2 := Lib.hid hW2
              unfold Nm.val at r1 r2 r3 r5
              clear hMW hN2 hm3 g2 g3 hW2 Hnx ha hA hbl hF h0 hnx hX2 hMr hin
              go_wp2
              rw [← HW2.out]
              go_region
              go_wp2
              go_roundw
              case rel => exact ⟨j + 1, by omega, by go_num, HR⟩
              case measure => simp [intOf]; omega
            · obtain rfl : j = n1 := by omega
              have i1 : ¬ (j : Int) < j := by omega
              have HN := Lib.hid (show Ext w wr ∧ MB wr mb (addN (fun _ => 0) (BS ++ thrR (RW.take (n + 1)))) from ⟨G3.out.1, by
                have h1 := G3.out.2
                rw [Hn1.out, List.take_length, ← Htk.out] at h1
                exact h1⟩)
              go_wp2
              go_roundw
              case rel => exact ⟨n + 1, by omega, by go_num, HN⟩
              case measure => simp [intOf]; omega
        · obtain rfl : n = rm := by omega
          have f1 : ¬ (n : Int) < n := by omega
          have HN := Lib.hid (show Ext w wr ∧ MB wr mb (addN (fun _ => 0) (thrT (t.take (y + 1)))) from ⟨G2.out.1, by
            have h1 := G2.out.2
            rw [Hrm.out, List.take_length, ← Hty.out] at h1
            exact h1⟩)
          go_wp2
          go_roundw
          case rel => exact ⟨y + 1, by omega, by go_num, HN⟩
          case measure => simp [intOf]; omega
    · obtain rfl : y = tn := by omega
      have e1 : ¬ (y : Int) < y := by omega
      go_wp2
      go_ret
      exact ⟨rfl, G.out.1⟩
end Go.Proofs.YtlhkehfplcclgaaDoor
