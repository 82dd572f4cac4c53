/- loops.checkLoops, of a table whose loops are right. -/
import Derived.Test.YtlhkehfplcclgaaDoorVm
namespace Go.Proofs.YtlhkehfplcclgaaDoor
set_option linter.unusedVariables false
set_option linter.unusedSimpArgs false
set_option maxRecDepth 8000
open Go Go.RowKit

/-- Each first loop of a yarn is New. -/
def newB (t : Tab) : Bool := t.all fun r => decide (r = []) || (li r 0).new
/-- All loops are right. -/
structure RightT (t : Tab) : Prop where
  n4 : t.length ≤ 100
  n5 : ∀ r ∈ t, r.length ≤ 1000
  ri : ∀ r ∈ t, ∀ l ∈ r, RightL t l ∧ 0 ≤ l.bed ∧ l.bed ≤ 255
theorem newB_bad {t : Tab} {y : Nat} (hy : y < t.length) (h0 : 0 < (yi t y).length) (h : (li (yi t y) 0).new = false) : newB t = false := by
  cases hb : newB t with
  | false => rfl
  | true =>
    have := List.all_eq_true.1 hb (yi t y) (yi_mem hy)
    rw [h, Bool.or_false] at this
    have := of_decide_eq_true this
    rw [this] at h0; simp at h0
theorem newB_ok {t : Tab} (h : ∀ y, y < t.length → 0 < (yi t y).length → (li (yi t y) 0).new = true) : newB t = true := List.all_eq_true.2 fun r hr => by
  obtain ⟨y, hy, rfl⟩ := List.mem_iff_getElem.1 hr
  rw [← yi_of hy]
  by_cases h0 : yi t y = []
  · simp [h0]
  · rw [h y hy (List.length_pos_iff.2 h0)]; simp
set_option maxHeartbeats 8000000 in
theorem ChkL_calls (tv : Value) (ct : Nat) (t : Tab) (w : World) (h : TB w tv ct t) (hr : RightT t) :
    Calls Tryd.prog 73 #[tv] w fun e w' => e = .returned (.int .i64 (if newB t then 0 else 1)) ∧ Ext w w' := by
  have HRi := Lib.hid (fun w' (x : Ext w w') l u v d1 d2 (hu : NL w' u d1 (Lp.thr l)) (hv : PL w' v d2 (Lp.past l)) (hl : RightL t l) => Right_calls tv u v ct d1 d2 t l w' (h.ext x) hu hv hl)
  obtain ⟨ta, tn, rfl, htn, htc, ht9, htt⟩ := h.open
  obtain ⟨R, hR⟩ : ∃ R : Int, R = if newB t then 0 else 1 := ⟨_, rfl⟩
  have HBad := Lib.hid (show ∀ y, y < tn → 0 < (yi t y).length → (li (yi t y) 0).new = false → R = 1 from fun y hy h0 hh => by rw [hR, newB_bad (by omega) h0 hh]; rfl)
  have HOk := Lib.hid (show (∀ y, y < tn → 0 < (yi t y).length → (li (yi t y) 0).new = true) → R = 0 from fun hh => by rw [hR, newB_ok fun y hy h0 => hh y (by omega) h0]; rfl)
  have HT := Lib.hid (show ∀ i, i < tn → (∃ b o a m d, ta = some ⟨b, o, none⟩ ∧ w.cell? ⟨b, o + i, none⟩ = some (.slice a m d) ∧ m = (yi t i).length ∧ LR w (.slice a m d) d (yi t i)) ∧ (yi t i).length ≤ 1000 ∧ ∀ l ∈ yi t i, RightL t l from fun i hi => ⟨htt i hi, hr.n5 _ (yi_mem (by omega)), fun l hl => (hr.ri _ (yi_mem (by omega)) l hl).1⟩)
  have tn9 : tn ≤ 100 := by have := hr.n4; omega
  rw [← hR]
  clear h hr hR htt htn
  go_enter Tryd.func73, Tryd.ntmps73
  go_wp2
  go_loopw [4, 5, 6, 9] (fun _ _ _ i wr => ∃ y : Nat, y ≤ tn ∧ i = .int .i64 y ∧ Hid (Ext w wr ∧ ∀ j, j < y → 0 < (yi t j).length → (li (yi t j) 0).new = true)) (fun _ _ _ i _ => tn - (intOf i).toNat)
  case atStart => exact ⟨0, Nat.zero_le _, rfl, Lib.hid ⟨Ext.refl _, fun j hj => by omega⟩⟩
  case round =>
    obtain ⟨y, hy, rfl, G⟩ := hrel
    by_cases hlt : y < tn
    · obtain ⟨⟨b1, o1, ra, rm, rd, rfl, hc, hrm, hLR⟩, hr9, hrr⟩ := HT.out y hlt
      have e1 : (y : Int) < tn := by omega
      have e2 : (0 : Int) ≤ y := by omega
      have cr := G.out.1.cell hc
      have rm9 : rm ≤ 1000 := by omega
      have HLo := Lib.hid (show ∀ i, i < rm → (∃ b o a1 n1 d1 a2 n2 d2, ra = some ⟨b, o, none⟩ ∧ AtL w b (o + i * 4) (li (yi t y) i) (.slice a1 n1 d1) (.slice a2 n2 d2) ∧ NL w (.slice a1 n1 d1) d1 (li (yi t y) i).thr ∧ PL w (.slice a2 n2 d2) d2 (li (yi t y) i).past) ∧ RightL t (li (yi t y) i) from fun i hi => by
        obtain ⟨a', n', e, hn', _, _, hat⟩ := hLR.open
        have e2 : ra = a' ∧ rm = n' := by simpa using e
        obtain ⟨b, o, a1, n1, d1, a2, n2, d2, h1, h2, _, _, h3, h4⟩ := hat i (by omega)
        exact ⟨⟨b, o, a1, n1, d1, a2, n2, d2, by rw [e2.1]; exact h1, h2, h3, h4⟩, hrr _ (li_mem (by omega))⟩)
      have Hrm := Lib.hid hrm
      clear hc hrm hLR hr9 hrr
      go_wp2
      obtain ⟨w8, hw8⟩ : ∃ w8, w8 = wr := ⟨_, rfl⟩
      subst hw8
      go_loopw [5, 6, 15] (fun _ _ i wq => ∃ n : Nat, n ≤ rm ∧ i = .int .i64 n ∧ Hid (Ext w wq ∧ (0 < n → (li (yi t y) 0).new = true))) (fun _ _ i _ => rm - (intOf i).toNat)
      case atStart => exact ⟨0, Nat.zero_le _, rfl, Lib.hid ⟨G.out.1, by omega⟩⟩
      case round =>
        obtain ⟨n, hn0, rfl, G2⟩ := hrel
        clear cr
        by_cases hnt : n < rm
        · obtain ⟨⟨b2, o2, a1, n1, d1, a2, n2, d2, rfl, hAL, hNL, hPL⟩, hRL⟩ := HLo.out n hnt
          have f1 : (n : Int) < rm := by omega
          have f2 : (0 : Int) ≤ n := by omega
          have hbad0 := HBad.out y hlt (by rw [← Hrm.out]; omega)
          have hz : n = 0 → li (yi t y) n = li (yi t y) 0 := fun e => by rw [e]
          obtain ⟨l0, hl0⟩ : ∃ l0, l0 = li (yi t y) 0 := ⟨_, rfl⟩
          obtain ⟨l, hl⟩ : ∃ l, l = li (yi t y) n := ⟨_, rfl⟩
          rw [← hl] at hAL hNL hPL hRL hz
          rw [← hl0] at hz hbad0
          have hG := G2.out.2
          rw [← hl0] at hG
          obtain ⟨x0, x1, x2, x3⟩ := hAL.ext G2.out.1
          obtain ⟨W1, hW1⟩ : ∃ W1, W1 = wr.alloc (.cells #[.int .u8 l.bed, .bool l.new, .slice a1 n1 d1, .slice a2 n2 d2] 46) := ⟨_, rfl⟩
          have Y1 := Lib.hid (show Ext w W1 by rw [hW1]; exact G2.out.1.trans ((Ext.refl _).alloc _))
          have N1 := Lib.hid (show B4 W1 wr.heap.size (.int .u8 l.bed) (.bool l.new) (.slice a1 n1 d1) (.slice a2 n2 d2) 46 by rw [hW1]; exact B4.new _ _ _ _ _ _)
          have HW1 := Lib.hid hW1
          have HNL := Lib.hid hNL; have HPL := Lib.hid hPL; have HRL := Lib.hid hRL; have HZ := Lib.hid hz; have HBd := Lib.hid hbad0; have HG := Lib.hid hG; have HL0 := Lib.hid hl0
          clear hAL hNL hPL hRL hz hbad0 hG hl hW1 hl0
          go_wp2_with fail
          rw [← HW1.out]
          clear x0 x1 x2 x3
          refine (HRi.out W1 Y1.out l _ _ d1 d2 (HNL.out.ext Y1.out) (HPL.out.ext Y1.out) HRL.out).mono ?_
          rintro e w2 ⟨rfl, x⟩
          have Y2 := Lib.hid (Y1.out.trans x)
          have z := N1.out.ext x
          have z1 := z.c1
          clear x z
          obtain ⟨nw, hnw⟩ : ∃ nw, nw = l.new := ⟨_, rfl⟩
          rw [← hnw] at z1
          have Hnw := Lib.hid hnw
          clear hnw
          by_cases hn00 : n = 0
          · have q1 : ((n : Int) == 0) = true := by simp [hn00]
            have HL := Lib.hid (HZ.out hn00)
            clear hn00
            cases nw with
            | true =>
              have HN := Lib.hid (show 0 < n + 1 → (li (yi t y) 0).new = true from fun _ => by rw [← HL0.out, ← HL.out, ← Hnw.out])
              go_wp2
              go_roundw
              case rel => exact ⟨n + 1, by omega, by go_num, Lib.hid ⟨Y2.out, HN.out⟩⟩
              case measure => simp [intOf]; omega
            | false =>
              have hbad := HBd.out (by rw [← HL.out, ← Hnw.out])
              go_wp2
              go_ret
              exact ⟨ret_int (by first | rfl | rw [hbad]), Y2.out⟩
          · have q1 : ((n : Int) == 0) = false := by simp [hn00]
            have HN := Lib.hid (show 0 < n + 1 → (li (yi t y) 0).new = true from fun _ => by rw [← HL0.out]; exact HG.out (by omega))
            go_wp2
            go_roundw
            case rel => exact ⟨n + 1, by omega, by go_num, Lib.hid ⟨Y2.out, HN.out⟩⟩
            case measure => simp [intOf]; omega
        · obtain rfl : n = rm := by omega
          have f1 : ¬ (n : Int) < n := by omega
          have HN := Lib.hid (show ∀ j, j < y + 1 → 0 < (yi t j).length → (li (yi t j) 0).new = true from fun j hj h0 => by
            rcases Nat.lt_or_ge j y with h1 | h1
            · exact G.out.2 j h1 h0
            · obtain rfl : j = y := by omega
              exact G2.out.2 (by rw [Hrm.out]; exact h0))
          go_wp2
          go_roundw
          case rel => exact ⟨y + 1, by omega, by go_num, Lib.hid ⟨G2.out.1, HN.out⟩⟩
          case measure => simp [intOf]; omega
    · obtain rfl : y = tn := by omega
      have e1 : ¬ (y : Int) < y := by omega
      have hok := HOk.out G.out.2
      go_wp2
      go_ret
      exact ⟨ret_int (by first | rfl | rw [hok]), G.out.1⟩
end Go.Proofs.YtlhkehfplcclgaaDoor
