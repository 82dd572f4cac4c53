/- Texts of this claim in one file: libraries and walks. -/
import Derived.Test.YtlhkehfplcclgaaDoorL3
/- loops.right. -/
namespace Go.Proofs.YtlhkehfplcclgaaDoor
set_option linter.unusedVariables false
set_option linter.unusedSimpArgs false
set_option maxRecDepth 8000
open Go Go.RowKit

/-- A loop of a table is right. -/
structure RightL (t : Tab) (l : Lp) : Prop where
  bed : l.bed = 0 ∨ l.bed = 1
  n1 : l.thr.length ≤ 4
  n2 : l.past.length ≤ 1000
  i1 : ∀ a ∈ l.thr, a.In ∧ hasB t a = true
  i2 : ∀ p ∈ l.past, p.In ∧ hasB t p.id = true
  one : OneD l.past
set_option maxHeartbeats 8000000 in
theorem Right_calls (tv u v : Value) (ct d1 d2 : Nat) (t : Tab) (l : Lp) (w : World) (h : TB w tv ct t) (hu : NL w u d1 l.thr) (hv : PL w v d2 l.past) (hr : RightL t l) :
    Calls Tryd.prog 82 #[tv, .agg #[.int .u8 l.bed, .bool l.new, u, v]] w fun e w' => e = .returned (.bool true) ∧ Ext w w' := by
  obtain ⟨ua, un, rfl, hun, hud, hu9, huat⟩ := hu.open
  obtain ⟨va, vn, rfl, hvn, hvd, hv9, hvat⟩ := hv.open
  obtain ⟨W, hW⟩ : ∃ W, W = w.alloc (.cells #[.int .u8 l.bed, .bool l.new, .slice ua un d1, .slice va vn d2] 46) := ⟨_, rfl⟩
  have xW : Ext w W := by rw [hW]; exact (Ext.refl _).alloc _
  have b4 : B4 W w.heap.size (.int .u8 l.bed) (.bool l.new) (.slice ua un d1) (.slice va vn d2) 46 := by rw [hW]; exact B4.new _ _ _ _ _ _
  have HHas := Lib.hid (fun w' a (x : Ext W w') (ha : Nm.In a) => LHas_calls tv ct t a w' (h.ext (xW.trans x)) ha)
  have HRe := Lib.hid (fun w' (x : Ext W w') => Reduce_calls (.slice va vn d2) d2 l.past w' (hv.ext (xW.trans x)) hr.n2 hr.one)
  have HU := Lib.hid (show ∀ i, i < un → (∃ b o, ua = some ⟨b, o, none⟩ ∧ At2 W b (o + i * 2) (ni l.thr i)) ∧ (ni l.thr i).In ∧ hasB t (ni l.thr i) = true from fun i hi => by
    obtain ⟨b, o, e, h2⟩ := huat i hi
    exact ⟨⟨b, o, e, h2.ext xW⟩, hr.i1 _ (ni_mem (by omega))⟩)
  have HV := Lib.hid (show ∀ i, i < vn → (∃ b o, va = some ⟨b, o, none⟩ ∧ At4 W b (o + i * 4) (qi l.past i)) ∧ (qi l.past i).id.In ∧ hasB t (qi l.past i).id = true ∧ ((qi l.past i).d = 0 ∨ (qi l.past i).d = 1) from fun i hi => by
    obtain ⟨b, o, e, h2⟩ := hvat i hi
    have hm := qi_mem (l := l.past) (i := i) (by omega)
    obtain ⟨d, hd0, hd⟩ := hr.one
    exact ⟨⟨b, o, e, h2.ext xW⟩, (hr.i2 _ hm).1.1, (hr.i2 _ hm).2, by rw [hd _ hm]; exact hd0⟩)
  have hbed := hr.bed
  have n1 : un ≤ 4 := by have := hr.n1; omega
  have n2 : vn ≤ 1000 := by have := hr.n2; omega
  have HVn := Lib.hid hvn
  have HB := Lib.hid b4; have HW := Lib.hid hW; have XW := Lib.hid xW
  obtain ⟨ta, tn, rfl, htn, htc, ht9, htt⟩ := h.open
  clear htn htt
  have hwl : w.heap.size < W.heap.size := by rw [hW]; simp
  clear h hu hv hr huat hvat hun hvn hW xW b4
  go_enter Tryd.func82, Tryd.ntmps82
  have g1 : ¬ (4 : Int) < un := by omega
  have g2 : ¬ (4096 : Int) < vn := by omega
  obtain ⟨bd, hbd⟩ : ∃ bd, bd = l.bed := ⟨_, rfl⟩
  rw [← hbd] at hbed
  have HW' := Lib.hid (show W = w.alloc (.cells #[.int .u8 bd, .bool l.new, .slice ua un d1, .slice va vn d2] 46) by rw [hbd]; exact HW.out)
  rw [← hbd]
  clear hbd
  rcases hbed with rfl | rfl
  · go_wp2
    rw [← HW'.out]
    go_loopw [6, 30] (fun _ i wr => ∃ k : Nat, k ≤ un ∧ i = .int .i64 k ∧ Hid (Ext W wr)) (fun _ i _ => un - (intOf i).toNat)
    case atStart => exact ⟨0, Nat.zero_le _, rfl, Lib.hid (Ext.refl _)⟩
    case round =>
      obtain ⟨k, hk, rfl, G⟩ := hrel
      by_cases hlt : k < un
      · obtain ⟨⟨b, o, rfl, hA⟩, hin, hb⟩ := HU.out k hlt
        have e1 : (k : Int) < un := by omega
        have e2 : (0 : Int) ≤ k := by omega
        have hA2 := hA.ext G.out
        obtain ⟨a, ha⟩ : ∃ a, a = ni l.thr k := ⟨_, rfl⟩
        rw [← ha] at hA2 hin hb
        obtain ⟨x0, x1⟩ := hA2
        obtain ⟨W1, hW1⟩ : ∃ W1, W1 = wr.alloc (.cells #[.int .u8 a.y, .int .i64 a.n] 41) := ⟨_, rfl⟩
        have Y1 := Lib.hid (show Ext W W1 by rw [hW1]; exact G.out.trans ((Ext.refl _).alloc _))
        have HW1 := Lib.hid hW1
        have Hin := Lib.hid hin; have Hb := Lib.hid hb
        clear hA ha hin hb hW1
        go_wp2_with fail
        rw [← HW1.out]
        clear x0 x1
        refine (HHas.out W1 a Y1.out Hin.out).mono ?_
        rintro e w2 ⟨rfl, x⟩
        rw [Hb.out]
        have Y2 := Lib.hid (Y1.out.trans x)
        clear x
        go_wp2
        go_roundw
        case rel => exact ⟨k + 1, by omega, by go_num, Y2⟩
        case measure => simp [intOf]; omega
      · obtain rfl : k = un := by omega
        have e1 : ¬ (k : Int) < k := by omega
        have c3 := G.out.cell HB.out.c3
        go_wp2
        clear c3
        obtain ⟨wo, hwo⟩ : ∃ wo, wo = wr := ⟨_, rfl⟩
        subst hwo
        go_loopw [8, 42] (fun _ i wr => ∃ j : Nat, j ≤ vn ∧ i = .int .i64 j ∧ Hid (Ext W wr)) (fun _ i _ => vn - (intOf i).toNat)
        case atStart => exact ⟨0, Nat.zero_le _, rfl, G⟩
        case round =>
          obtain ⟨j, hj, rfl, G2⟩ := hrel
          by_cases hjt : j < vn
          · obtain ⟨⟨b, o, rfl, hA⟩, hin, hb, hd⟩ := HV.out j hjt
            have f1 : (j : Int) < vn := by omega
            have f2 : (0 : Int) ≤ j := by omega
            have hA2 := hA.ext G2.out
            obtain ⟨a, ha⟩ : ∃ a, a = qi l.past j := ⟨_, rfl⟩
            rw [← ha] at hA2 hin hb hd
            obtain ⟨x0, x1, x2, x3⟩ := hA2
            obtain ⟨W1, hW1⟩ : ∃ W1, W1 = wr.alloc (.cells #[.int .u8 a.id.y, .int .i64 a.id.n, .bool a.f, .int .u8 a.d] 50) := ⟨_, rfl⟩
            have Y1 := Lib.hid (show Ext W W1 by rw [hW1]; exact G2.out.trans ((Ext.refl _).alloc _))
            have N1 := Lib.hid (show B4 W1 wr.heap.size (.int .u8 a.id.y) (.int .i64 a.id.n) (.bool a.f) (.int .u8 a.d) 50 by rw [hW1]; exact B4.new _ _ _ _ _ _)
            have HW1 := Lib.hid hW1
            have Hin := Lib.hid hin; have Hb := Lib.hid hb
            clear hA ha hin hb hW1
            go_wp2_with fail
            rw [← HW1.out]
            clear x0 x1 x2 x3
            refine (HHas.out W1 a.id Y1.out Hin.out).mono ?_
            rintro e w2 ⟨rfl, x⟩
            rw [Hb.out]
            have Y2 := Lib.hid (Y1.out.trans x)
            have z2 := N1.out.ext x
            have z3 := z2.c2; have z4 := z2.c3
            clear x z2
            obtain ⟨ad, had⟩ : ∃ ad, ad = a.d := ⟨_, rfl⟩
            rw [← had] at hd z4
            clear had
            rcases hd with rfl | rfl
            · go_wp2
              go_roundw
              case rel => exact ⟨j + 1, by omega, by go_num, Y2⟩
              case measure => simp [intOf]; omega
            · go_wp2
              go_roundw
              case rel => exact ⟨j + 1, by omega, by go_num, Y2⟩
              case measure => simp [intOf]; omega
          · obtain rfl : j = vn := by omega
            have f1 : ¬ (j : Int) < j := by omega
            have q0_1 := G2.out.cell HB.out.c3
            go_wp2
            go_region_held3 (fun w' => w'.cell? ⟨w.heap.size, 3, Option.none⟩ = some (.slice va j d2)) (first | (with_reducible exact q0_1) | (with_reducible exact q1_1) | go_keep) (first
              | (go_at_call 90; (refine (HRe.out _ ?_).mono ?_); (focus (refine Ext.trans G2.out ?_; (focus (repeat (first | (with_reducible exact Ext.refl _) | (with_reducible apply Ext.drew) | (with_reducible apply Ext.drewN) | (with_reducible apply Ext.alloc)))))); intro e w5 hh; obtain ⟨g, m, hm, rfl, x⟩ := hh; have Xa : Hid (Ext wr w5) := Lib.hid (Ext.trans (by ((repeat (first | (with_reducible exact Ext.refl _) | (with_reducible apply Ext.drew) | (with_reducible apply Ext.drewN) | (with_reducible apply Ext.alloc))); done)) x); have q1_1 := Xa.out.cell q0_1; have Hm := Lib.hid hm; clear hm; clear x))
            obtain rfl : m = j := by rw [Hm.out]; exact HVn.out.symm
            clear Hm
            go_wp2
            go_ret
            exact ⟨ret_bool (by simp), XW.out.trans (G2.out.trans Xa.out)⟩
  · go_wp2
    rw [← HW'.out]
    go_loopw [6, 30] (fun _ i wr => ∃ k : Nat, k ≤ un ∧ i = .int .i64 k ∧ Hid (Ext W wr)) (fun _ i _ => un - (intOf i).toNat)
    case atStart => exact ⟨0, Nat.zero_le _, rfl, Lib.hid (Ext.refl _)⟩
    case round =>
      obtain ⟨k, hk, rfl, G⟩ := hrel
      by_cases hlt : k < un
      · obtain ⟨⟨b, o, rfl, hA⟩, hin, hb⟩ := HU.out k hlt
        have e1 : (k : Int) < un := by omega
        have e2 : (0 : Int) ≤ k := by omega
        have hA2 := hA.ext G.out
        obtain ⟨a, ha⟩ : ∃ a, a = ni l.thr k := ⟨_, rfl⟩
        rw [← ha] at hA2 hin hb
        obtain ⟨x0, x1⟩ := hA2
        obtain ⟨W1, hW1⟩ : ∃ W1, W1 = wr.alloc (.cells #[.int .u8 a.y, .int .i64 a.n] 41) := ⟨_, rfl⟩
        have Y1 := Lib.hid (show Ext W W1 by rw [hW1]; exact G.out.trans ((Ext.refl _).alloc _))
        have HW1 := Lib.hid hW1
        have Hin := Lib.hid hin; have Hb := Lib.hid hb
        clear hA ha hin hb hW1
        go_wp2_with fail
        rw [← HW1.out]
        clear x0 x1
        refine (HHas.out W1 a Y1.out Hin.out).mono ?_
        rintro e w2 ⟨rfl, x⟩
        rw [Hb.out]
        have Y2 := Lib.hid (Y1.out.trans x)
        clear x
        go_wp2
        go_roundw
        case rel => exact ⟨k + 1, by omega, by go_num, Y2⟩
        case measure => simp [intOf]; omega
      · obtain rfl : k = un := by omega
        have e1 : ¬ (k : Int) < k := by omega
        have c3 := G.out.cell HB.out.c3
        go_wp2
        clear c3
        obtain ⟨wo, hwo⟩ : ∃ wo, wo = wr := ⟨_, rfl⟩
        subst hwo
        go_loopw [8, 42] (fun _ i wr => ∃ j : Nat, j ≤ vn ∧ i = .int .i64 j ∧ Hid (Ext W wr)) (fun _ i _ => vn - (intOf i).toNat)
        case atStart => exact ⟨0, Nat.zero_le _, rfl, G⟩
        case round =>
          obtain ⟨j, hj, rfl, G2⟩ := hrel
          by_cases hjt : j < vn
          · obtain ⟨⟨b, o, rfl, hA⟩, hin, hb, hd⟩ := HV.out j hjt
            have f1 : (j : Int) < vn := by omega
            have f2 : (0 : Int) ≤ j := by omega
            have hA2 := hA.ext G2.out
            obtain ⟨a, ha⟩ : ∃ a, a = qi l.past j := ⟨_, rfl⟩
            rw [← ha] at hA2 hin hb hd
            obtain ⟨x0, x1, x2, x3⟩ := hA2
            obtain ⟨W1, hW1⟩ : ∃ W1, W1 = wr.alloc (.cells #[.int .u8 a.id.y, .int .i64 a.id.n, .bool a.f, .int .u8 a.d] 50) := ⟨_, rfl⟩
            have Y1 := Lib.hid (show Ext W W1 by rw [hW1]; exact G2.out.trans ((Ext.refl _).alloc _))
            have N1 := Lib.hid (show B4 W1 wr.heap.size (.int .u8 a.id.y) (.int .i64 a.id.n) (.bool a.f) (.int .u8 a.d) 50 by rw [hW1]; exact B4.new _ _ _ _ _ _)
            have HW1 := Lib.hid hW1
            have Hin := Lib.hid hin; have Hb := Lib.hid hb
            clear hA ha hin hb hW1
            go_wp2_with fail
            rw [← HW1.out]
            clear x0 x1 x2 x3
            refine (HHas.out W1 a.id Y1.out Hin.out).mono ?_
            rintro e w2 ⟨rfl, x⟩
            rw [Hb.out]
            have Y2 := Lib.hid (Y1.out.trans x)
            have z2 := N1.out.ext x
            have z3 := z2.c2; have z4 := z2.c3
            clear x z2
            obtain ⟨ad, had⟩ : ∃ ad, ad = a.d := ⟨_, rfl⟩
            rw [← had] at hd z4
            clear had
            rcases hd with rfl | rfl
            · go_wp2
              go_roundw
              case rel => exact ⟨j + 1, by omega, by go_num, Y2⟩
              case measure => simp [intOf]; omega
            · go_wp2
              go_roundw
              case rel => exact ⟨j + 1, by omega, by go_num, Y2⟩
              case measure => simp [intOf]; omega
          · obtain rfl : j = vn := by omega
            have f1 : ¬ (j : Int) < j := by omega
            have q0_1 := G2.out.cell HB.out.c3
            go_wp2
            go_region_held3 (fun w' => w'.cell? ⟨w.heap.size, 3, Option.none⟩ = some (.slice va j d2)) (first | (with_reducible exact q0_1) | (with_reducible exact q1_1) | go_keep) (first
              | (go_at_call 90; (refine (HRe.out _ ?_).mono ?_); (focus (refine Ext.trans G2.out ?_; (focus (repeat (first | (with_reducible exact Ext.refl _) | (with_reducible apply Ext.drew) | (with_reducible apply Ext.drewN) | (with_reducible apply Ext.alloc)))))); intro e w5 hh; obtain ⟨g, m, hm, rfl, x⟩ := hh; have Xa : Hid (Ext wr w5) := Lib.hid (Ext.trans (by ((repeat (first | (with_reducible exact Ext.refl _) | (with_reducible apply Ext.drew) | (with_reducible apply Ext.drewN) | (with_reducible apply Ext.alloc))); done)) x); have q1_1 := Xa.out.cell q0_1; have Hm := Lib.hid hm; clear hm; clear x))
            obtain rfl : m = j := by rw [Hm.out]; exact HVn.out.symm
            clear Hm
            go_wp2
            go_ret
            exact ⟨ret_bool (by simp), XW.out.trans (G2.out.trans Xa.out)⟩
end Go.Proofs.YtlhkehfplcclgaaDoor
/- loops.checkLoops, of a table whose loops are right. -/
namespace Go.Proofs.YtlhkehfplcclgaaDoor
set_option linter.unusedVariables false
set_option linter.unusedSimpArgs false
set_option maxRecDepth 8000
open Go Go.RowKit

/-- Each first loop of a yarn is New. -/
def newB (t : Tab) : Bool := t.all fun r => decide (r = []) || (li r 0).new
/-- All loops are right. -/
structure RightT (t : Tab) : Prop where
  n4 : t.length ≤ 100
  n5 : ∀ r ∈ t, r.length ≤ 1000
  ri : ∀ r ∈ t, ∀ l ∈ r, RightL t l ∧ 0 ≤ l.bed ∧ l.bed ≤ 255
theorem newB_bad {t : Tab} {y : Nat} (hy : y < t.length) (h0 : 0 < (yi t y).length) (h : (li (yi t y) 0).new = false) : newB t = false := by
  cases hb : newB t with
  | false => rfl
  | true =>
    have := List.all_eq_true.1 hb (yi t y) (yi_mem hy)
    rw [h, Bool.or_false] at this
    have := of_decide_eq_true this
    rw [this] at h0; simp at h0
theorem newB_ok {t : Tab} (h : ∀ y, y < t.length → 0 < (yi t y).length → (li (yi t y) 0).new = true) : newB t = true := List.all_eq_true.2 fun r hr => by
  obtain ⟨y, hy, rfl⟩ := List.mem_iff_getElem.1 hr
  rw [← yi_of hy]
  by_cases h0 : yi t y = []
  · simp [h0]
  · rw [h y hy (List.length_pos_iff.2 h0)]; simp
set_option maxHeartbeats 8000000 in
theorem ChkL_calls (tv : Value) (ct : Nat) (t : Tab) (w : World) (h : TB w tv ct t) (hr : RightT t) :
    Calls Tryd.prog 73 #[tv] w fun e w' => e = .returned (.int .i64 (if newB t then 0 else 1)) ∧ Ext w w' := by
  have HRi := Lib.hid (fun w' (x : Ext w w') l u v d1 d2 (hu : NL w' u d1 (Lp.thr l)) (hv : PL w' v d2 (Lp.past l)) (hl : RightL t l) => Right_calls tv u v ct d1 d2 t l w' (h.ext x) hu hv hl)
  obtain ⟨ta, tn, rfl, htn, htc, ht9, htt⟩ := h.open
  obtain ⟨R, hR⟩ : ∃ R : Int, R = if newB t then 0 else 1 := ⟨_, rfl⟩
  have HBad := Lib.hid (show ∀ y, y < tn → 0 < (yi t y).length → (li (yi t y) 0).new = false → R = 1 from fun y hy h0 hh => by rw [hR, newB_bad (by omega) h0 hh]; rfl)
  have HOk := Lib.hid (show (∀ y, y < tn → 0 < (yi t y).length → (li (yi t y) 0).new = true) → R = 0 from fun hh => by rw [hR, newB_ok fun y hy h0 => hh y (by omega) h0]; rfl)
  have HT := Lib.hid (show ∀ i, i < tn → (∃ b o a m d, ta = some ⟨b, o, none⟩ ∧ w.cell? ⟨b, o + i, none⟩ = some (.slice a m d) ∧ m = (yi t i).length ∧ LR w (.slice a m d) d (yi t i)) ∧ (yi t i).length ≤ 1000 ∧ ∀ l ∈ yi t i, RightL t l from fun i hi => ⟨htt i hi, hr.n5 _ (yi_mem (by omega)), fun l hl => (hr.ri _ (yi_mem (by omega)) l hl).1⟩)
  have tn9 : tn ≤ 100 := by have := hr.n4; omega
  rw [← hR]
  clear h hr hR htt htn
  go_enter Tryd.func73, Tryd.ntmps73
  go_wp2
  go_loopw [4, 5, 6, 9] (fun _ _ _ i wr => ∃ y : Nat, y ≤ tn ∧ i = .int .i64 y ∧ Hid (Ext w wr ∧ ∀ j, j < y → 0 < (yi t j).length → (li (yi t j) 0).new = true)) (fun _ _ _ i _ => tn - (intOf i).toNat)
  case atStart => exact ⟨0, Nat.zero_le _, rfl, Lib.hid ⟨Ext.refl _, fun j hj => by omega⟩⟩
  case round =>
    obtain ⟨y, hy, rfl, G⟩ := hrel
    by_cases hlt : y < tn
    · obtain ⟨⟨b1, o1, ra, rm, rd, rfl, hc, hrm, hLR⟩, hr9, hrr⟩ := HT.out y hlt
      have e1 : (y : Int) < tn := by omega
      have e2 : (0 : Int) ≤ y := by omega
      have cr := G.out.1.cell hc
      have rm9 : rm ≤ 1000 := by omega
      have HLo := Lib.hid (show ∀ i, i < rm → (∃ b o a1 n1 d1 a2 n2 d2, ra = some ⟨b, o, none⟩ ∧ AtL w b (o + i * 4) (li (yi t y) i) (.slice a1 n1 d1) (.slice a2 n2 d2) ∧ NL w (.slice a1 n1 d1) d1 (li (yi t y) i).thr ∧ PL w (.slice a2 n2 d2) d2 (li (yi t y) i).past) ∧ RightL t (li (yi t y) i) from fun i hi => by
        obtain ⟨a', n', e, hn', _, _, hat⟩ := hLR.open
        have e2 : ra = a' ∧ rm = n' := by simpa using e
        obtain ⟨b, o, a1, n1, d1, a2, n2, d2, h1, h2, _, _, h3, h4⟩ := hat i (by omega)
        exact ⟨⟨b, o, a1, n1, d1, a2, n2, d2, by rw [e2.1]; exact h1, h2, h3, h4⟩, hrr _ (li_mem (by omega))⟩)
      have Hrm := Lib.hid hrm
      clear hc hrm hLR hr9 hrr
      go_wp2
      obtain ⟨w8, hw8⟩ : ∃ w8, w8 = wr := ⟨_, rfl⟩
      subst hw8
      go_loopw [5, 6, 15] (fun _ _ i wq => ∃ n : Nat, n ≤ rm ∧ i = .int .i64 n ∧ Hid (Ext w wq ∧ (0 < n → (li (yi t y) 0).new = true))) (fun _ _ i _ => rm - (intOf i).toNat)
      case atStart => exact ⟨0, Nat.zero_le _, rfl, Lib.hid ⟨G.out.1, by omega⟩⟩
      case round =>
        obtain ⟨n, hn0, rfl, G2⟩ := hrel
        clear cr
        by_cases hnt : n < rm
        · obtain ⟨⟨b2, o2, a1, n1, d1, a2, n2, d2, rfl, hAL, hNL, hPL⟩, hRL⟩ := HLo.out n hnt
          have f1 : (n : Int) < rm := by omega
          have f2 : (0 : Int) ≤ n := by omega
          have hbad0 := HBad.out y hlt (by rw [← Hrm.out]; omega)
          have hz : n = 0 → li (yi t y) n = li (yi t y) 0 := fun e => by rw [e]
          obtain ⟨l0, hl0⟩ : ∃ l0, l0 = li (yi t y) 0 := ⟨_, rfl⟩
          obtain ⟨l, hl⟩ : ∃ l, l = li (yi t y) n := ⟨_, rfl⟩
          rw [← hl] at hAL hNL hPL hRL hz
          rw [← hl0] at hz hbad0
          have hG := G2.out.2
          rw [← hl0] at hG
          obtain ⟨x0, x1, x2, x3⟩ := hAL.ext G2.out.1
          obtain ⟨W1, hW1⟩ : ∃ W1, W1 = wr.alloc (.cells #[.int .u8 l.bed, .bool l.new, .slice a1 n1 d1, .slice a2 n2 d2] 46) := ⟨_, rfl⟩
          have Y1 := Lib.hid (show Ext w W1 by rw [hW1]; exact G2.out.1.trans ((Ext.refl _).alloc _))
          have N1 := Lib.hid (show B4 W1 wr.heap.size (.int .u8 l.bed) (.bool l.new) (.slice a1 n1 d1) (.slice a2 n2 d2) 46 by rw [hW1]; exact B4.new _ _ _ _ _ _)
          have HW1 := Lib.hid hW1
          have HNL := Lib.hid hNL; have HPL := Lib.hid hPL; have HRL := Lib.hid hRL; have HZ := Lib.hid hz; have HBd := Lib.hid hbad0; have HG := Lib.hid hG; have HL0 := Lib.hid hl0
          clear hAL hNL hPL hRL hz hbad0 hG hl hW1 hl0
          go_wp2_with fail
          rw [← HW1.out]
          clear x0 x1 x2 x3
          refine (HRi.out W1 Y1.out l _ _ d1 d2 (HNL.out.ext Y1.out) (HPL.out.ext Y1.out) HRL.out).mono ?_
          rintro e w2 ⟨rfl, x⟩
          have Y2 := Lib.hid (Y1.out.trans x)
          have z := N1.out.ext x
          have z1 := z.c1
          clear x z
          obtain ⟨nw, hnw⟩ : ∃ nw, nw = l.new := ⟨_, rfl⟩
          rw [← hnw] at z1
          have Hnw := Lib.hid hnw
          clear hnw
          by_cases hn00 : n = 0
          · have q1 : ((n : Int) == 0) = true := by simp [hn00]
            have HL := Lib.hid (HZ.out hn00)
            clear hn00
            cases nw with
            | true =>
              have HN := Lib.hid (show 0 < n + 1 → (li (yi t y) 0).new = true from fun _ => by rw [← HL0.out, ← HL.out, ← Hnw.out])
              go_wp2
              go_roundw
              case rel => exact ⟨n + 1, by omega, by go_num, Lib.hid ⟨Y2.out, HN.out⟩⟩
              case measure => simp [intOf]; omega
            | false =>
              have hbad := HBd.out (by rw [← HL.out, ← Hnw.out])
              go_wp2
              go_ret
              exact ⟨ret_int (by first | rfl | rw [hbad]), Y2.out⟩
          · have q1 : ((n : Int) == 0) = false := by simp [hn00]
            have HN := Lib.hid (show 0 < n + 1 → (li (yi t y) 0).new = true from fun _ => by rw [← HL0.out]; exact HG.out (by omega))
            go_wp2
            go_roundw
            case rel => exact ⟨n + 1, by omega, by go_num, Lib.hid ⟨Y2.out, HN.out⟩⟩
            case measure => simp [intOf]; omega
        · obtain rfl : n = rm := by omega
          have f1 : ¬ (n : Int) < n := by omega
          have HN := Lib.hid (show ∀ j, j < y + 1 → 0 < (yi t j).length → (li (yi t j) 0).new = true from fun j hj h0 => by
            rcases Nat.lt_or_ge j y with h1 | h1
            · exact G.out.2 j h1 h0
            · obtain rfl : j = y := by omega
              exact G2.out.2 (by rw [Hrm.out]; exact h0))
          go_wp2
          go_roundw
          case rel => exact ⟨y + 1, by omega, by go_num, Lib.hid ⟨G2.out.1, HN.out⟩⟩
          case measure => simp [intOf]; omega
    · obtain rfl : y = tn := by omega
      have e1 : ¬ (y : Int) < y := by omega
      have hok := HOk.out G.out.2
      go_wp2
      go_ret
      exact ⟨ret_int (by first | rfl | rw [hok]), G.out.1⟩
end Go.Proofs.YtlhkehfplcclgaaDoor
/- loops.checkThrough, where no loop was pulled through twice. -/
namespace Go.Proofs.YtlhkehfplcclgaaDoor
set_option linter.unusedVariables false
set_option linter.unusedSimpArgs false
set_option maxRecDepth 8000
open Go Go.RowKit

theorem addN_fresh {l : List Nm} {a : Nm} (h : a ∉ l) : addN (fun _ => 0) l a = 0 := by
  show (0 : Int) + ((l.count a : Nat) : Int) = 0
  rw [List.count_eq_zero.2 h]; rfl
/-- A name behind a prefix of a list without repeats. -/
theorem fresh_of {l p : List Nm} {a : Nm} {r : List Nm} (h : l.Nodup) (e : l = p ++ a :: r) : a ∉ p := fun hp => by
  rw [e] at h
  exact (List.nodup_append.1 h).2.2 a hp a (by simp) rfl
theorem thrT_split {t : Tab} {y n j : Nat} (hy : y < t.length) (hn : n < (yi t y).length) (hj : j < (li (yi t y) n).thr.length) :
    ∃ r, thrT t = (thrT (t.take y) ++ thrR ((yi t y).take n) ++ (li (yi t y) n).thr.take j) ++ ni (li (yi t y) n).thr j :: r := by
  have h1 : t = t.take y ++ yi t y :: t.drop (y + 1) := by rw [yi_of hy]; simp
  have h2 : yi t y = (yi t y).take n ++ li (yi t y) n :: (yi t y).drop (n + 1) := by rw [li_of hn]; simp
  have h3 : (li (yi t y) n).thr = (li (yi t y) n).thr.take j ++ ni (li (yi t y) n).thr j :: (li (yi t y) n).thr.drop (j + 1) := by rw [ni_of hj]; simp
  have e1 : thrT t = thrT (t.take y) ++ (thrR (yi t y) ++ thrT (t.drop (y + 1))) := by
    conv => lhs; rw [h1]
    unfold thrT; simp
  have e2 : thrR (yi t y) = thrR ((yi t y).take n) ++ ((li (yi t y) n).thr ++ thrR ((yi t y).drop (n + 1))) := by
    conv => lhs; rw [h2]
    unfold thrR; simp
  have e3 : (li (yi t y) n).thr ++ thrR ((yi t y).drop (n + 1)) = (li (yi t y) n).thr.take j ++ (ni (li (yi t y) n).thr j :: ((li (yi t y) n).thr.drop (j + 1) ++ thrR ((yi t y).drop (n + 1)))) := by
    conv => lhs; rw [h3]
    simp only [List.append_assoc, List.cons_append]
  refine ⟨(li (yi t y) n).thr.drop (j + 1) ++ (thrR ((yi t y).drop (n + 1)) ++ thrT (t.drop (y + 1))), ?_⟩
  rw [e1, e2, e3]
  simp only [List.append_assoc, List.cons_append]
end Go.Proofs.YtlhkehfplcclgaaDoor
/- loops.checkThrough: the walk, where no loop was pulled through twice. -/
namespace Go.Proofs.YtlhkehfplcclgaaDoor
set_option linter.unusedVariables false
set_option linter.unusedSimpArgs false
set_option maxRecDepth 8000
open Go Go.RowKit

set_option maxHeartbeats 16000000 in
theorem ChkT_calls (tv : Value) (ct : Nat) (t : Tab) (w : World) (h : TB w tv ct t) (hr : RightT t) (hnd : (thrT t).Nodup) :
    Calls Tryd.prog 74 #[tv] w fun e w' => e = .returned (.int .i64 0) ∧ Ext w w' := by
  obtain ⟨ta, tn, rfl, htn, htc, ht9, htt⟩ := h.open
  obtain ⟨mb, hmb⟩ : ∃ mb, mb = w.heap.size := ⟨_, rfl⟩
  obtain ⟨W, hW⟩ : ∃ W, W = w.alloc (.map #[] 0) := ⟨_, rfl⟩
  have xW : Ext w W := by rw [hW]; exact (Ext.refl _).alloc _
  have M0 := Lib.hid (show MB W mb (addN (fun _ => 0) (thrT (t.take 0))) by rw [List.take_zero, show thrT [] = [] from rfl, addN_nil, hW, hmb]; exact MB.made w)
  have HMb := Lib.hid hmb
  have HT := Lib.hid (show ∀ y, y < tn → (∃ b o a m d, ta = some ⟨b, o, none⟩ ∧ w.cell? ⟨b, o + y, none⟩ = some (.slice a m d) ∧ m = (yi t y).length ∧ LR w (.slice a m d) d (yi t y)) ∧ (yi t y).length ≤ 1000 ∧ (∀ l ∈ yi t y, RightL t l) ∧ thrT (t.take (y + 1)) = thrT (t.take y) ++ thrR (yi t y) ∧
      ∀ n, n < (yi t y).length → ∀ j, j < (li (yi t y) n).thr.length → addN (fun _ => 0) (thrT (t.take y) ++ thrR ((yi t y).take n) ++ (li (yi t y) n).thr.take j) (ni (li (yi t y) n).thr j) = 0 from fun y hy => ⟨htt y hy, hr.n5 _ (yi_mem (by omega)), fun l hl => (hr.ri _ (yi_mem (by omega)) l hl).1, take_yi (by omega), fun n hn j hj => by
        obtain ⟨r, e⟩ := thrT_split (t := t) (y := y) (by omega) hn hj
        exact addN_fresh (fresh_of hnd e)⟩)
  have tn9 : tn ≤ 100 := by have := hr.n4; omega
  have HW := Lib.hid hW; have XW := Lib.hid xW
  have hmm := @run_makeMap Tryd.prog
  clear h hr htt htn hnd hW xW hmb
  go_enter Tryd.func74, Tryd.ntmps74
  go_wp2
  rw [← HW.out, ← HMb.out]
  go_loopw [5, 7, 9, 13] (fun _ _ _ i wr => ∃ y : Nat, y ≤ tn ∧ i = .int .i64 y ∧ Hid (Ext w wr ∧ MB wr mb (addN (fun _ => 0) (thrT (t.take y))))) (fun _ _ _ i _ => tn - (intOf i).toNat)
  case atStart => exact ⟨0, Nat.zero_le _, rfl, Lib.hid ⟨XW.out, M0.out⟩⟩
  case round =>
    obtain ⟨y, hy, rfl, G⟩ := hrel
    by_cases hlt : y < tn
    · obtain ⟨⟨b1, o1, ra, rm, rd, rfl, hc, hrm, hLR⟩, hr9, hrr, hty, hfr⟩ := HT.out y hlt
      have e1 : (y : Int) < tn := by omega
      have e2 : (0 : Int) ≤ y := by omega
      have cr := G.out.1.cell hc
      have rm9 : rm ≤ 1000 := by omega
      obtain ⟨BS, hBS⟩ : ∃ BS, BS = thrT (t.take y) := ⟨_, rfl⟩
      obtain ⟨RW, hRW⟩ : ∃ RW, RW = yi t y := ⟨_, rfl⟩
      rw [← hRW] at hLR hrr hty hfr hrm
      rw [← hBS] at hty hfr
      have HLo := Lib.hid (show ∀ i, i < rm → (∃ b o a1 n1 d1 a2 n2 d2, ra = some ⟨b, o, none⟩ ∧ AtL w b (o + i * 4) (li RW i) (.slice a1 n1 d1) (.slice a2 n2 d2) ∧ n1 = (li RW i).thr.length ∧ NL w (.slice a1 n1 d1) d1 (li RW i).thr) ∧ RightL t (li RW i) from fun i hi => by
        obtain ⟨a', n', e, hn', _, _, hat⟩ := hLR.open
        have e2 : ra = a' ∧ rm = n' := by simpa using e
        obtain ⟨b, o, a1, n1, d1, a2, n2, d2, h1, h2, h5, _, h3, _⟩ := hat i (by omega)
        exact ⟨⟨b, o, a1, n1, d1, a2, n2, d2, by rw [e2.1]; exact h1, h2, h5, h3⟩, hrr _ (li_mem (by omega))⟩)
      have Hrm := Lib.hid hrm; have Hty := Lib.hid hty; have HFr := Lib.hid hfr
      have GM := Lib.hid (show MB wr mb (addN (fun _ => 0) (BS ++ thrR (RW.take 0))) by rw [List.take_zero, show thrR [] = [] from rfl, List.append_nil, hBS]; exact G.out.2)
      clear hc hrm hLR hr9 hrr hty hfr hBS hRW
      go_wp2
      obtain ⟨w8, hw8⟩ : ∃ w8, w8 = wr := ⟨_, rfl⟩
      subst hw8
      go_loopw [7, 9, 19] (fun _ _ i wq => ∃ n : Nat, n ≤ rm ∧ i = .int .i64 n ∧ Hid (Ext w wq ∧ MB wq mb (addN (fun _ => 0) (BS ++ thrR (RW.take n))))) (fun _ _ i _ => rm - (intOf i).toNat)
      case atStart => exact ⟨0, Nat.zero_le _, rfl, Lib.hid ⟨G.out.1, GM.out⟩⟩
      case round =>
        obtain ⟨n, hn0, rfl, G2⟩ := hrel
        clear cr
        by_cases hnt : n < rm
        · obtain ⟨⟨b2, o2, a1, n1, d1, a2, n2, d2, rfl, hAL, hn1, hNL⟩, hRL⟩ := HLo.out n hnt
          have f1 : (n : Int) < rm := by omega
          have f2 : (0 : Int) ≤ n := by omega
          obtain ⟨x0, x1, x2, x3⟩ := hAL.ext G2.out.1
          have hfr := HFr.out n (by rw [← Hrm.out]; exact hnt)
          have htk := take_li (ls := RW) (k := n) (by rw [← Hrm.out]; exact hnt)
          obtain ⟨l, hl⟩ : ∃ l, l = li RW n := ⟨_, rfl⟩
          rw [← hl] at x0 x1 hNL hRL hn1 hfr htk
          obtain ⟨BT, hBT⟩ : ∃ BT, BT = BS ++ thrR (RW.take n) := ⟨_, rfl⟩
          rw [← hBT] at hfr
          have n19 : n1 ≤ 4 := by have := hRL.n1; omega
          have HNL := Lib.hid (show ∀ i, i < n1 → (∃ b o, a1 = some ⟨b, o, none⟩ ∧ At2 w b (o + i * 2) (ni l.thr i)) ∧ (ni l.thr i).In ∧ addN (fun _ => 0) (BT ++ l.thr.take i) (ni l.thr i) = 0 ∧ BT ++ l.thr.take (i + 1) = (BT ++ l.thr.take i) ++ [ni l.thr i] from fun i hi => by
            obtain ⟨a', n', e, hn', _, _, hat⟩ := hNL.open
            have e2 : a1 = a' ∧ n1 = n' := by simpa using e
            refine ⟨by rw [e2.1]; exact hat i (by omega), (hRL.i1 _ (ni_mem (by omega))).1, hfr i (by omega), ?_⟩
            rw [List.append_assoc, ni_of (by omega), ← List.take_succ_eq_append_getElem]
            )
          have Hn1 := Lib.hid hn1
          have Htk := Lib.hid (show BS ++ thrR (RW.take (n + 1)) = BT ++ l.thr by rw [htk, hBT, List.append_assoc])
          have MT := Lib.hid (show MB wr mb (addN (fun _ => 0) (BT ++ l.thr.take 0)) by rw [List.take_zero, List.append_nil, hBT]; exact G2.out.2)
          obtain ⟨W1, hW1⟩ : ∃ W1, W1 = wr.alloc (.cells #[.int .u8 l.bed, .bool l.new, .slice a1 n1 d1, .slice a2 n2 d2] 46) := ⟨_, rfl⟩
          have xx : Ext wr W1 := by rw [hW1]; exact (Ext.refl _).alloc _
          have Y1 := Lib.hid (G2.out.1.trans xx)
          have M1 := Lib.hid (MT.out.ext xx)
          have HW1 := Lib.hid hW1
          clear hAL hNL hRL hn1 hfr htk hl hBT hW1 xx MT
          go_wp2
          rw [← HW1.out]
          clear x0 x1 x2 x3
          obtain ⟨w7, hw7⟩ : ∃ w7, w7 = wr := ⟨_, rfl⟩
          subst hw7
          go_loopw [9, 26] (fun _ i wq => ∃ j : Nat, j ≤ n1 ∧ i = .int .i64 j ∧ Hid (Ext w wq ∧ MB wq mb (addN (fun _ => 0) (BT ++ l.thr.take j)))) (fun _ i _ => n1 - (intOf i).toNat)
          case atStart => exact ⟨0, Nat.zero_le _, rfl, Lib.hid ⟨Y1.out, M1.out⟩⟩
          case round =>
            obtain ⟨j, hj0, rfl, G3⟩ := hrel
            by_cases hjt : j < n1
            · obtain ⟨⟨b3, o3, rfl, hA⟩, hin, h0, hnx⟩ := HNL.out j hjt
              have i1 : (j : Int) < n1 := by omega
              have i2 : (0 : Int) ≤ j := by omega
              obtain ⟨ca, cb⟩ := hA.ext G3.out.1
              obtain ⟨a, ha⟩ : ∃ a, a = ni l.thr j := ⟨_, rfl⟩
              rw [← ha] at ca cb hin h0 hnx
              obtain ⟨F, hF⟩ : ∃ F, F = addN (fun _ => 0) (BT ++ l.thr.take j) := ⟨_, rfl⟩
              have Hnx := Lib.hid (show addN (fun _ => 0) (BT ++ l.thr.take (j + 1)) = upN F a 1 by rw [hnx, addN_snoc, ← hF, show F a = 0 by rw [hF]; exact h0]; rfl)
              have hMr := G3.out.2
              rw [← hF] at hMr h0
              obtain ⟨W2, hW2⟩ : ∃ W2, W2 = wr.alloc (.cells #[.int .u8 a.y, .int .i64 a.n] 41) := ⟨_, rfl⟩
              have hMW : MB W2.drew mb F := show MB W2 mb F by rw [hW2]; exact hMr.kept (World.grownBy_alloc _ _ none) (by simp)
              have hN2 : BN W2 wr.heap.size a := by rw [hW2]; exact BN.new wr a
              have hbl : mb < wr.heap.size := by obtain ⟨es, clock, hb, _⟩ := hMr; exact (Array.getElem?_eq_some_iff.1 hb).1
              have hX2 : Ext w W2.drew := (show Ext w W2 by rw [hW2]; exact G3.out.1.trans ((Ext.refl _).alloc _)).drew
              obtain ⟨st, wm, wn, r1, r2, r3, r4, hm3, g2, g3⟩ := hMW.incr hin 1
              have r5 := hm3.look hin
              rw [upN_upN] at r5
              rw [h0] at r1 r2 r3
              obtain ⟨a0, a1'⟩ := hN2.at
              simp only [Nat.zero_add] at a1'
              have v2 := World.grownBy.cell g2 (show W2.drew.cell? _ = _ from a0) (by simp; omega)
              have v3 := World.grownBy.cell g2 (show W2.drew.cell? _ = _ from a1') (by simp; omega)
              have v4 := World.grownBy.cell g3 (show W2.drew.cell? _ = _ from a0) (by simp; omega)
              have v5 := World.grownBy.cell g3 (show W2.drew.cell? _ = _ from a1') (by simp; omega)
              have HR := Lib.hid (show Ext w wn ∧ MB wn mb (addN (fun _ => 0) (BT ++ l.thr.take (j + 1))) from ⟨Ext.grown hX2 g3 (fun k hk => by cases hk; rw [HMb.out]; exact Nat.le_refl _), by rw [Hnx.out]; exact hm3⟩)
              have HW2 := Lib.hid hW2
              unfold Nm.val at r1 r2 r3 r5
              clear hMW hN2 hm3 g2 g3 hW2 Hnx ha hA hbl hF h0 hnx hX2 hMr hin
              go_wp2
              rw [← HW2.out]
              go_region
              go_wp2
              go_roundw
              case rel => exact ⟨j + 1, by omega, by go_num, HR⟩
              case measure => simp [intOf]; omega
            · obtain rfl : j = n1 := by omega
              have i1 : ¬ (j : Int) < j := by omega
              have HN := Lib.hid (show Ext w wr ∧ MB wr mb (addN (fun _ => 0) (BS ++ thrR (RW.take (n + 1)))) from ⟨G3.out.1, by
                have h1 := G3.out.2
                rw [Hn1.out, List.take_length, ← Htk.out] at h1
                exact h1⟩)
              go_wp2
              go_roundw
              case rel => exact ⟨n + 1, by omega, by go_num, HN⟩
              case measure => simp [intOf]; omega
        · obtain rfl : n = rm := by omega
          have f1 : ¬ (n : Int) < n := by omega
          have HN := Lib.hid (show Ext w wr ∧ MB wr mb (addN (fun _ => 0) (thrT (t.take (y + 1)))) from ⟨G2.out.1, by
            have h1 := G2.out.2
            rw [Hrm.out, List.take_length, ← Hty.out] at h1
            exact h1⟩)
          go_wp2
          go_roundw
          case rel => exact ⟨y + 1, by omega, by go_num, HN⟩
          case measure => simp [intOf]; omega
    · obtain rfl : y = tn := by omega
      have e1 : ¬ (y : Int) < y := by omega
      go_wp2
      go_ret
      exact ⟨rfl, G.out.1⟩
end Go.Proofs.YtlhkehfplcclgaaDoor
/- loops.need. -/
namespace Go.Proofs.YtlhkehfplcclgaaDoor
set_option linter.unusedVariables false
set_option linter.unusedSimpArgs false
set_option maxRecDepth 8000
open Go Go.RowKit

/-- What a loop needs. -/
def needL (l : Lp) : List Nm := l.thr ++ l.past.map Ps.id
theorem needL_len (l : Lp) : (needL l).length = l.thr.length + l.past.length := by unfold needL; simp
theorem needL_1 {l : Lp} {i : Nat} (h : i < l.thr.length) : ni (needL l) i = ni l.thr i := by
  unfold needL ni; simp [List.getD, List.getElem?_append_left h]
theorem needL_2 {l : Lp} {i : Nat} (h : i < l.past.length) : ni (needL l) (l.thr.length + i) = (qi l.past i).id := by
  rw [ni_of (by rw [needL_len]; omega), qi_of h]
  unfold needL
  rw [List.getElem_append_right (by omega)]; simp
set_option maxHeartbeats 8000000 in
theorem Need_calls (u v : Value) (d1 d2 : Nat) (l : Lp) (i : Nat) (w : World) (hu : NL w u d1 l.thr) (hv : PL w v d2 l.past) (hi : i < (needL l).length) (h9 : (needL l).length ≤ 10000) :
    Calls Tryd.prog 83 #[.agg #[.int .u8 l.bed, .bool l.new, u, v], .int .i64 (i : Int)] w fun e w' => e = .returned (ni (needL l) i).val ∧ Ext w w' := by
  rw [needL_len] at hi h9
  obtain ⟨ua, un, rfl, hun, hud, hu9, huat⟩ := hu.open
  obtain ⟨va, vn, rfl, hvn, hvd, hv9, hvat⟩ := hv.open
  obtain ⟨a, ha⟩ : ∃ a, a = ni (needL l) i := ⟨_, rfl⟩
  have X := Lib.hid (show Ext w ((w.alloc (.cells #[.int .u8 l.bed, .bool l.new, .slice ua un d1, .slice va vn d2] 46)).alloc (.cells #[.int .u8 0, .int .i64 0] 41)) from ((Ext.refl _).alloc _).alloc _)
  rw [← ha]
  have Hi := Lib.hid hi
  have un9 : un ≤ 10000 := by omega
  have e0 : (0 : Int) ≤ i := by omega
  by_cases h1 : i < un
  · obtain ⟨b, o, rfl, hA⟩ := huat i h1
    rw [← needL_1 (by omega), ← ha] at hA
    have e1 : (i : Int) < un := by omega
    obtain ⟨x0, x1⟩ := hA.ext X.out
    have l1 : w.heap.size < w.heap.size + 1 + 1 := by omega
    clear huat hvat ha hu hv hi h9 hun hvn hA
    go_enter Tryd.func83, Tryd.ntmps83
    go_wp2
    exact bodyPost_ret (v := .agg #[.int .u8 a.y, .int .i64 a.n]) (by simp [results, Tryd.results83, go_sem]) rfl ⟨rfl, ((Ext.refl _).alloc _).alloc _⟩
  · obtain ⟨j, hj⟩ : ∃ j, j = i - un := ⟨_, rfl⟩
    have hjv : j < vn := by omega
    obtain ⟨b, o, rfl, hA⟩ := hvat j hjv
    have hq : (qi l.past j).id = a := by
      rw [ha, show i = l.thr.length + j by omega]; exact (needL_2 (by omega)).symm
    have e1 : ¬ (i : Int) < un := by omega
    have g1 : IntKind.i64.wrap ((i : Int) - un) = (i : Int) - un := IntWalk.i64_in _ ⟨by omega, by omega⟩
    have g2 : ((i : Int) - un).toNat = j := by omega
    have g3 : (0 : Int) ≤ (i : Int) - un := by omega
    have g4 : (i : Int) - un < vn := by omega
    have g5 : (un : Int) ≤ i := by omega
    obtain ⟨x0, x1, _, _⟩ := hA.ext X.out
    rw [hq] at x0 x1
    clear huat hvat ha hu hv hi h9 hun hvn hA hj hq
    go_enter Tryd.func83, Tryd.ntmps83
    go_wp2
    exact bodyPost_ret (v := .agg #[.int .u8 a.y, .int .i64 a.n]) (by simp [results, Tryd.results83, go_sem]) rfl ⟨rfl, ((Ext.refl _).alloc _).alloc _⟩
end Go.Proofs.YtlhkehfplcclgaaDoor
/- Acyclic tables: some loop can always be made. No program in sight but for the lists. -/
namespace Go.Proofs.YtlhkehfplcclgaaDoor
set_option linter.unusedVariables false
set_option linter.unusedSimpArgs false
open Go Go.RowKit

/-- A rank that shows that the loops can be made one by one. -/
structure Acyc (t : Tab) (rk : Nm → Nat) : Prop where
  need : ∀ y, y < t.length → ∀ n, n < (yi t y).length → ∀ a ∈ needL (li (yi t y) n), hasB t a = true ∧ rk a < rk ⟨(y : Int) + 1, n⟩
  prev : ∀ y, y < t.length → ∀ n, n + 1 < (yi t y).length → rk ⟨(y : Int) + 1, n⟩ < rk ⟨(y : Int) + 1, (n + 1 : Nat)⟩
/-- Of name a the loop is made, where of each yarn mk are. -/
def madeB (mk : Nat → Nat) (a : Nm) : Bool := decide (a.n < (mk (a.y - 1).toNat : Int))
/-- Yarn y has no loop left, or needs one that is not made. -/
def Stuck (t : Tab) (mk : Nat → Nat) (y : Nat) : Prop := mk y = (yi t y).length ∨ ∃ a ∈ needL (li (yi t y) (mk y)), madeB mk a = false
theorem rk_mono {t : Tab} {rk : Nm → Nat} (h : Acyc t rk) {y n : Nat} (hy : y < t.length) : ∀ d, n + d < (yi t y).length → rk ⟨(y : Int) + 1, (n : Nat)⟩ ≤ rk ⟨(y : Int) + 1, (n + d : Nat)⟩
  | 0, _ => Nat.le_refl _
  | d + 1, hd => Nat.le_trans (rk_mono h hy d (by omega)) (Nat.le_of_lt (h.prev y hy (n + d) (by omega)))
theorem hasB_iff {t : Tab} {a : Nm} (h : hasB t a = true) : ∃ z m : Nat, a = ⟨(z : Int) + 1, m⟩ ∧ z < t.length ∧ m < (yi t z).length := by
  unfold hasB at h
  simp only [Bool.and_eq_true, decide_eq_true_eq] at h
  obtain ⟨h1, h2, h3, h4⟩ := h
  refine ⟨(a.y - 1).toNat, a.n.toNat, ?_, by omega, by omega⟩
  obtain ⟨y, n⟩ := a
  dsimp only at h1 h2 h3 h4 ⊢
  congr 1 <;> omega
theorem not_all_stuck {t : Tab} {rk : Nm → Nat} (h : Acyc t rk) {mk : Nat → Nat} (hm : ∀ y, y < t.length → mk y ≤ (yi t y).length) (hs : ∀ y, y < t.length → Stuck t mk y) : ∀ y, y < t.length → mk y = (yi t y).length := by
  have key : ∀ r y, y < t.length → mk y < (yi t y).length → rk ⟨(y : Int) + 1, (mk y : Nat)⟩ ≤ r → False := by
    intro r
    induction r with
    | zero =>
      intro y hy hlt hr
      rcases hs y hy with h1 | ⟨a, ha, _⟩
      · omega
      · have := (h.need y hy _ hlt a ha).2; omega
    | succ r ih =>
      intro y hy hlt hr
      rcases hs y hy with h1 | ⟨a, ha, hb⟩
      · omega
      · obtain ⟨h2, h3⟩ := h.need y hy _ hlt a ha
        obtain ⟨z, m, rfl, hz, hmz⟩ := hasB_iff h2
        have hle : mk z ≤ m := by
          unfold madeB at hb
          have := of_decide_eq_false hb
          dsimp only at this
          rw [show ((z : Int) + 1 - 1).toNat = z by omega] at this
          omega
        have := rk_mono h hz (n := mk z) (m - mk z) (by omega)
        rw [show mk z + (m - mk z) = m by omega] at this
        exact ih z hz (by omega) (by omega)
  intro y hy
  rcases Nat.lt_or_ge (mk y) (yi t y).length with h1 | h1
  · exact (key _ y hy h1 (Nat.le_refl _)).elim
  · have := hm y hy; omega
end Go.Proofs.YtlhkehfplcclgaaDoor
/- loops.first: its length. The state of its loops. -/
namespace Go.Proofs.YtlhkehfplcclgaaDoor
set_option linter.unusedVariables false
set_option linter.unusedSimpArgs false
set_option maxRecDepth 8000
open Go Go.RowKit

theorem weiI : EK Tryd.prog 58 3 (.int .i64 0) 1 8 := ⟨Tryd.underlying58, by kernel_rfl, rfl, by decide⟩
theorem rowIs_to {w : World} {b n : Nat} {t : TypeId} {f g : Nat → Value} (h : w.rowIs b t n f) (hg : ∀ i, i < n → f i = g i) : w.rowIs b t n g := by
  obtain ⟨c, h1, h2, h3⟩ := h
  exact ⟨c, h1, h2, fun i hi => by rw [h3 i hi, hg i hi]⟩
/-- The state: r has s names; of each yarn mk loops are made; th of the needs of the next one are known to be there. -/
structure FS (B : Nat) (w0 wr : World) (tn : Nat) (r : Value) (s g1 g2 : Nat) (mk th : Nat → Nat) : Prop where
  x : Below B w0 wr
  own : ∃ ns : List Nm, s = ns.length ∧ wr.ownsRow B 41 2 r s (ns.map Nm.cs).flatten
  r1 : wr.rowIs g1 3 tn fun y => .int .i64 (mk y : Nat)
  r2 : wr.rowIs g2 3 tn fun y => .int .i64 (th y : Nat)
  b1 : B ≤ g1
  b2 : B ≤ g2
  ne : g1 ≠ g2
/-- How many are made. -/
def sumN (mk : Nat → Nat) : Nat → Nat
  | 0 => 0
  | n + 1 => sumN mk n + mk n
def up1 (f : Nat → Nat) (y x : Nat) : Nat → Nat := fun i => if i = y then x else f i
theorem sumN_up {mk : Nat → Nat} {y : Nat} : ∀ n, sumN (up1 mk y (mk y + 1)) n = sumN mk n + if y < n then 1 else 0
  | 0 => rfl
  | n + 1 => by
    rw [sumN, sumN, sumN_up n]
    unfold up1
    by_cases h : n = y
    · subst h; simp; omega
    · rw [if_neg h]
      by_cases h2 : y < n
      · rw [if_pos h2, if_pos (by omega)]; omega
      · rw [if_neg h2, if_neg (by omega)]; omega
theorem sumN_le {mk lm : Nat → Nat} : ∀ n, (∀ y, y < n → mk y ≤ lm y) → sumN mk n ≤ sumN lm n
  | 0, _ => Nat.le_refl _
  | n + 1, h => by rw [sumN, sumN]; have := sumN_le n fun y hy => h y (by omega); have := h n (by omega); omega
theorem sumN_eq {mk lm : Nat → Nat} : ∀ n, (∀ y, y < n → mk y = lm y) → sumN mk n = sumN lm n
  | 0, _ => rfl
  | n + 1, h => by rw [sumN, sumN, sumN_eq n fun y hy => h y (by omega), h n (by omega)]
theorem cntT_sum (t : Tab) : ∀ n, n ≤ t.length → cntT (t.take n) = (sumN (fun y => (yi t y).length) n : Nat)
  | 0, _ => rfl
  | n + 1, h => by rw [cntT_take (by omega), cntT_sum t n (by omega), sumN]; omega
theorem own_block_ne {w : World} {B n k g m : Nat} {v : Value} {xs : List Value} {f : Nat → Value} {e e' : TypeId} (h : w.ownsRow B e k v n xs) (hr : w.rowIs g e' m f) (he : e ≠ e') : v.ownBlock ≠ some g := by
  obtain ⟨_, ⟨rfl, _⟩ | ⟨g', cap, cur, rfl, _, h3, _⟩⟩ := h
  · simp [Value.ownBlock]
  · intro e1
    have : g' = g := by simpa [Value.ownBlock] using e1
    subst this
    obtain ⟨c, h4, _⟩ := hr
    rw [h3] at h4
    cases h4
    exact he rfl
theorem own_set {w : World} {B n k : Nat} {v : Value} {xs : List Value} {e : TypeId} (h : w.ownsRow B e k v n xs) {a : Addr} (ha : v.ownBlock ≠ some a.block) (u : Value) : (w.setCell a u).ownsRow B e k v n xs := by
  obtain ⟨h1, h2 | ⟨g', cap, cur, h3, h4, h5, h6⟩⟩ := h
  · exact ⟨h1, .inl h2⟩
  · refine ⟨h1, .inr ⟨g', cap, cur, h3, h4, ?_, h6⟩⟩
    have hne : g' ≠ a.block := fun e1 => ha (by rw [h3]; simp [Value.ownBlock, e1])
    rw [Below.heap_setCell _ _ _ _ hne]; exact h5
theorem FS.ob1 {B : Nat} {w0 wr : World} {tn : Nat} {r : Value} {s g1 g2 : Nat} {mk th : Nat → Nat} (h : FS B w0 wr tn r s g1 g2 mk th) : r.ownBlock ≠ some g1 ∧ r.ownBlock ≠ some g2 := by
  obtain ⟨xs, _, ho⟩ := h.own
  exact ⟨own_block_ne ho h.r1 (by decide), own_block_ne ho h.r2 (by decide)⟩
theorem FS.ext {B : Nat} {w0 wr w' : World} {tn : Nat} {r : Value} {s g1 g2 : Nat} {mk th : Nat → Nat} (h : FS B w0 wr tn r s g1 g2 mk th) (x : Ext wr w') (hB : B ≤ wr.heap.size) : FS B w0 w' tn r s g1 g2 mk th := by
  obtain ⟨xs, hs, ho⟩ := h.own
  exact ⟨h.x.trans (Below.mono x hB), ⟨xs, hs, own_extk ho x⟩, x.row h.r1, x.row h.r2, h.b1, h.b2, h.ne⟩
theorem FS.set1 {B : Nat} {w0 wr : World} {tn : Nat} {r : Value} {s g1 g2 : Nat} {mk th : Nat → Nat} (h : FS B w0 wr tn r s g1 g2 mk th) (y x : Nat) : FS B w0 (wr.setCell ⟨g1, y, none⟩ (.int .i64 (x : Nat))) tn r s g1 g2 (up1 mk y x) th := by
  obtain ⟨xs, hs, ho⟩ := h.own
  refine ⟨Below.setCell h.x h.b1 _, ⟨xs, hs, own_set ho h.ob1.1 _⟩, rowIs_to (h.r1.set y _) fun i hi => ?_, h.r2.setOther (fun e => h.ne e.symm) _, h.b1, h.b2, h.ne⟩
  unfold up1; split <;> rfl
theorem FS.set2 {B : Nat} {w0 wr : World} {tn : Nat} {r : Value} {s g1 g2 : Nat} {mk th : Nat → Nat} (h : FS B w0 wr tn r s g1 g2 mk th) (y x : Nat) : FS B w0 (wr.setCell ⟨g2, y, none⟩ (.int .i64 (x : Nat))) tn r s g1 g2 mk (up1 th y x) := by
  obtain ⟨xs, hs, ho⟩ := h.own
  refine ⟨Below.setCell h.x h.b2 _, ⟨xs, hs, own_set ho h.ob1.2 _⟩, h.r1.setOther h.ne _, rowIs_to (h.r2.set y _) fun i hi => ?_, h.b1, h.b2, h.ne⟩
  unfold up1; split <;> rfl
theorem FS.app {w0 wr wz w' : World} {tn : Nat} {r v' : Value} {s g1 g2 : Nat} {mk th : Nat → Nat} (h : FS w0.heap.size w0 wr tn r s g1 g2 mk th) (x : Ext wr wz) (a : Nm) {ns : List Nm} (hns : s = ns.length)
    (ho : w'.ownsRow w0.heap.size 41 2 v' (s + 1) (ns.map Nm.cs ++ [a.cs]).flatten) (hg : wz.grownBy w' r.ownBlock) : FS w0.heap.size w0 w' tn v' (s + 1) g1 g2 mk th := by
  obtain ⟨n1, n2⟩ := h.ob1
  obtain ⟨xs, _, hr⟩ := h.own
  refine ⟨Ext.grown (Ext.trans (show Ext w0 wr from h.x) x) hg fun j hj => (hr.lt j hj).1, ⟨ns ++ [a], by simp [hns], by rw [List.map_append]; exact ho⟩, ?_, ?_, h.b1, h.b2, h.ne⟩
  · exact (x.row h.r1).of_block (hg.block g1 (x.row h.r1).lt (fun e => n1 e.symm))
  · exact (x.row h.r2).of_block (hg.block g2 (x.row h.r2).lt (fun e => n2 e.symm))
/-- What is known of the counts: all needs that are counted are made. -/
structure FInv (t : Tab) (tn : Nat) (mk th : Nat → Nat) : Prop where
  m : ∀ y, y < tn → mk y ≤ (yi t y).length
  n : ∀ y, y < tn → mk y < (yi t y).length → th y ≤ (needL (li (yi t y) (mk y))).length ∧ ∀ j, j < th y → madeB mk (ni (needL (li (yi t y) (mk y))) j) = true
theorem FInv.zero {t : Tab} {tn : Nat} : FInv t tn (fun _ => 0) (fun _ => 0) := ⟨fun _ _ => Nat.zero_le _, fun _ _ _ => ⟨Nat.zero_le _, fun j hj => by omega⟩⟩
theorem FInv.step {t : Tab} {tn y : Nat} {mk th : Nat → Nat} (h : FInv t tn mk th) (hl : th y < (needL (li (yi t y) (mk y))).length) (hm : madeB mk (ni (needL (li (yi t y) (mk y))) (th y)) = true) : FInv t tn mk (up1 th y (th y + 1)) := by
  refine ⟨h.m, fun z hz hzl => ?_⟩
  obtain ⟨h1, h2⟩ := h.n z hz hzl
  unfold up1
  by_cases e : z = y
  · subst e
    rw [if_pos rfl]
    refine ⟨hl, fun j hj => ?_⟩
    rcases Nat.lt_or_ge j (th z) with h3 | h3
    · exact h2 j h3
    · obtain rfl : j = th z := by omega
      exact hm
  · rw [if_neg e]; exact ⟨h1, h2⟩
theorem madeB_mono {mk mk' : Nat → Nat} (h : ∀ y, mk y ≤ mk' y) {a : Nm} (ha : madeB mk a = true) : madeB mk' a = true := by
  unfold madeB at ha ⊢
  have h1 := of_decide_eq_true ha
  have h2 := h (a.y - 1).toNat
  exact decide_eq_true (by omega)
theorem up1_ge (mk : Nat → Nat) (y x : Nat) : mk x ≤ up1 mk y (mk y + 1) x := by
  unfold up1
  by_cases e : x = y
  · subst e; rw [if_pos rfl]; omega
  · rw [if_neg e]; omega
theorem FInv.make {t : Tab} {tn y : Nat} {mk th : Nat → Nat} (h : FInv t tn mk th) (hl : mk y < (yi t y).length) : FInv t tn (up1 mk y (mk y + 1)) (up1 th y 0) := by
  refine ⟨fun z hz => ?_, fun z hz hzl => ?_⟩
  · unfold up1
    by_cases e : z = y
    · subst e; rw [if_pos rfl]; omega
    · rw [if_neg e]; exact h.m z hz
  · by_cases e : z = y
    · subst e
      have h1 : up1 th z 0 z = 0 := if_pos rfl
      rw [h1]
      exact ⟨Nat.zero_le _, fun j hj => by omega⟩
    · have h1 : up1 th y 0 z = th z := if_neg e
      have h2 : up1 mk y (mk y + 1) z = mk z := if_neg e
      rw [h2] at hzl
      rw [h1, h2]
      obtain ⟨h3, h4⟩ := h.n z hz hzl
      exact ⟨h3, fun j hj => madeB_mono (up1_ge mk y) (h4 j hj)⟩
theorem B4.set {w : World} {b : Nat} {x y z u : Value} {t : TypeId} (h : B4 w b x y z u t) {a : Addr} (hb : b ≠ a.block) (v : Value) : B4 (w.setCell a v) b x y z u t := by
  unfold B4 at h ⊢
  rw [Below.heap_setCell _ _ _ _ hb]; exact h
end Go.Proofs.YtlhkehfplcclgaaDoor
