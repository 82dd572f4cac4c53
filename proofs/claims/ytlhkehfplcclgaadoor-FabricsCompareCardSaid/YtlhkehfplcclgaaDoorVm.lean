/- loops.right. -/
import Derived.Test.YtlhkehfplcclgaaDoorVl
namespace Go.Proofs.YtlhkehfplcclgaaDoor
set_option linter.unusedVariables false
set_option linter.unusedSimpArgs false
set_option maxRecDepth 8000
open Go Go.RowKit

/-- A loop of a table is right. -/
structure RightL (t : Tab) (l : Lp) : Prop where
  bed : l.bed = 0 ∨ l.bed = 1
  n1 : l.thr.length ≤ 4
  n2 : l.past.length ≤ 1000
  i1 : ∀ a ∈ l.thr, a.In ∧ hasB t a = true
  i2 : ∀ p ∈ l.past, p.In ∧ hasB t p.id = true
  one : OneD l.past
set_option maxHeartbeats 8000000 in
theorem Right_calls (tv u v : Value) (ct d1 d2 : Nat) (t : Tab) (l : Lp) (w : World) (h : TB w tv ct t) (hu : NL w u d1 l.thr) (hv : PL w v d2 l.past) (hr : RightL t l) :
    Calls Tryd.prog 82 #[tv, .agg #[.int .u8 l.bed, .bool l.new, u, v]] w fun e w' => e = .returned (.bool true) ∧ Ext w w' := by
  obtain ⟨ua, un, rfl, hun, hud, hu9, huat⟩ := hu.open
  obtain ⟨va, vn, rfl, hvn, hvd, hv9, hvat⟩ := hv.open
  obtain ⟨W, hW⟩ : ∃ W, W = w.alloc (.cells #[.int .u8 l.bed, .bool l.new, .slice ua un d1, .slice va vn d2] 46) := ⟨_, rfl⟩
  have xW : Ext w W := by rw [hW]; exact (Ext.refl _).alloc _
  have b4 : B4 W w.heap.size (.int .u8 l.bed) (.bool l.new) (.slice ua un d1) (.slice va vn d2) 46 := by rw [hW]; exact B4.new _ _ _ _ _ _
  have HHas := Lib.hid (fun w' a (x : Ext W w') (ha : Nm.In a) => LHas_calls tv ct t a w' (h.ext (xW.trans x)) ha)
  have HRe := Lib.hid (fun w' (x : Ext W w') => Reduce_calls (.slice va vn d2) d2 l.past w' (hv.ext (xW.trans x)) hr.n2 hr.one)
  have HU := Lib.hid (show ∀ i, i < un → (∃ b o, ua = some ⟨b, o, none⟩ ∧ At2 W b (o + i * 2) (ni l.thr i)) ∧ (ni l.thr i).In ∧ hasB t (ni l.thr i) = true from fun i hi => by
    obtain ⟨b, o, e, h2⟩ := huat i hi
    exact ⟨⟨b, o, e, h2.ext xW⟩, hr.i1 _ (ni_mem (by omega))⟩)
  have HV := Lib.hid (show ∀ i, i < vn → (∃ b o, va = some ⟨b, o, none⟩ ∧ At4 W b (o + i * 4) (qi l.past i)) ∧ (qi l.past i).id.In ∧ hasB t (qi l.past i).id = true ∧ ((qi l.past i).d = 0 ∨ (qi l.past i).d = 1) from fun i hi => by
    obtain ⟨b, o, e, h2⟩ := hvat i hi
    have hm := qi_mem (l := l.past) (i := i) (by omega)
    obtain ⟨d, hd0, hd⟩ := hr.one
    exact ⟨⟨b, o, e, h2.ext xW⟩, (hr.i2 _ hm).1.1, (hr.i2 _ hm).2, by rw [hd _ hm]; exact hd0⟩)
  have hbed := hr.bed
  have n1 : un ≤ 4 := by have := hr.n1; omega
  have n2 : vn ≤ 1000 := by have := hr.n2; omega
  have HVn := Lib.hid hvn
  have HB := Lib.hid b4; have HW := Lib.hid hW; have XW := Lib.hid xW
  obtain ⟨ta, tn, rfl, htn, htc, ht9, htt⟩ := h.open
  clear htn htt
  have hwl : w.heap.size < W.heap.size := by rw [hW]; simp
  clear h hu hv hr huat hvat hun hvn hW xW b4
  go_enter Tryd.func82, Tryd.ntmps82
  have g1 : ¬ (4 : Int) < un := by omega
  have g2 : ¬ (4096 : Int) < vn := by omega
  obtain ⟨bd, hbd⟩ : ∃ bd, bd = l.bed := ⟨_, rfl⟩
  rw [← hbd] at hbed
  have HW' := Lib.hid (show W = w.alloc (.cells #[.int .u8 bd, .bool l.new, .slice ua un d1, .slice va vn d2] 46) by rw [hbd]; exact HW.out)
  rw [← hbd]
  clear hbd
  rcases hbed with rfl | rfl
  · go_wp2
    rw [← HW'.out]
    go_loopw [6, 30] (fun _ i wr => ∃ k : Nat, k ≤ un ∧ i = .int .i64 k ∧ Hid (Ext W wr)) (fun _ i _ => un - (intOf i).toNat)
    case atStart => exact ⟨0, Nat.zero_le _, rfl, Lib.hid (Ext.refl _)⟩
    case round =>
      obtain ⟨k, hk, rfl, G⟩ := hrel
      by_cases hlt : k < un
      · obtain ⟨⟨b, o, rfl, hA⟩, hin, hb⟩ := HU.out k hlt
        have e1 : (k : Int) < un := by omega
        have e2 : (0 : Int) ≤ k := by omega
        have hA2 := hA.ext G.out
        obtain ⟨a, ha⟩ : ∃ a, a = ni l.thr k := ⟨_, rfl⟩
        rw [← ha] at hA2 hin hb
        obtain ⟨x0, x1⟩ := hA2
        obtain ⟨W1, hW1⟩ : ∃ W1, W1 = wr.alloc (.cells #[.int .u8 a.y, .int .i64 a.n] 41) := ⟨_, rfl⟩
        have Y1 := Lib.hid (show Ext W W1 by rw [hW1]; exact G.out.trans ((Ext.refl _).alloc _))
        have HW1 := Lib.hid hW1
        have Hin := Lib.hid hin; have Hb := Lib.hid hb
        clear hA ha hin hb hW1
        go_wp2_with fail
        rw [← HW1.out]
        clear x0 x1
        refine (HHas.out W1 a Y1.out Hin.out).mono ?_
        rintro e w2 ⟨rfl, x⟩
        rw [Hb.out]
        have Y2 := Lib.hid (Y1.out.trans x)
        clear x
        go_wp2
        go_roundw
        case rel => exact ⟨k + 1, by omega, by go_num, Y2⟩
        case measure => simp [intOf]; omega
      · obtain rfl : k = un := by omega
        have e1 : ¬ (k : Int) < k := by omega
        have c3 := G.out.cell HB.out.c3
        go_wp2
        clear c3
        obtain ⟨wo, hwo⟩ : ∃ wo, wo = wr := ⟨_, rfl⟩
        subst hwo
        go_loopw [8, 42] (fun _ i wr => ∃ j : Nat, j ≤ vn ∧ i = .int .i64 j ∧ Hid (Ext W wr)) (fun _ i _ => vn - (intOf i).toNat)
        case atStart => exact ⟨0, Nat.zero_le _, rfl, G⟩
        case round =>
          obtain ⟨j, hj, rfl, G2⟩ := hrel
          by_cases hjt : j < vn
          · obtain ⟨⟨b, o, rfl, hA⟩, hin, hb, hd⟩ := HV.out j hjt
            have f1 : (j : Int) < vn := by omega
            have f2 : (0 : Int) ≤ j := by omega
            have hA2 := hA.ext G2.out
            obtain ⟨a, ha⟩ : ∃ a, a = qi l.past j := ⟨_, rfl⟩
            rw [← ha] at hA2 hin hb hd
            obtain ⟨x0, x1, x2, x3⟩ := hA2
            obtain ⟨W1, hW1⟩ : ∃ W1, W1 = wr.alloc (.cells #[.int .u8 a.id.y, .int .i64 a.id.n, .bool a.f, .int .u8 a.d] 50) := ⟨_, rfl⟩
            have Y1 := Lib.hid (show Ext W W1 by rw [hW1]; exact G2.out.trans ((Ext.refl _).alloc _))
            have N1 := Lib.hid (show B4 W1 wr.heap.size (.int .u8 a.id.y) (.int .i64 a.id.n) (.bool a.f) (.int .u8 a.d) 50 by rw [hW1]; exact B4.new _ _ _ _ _ _)
            have HW1 := Lib.hid hW1
            have Hin := Lib.hid hin; have Hb := Lib.hid hb
            clear hA ha hin hb hW1
            go_wp2_with fail
            rw [← HW1.out]
            clear x0 x1 x2 x3
            refine (HHas.out W1 a.id Y1.out Hin.out).mono ?_
            rintro e w2 ⟨rfl, x⟩
            rw [Hb.out]
            have Y2 := Lib.hid (Y1.out.trans x)
            have z2 := N1.out.ext x
            have z3 := z2.c2; have z4 := z2.c3
            clear x z2
            obtain ⟨ad, had⟩ : ∃ ad, ad = a.d := ⟨_, rfl⟩
            rw [← had] at hd z4
            clear had
            rcases hd with rfl | rfl
            · go_wp2
              go_roundw
              case rel => exact ⟨j + 1, by omega, by go_num, Y2⟩
              case measure => simp [intOf]; omega
            · go_wp2
              go_roundw
              case rel => exact ⟨j + 1, by omega, by go_num, Y2⟩
              case measure => simp [intOf]; omega
          · obtain rfl : j = vn := by omega
            have f1 : ¬ (j : Int) < j := by omega
            have q0_1 := G2.out.cell HB.out.c3
            go_wp2
            go_region_held3 (fun w' => w'.cell? ⟨w.heap.size, 3, Option.none⟩ = some (.slice va j d2)) (first | (with_reducible exact q0_1) | (with_reducible exact q1_1) | go_keep) (first
              | (go_at_call 90; (refine (HRe.out _ ?_).mono ?_); (focus (refine Ext.trans G2.out ?_; (focus (repeat (first | (with_reducible exact Ext.refl _) | (with_reducible apply Ext.drew) | (with_reducible apply Ext.drewN) | (with_reducible apply Ext.alloc)))))); intro e w5 hh; obtain ⟨g, m, hm, rfl, x⟩ := hh; have Xa : Hid (Ext wr w5) := Lib.hid (Ext.trans (by ((repeat (first | (with_reducible exact Ext.refl _) | (with_reducible apply Ext.drew) | (with_reducible apply Ext.drewN) | (with_reducible apply Ext.alloc))); done)) x); have q1_1 := Xa.out.cell q0_1; have Hm := Lib.hid hm; clear hm; clear x))
            obtain rfl : m = j := by rw [Hm.out]; exact HVn.out.symm
            clear Hm
            go_wp2
            go_ret
            exact ⟨ret_bool (by simp), XW.out.trans (G2.out.trans Xa.out)⟩
  · go_wp2
    rw [← HW'.out]
    go_loopw [6, 30] (fun _ i wr => ∃ k : Nat, k ≤ un ∧ i = .int .i64 k ∧ Hid (Ext W wr)) (fun _ i _ => un - (intOf i).toNat)
    case atStart => exact ⟨0, Nat.zero_le _, rfl, Lib.hid (Ext.refl _)⟩
    case round =>
      obtain ⟨k, hk, rfl, G⟩ := hrel
      by_cases hlt : k < un
      · obtain ⟨⟨b, o, rfl, hA⟩, hin, hb⟩ := HU.out k hlt
        have e1 : (k : Int) < un := by omega
        have e2 : (0 : Int) ≤ k := by omega
        have hA2 := hA.ext G.out
        obtain ⟨a, ha⟩ : ∃ a, a = ni l.thr k := ⟨_, rfl⟩
        rw [← ha] at hA2 hin hb
        obtain ⟨x0, x1⟩ := hA2
        obtain ⟨W1, hW1⟩ : ∃ W1, W1 = wr.alloc (.cells #[.int .u8 a.y, .int .i64 a.n] 41) := ⟨_, rfl⟩
        have Y1 := Lib.hid (show Ext W W1 by rw [hW1]; exact G.out.trans ((Ext.refl _).alloc _))
        have HW1 := Lib.hid hW1
        have Hin := Lib.hid hin; have Hb := Lib.hid hb
        clear hA ha hin hb hW1
        go_wp2_with fail
        rw [← HW1.out]
        clear x0 x1
        refine (HHas.out W1 a Y1.out Hin.out).mono ?_
        rintro e w2 ⟨rfl, x⟩
        rw [Hb.out]
        have Y2 := Lib.hid (Y1.out.trans x)
        clear x
        go_wp2
        go_roundw
        case rel => exact ⟨k + 1, by omega, by go_num, Y2⟩
        case measure => simp [intOf]; omega
      · obtain rfl : k = un := by omega
        have e1 : ¬ (k : Int) < k := by omega
        have c3 := G.out.cell HB.out.c3
        go_wp2
        clear c3
        obtain ⟨wo, hwo⟩ : ∃ wo, wo = wr := ⟨_, rfl⟩
        subst hwo
        go_loopw [8, 42] (fun _ i wr => ∃ j : Nat, j ≤ vn ∧ i = .int .i64 j ∧ Hid (Ext W wr)) (fun _ i _ => vn - (intOf i).toNat)
        case atStart => exact ⟨0, Nat.zero_le _, rfl, G⟩
        case round =>
          obtain ⟨j, hj, rfl, G2⟩ := hrel
          by_cases hjt : j < vn
          · obtain ⟨⟨b, o, rfl, hA⟩, hin, hb, hd⟩ := HV.out j hjt
            have f1 : (j : Int) < vn := by omega
            have f2 : (0 : Int) ≤ j := by omega
            have hA2 := hA.ext G2.out
            obtain ⟨a, ha⟩ : ∃ a, a = qi l.past j := ⟨_, rfl⟩
            rw [← ha] at hA2 hin hb hd
            obtain ⟨x0, x1, x2, x3⟩ := hA2
            obtain ⟨W1, hW1⟩ : ∃ W1, W1 = wr.alloc (.cells #[.int .u8 a.id.y, .int .i64 a.id.n, .bool a.f, .int .u8 a.d] 50) := ⟨_, rfl⟩
            have Y1 := Lib.hid (show Ext W W1 by rw [hW1]; exact G2.out.trans ((Ext.refl _).alloc _))
            have N1 := Lib.hid (show B4 W1 wr.heap.size (.int .u8 a.id.y) (.int .i64 a.id.n) (.bool a.f) (.int .u8 a.d) 50 by rw [hW1]; exact B4.new _ _ _ _ _ _)
            have HW1 := Lib.hid hW1
            have Hin := Lib.hid hin; have Hb := Lib.hid hb
            clear hA ha hin hb hW1
            go_wp2_with fail
            rw [← HW1.out]
            clear x0 x1 x2 x3
            refine (HHas.out W1 a.id Y1.out Hin.out).mono ?_
            rintro e w2 ⟨rfl, x⟩
            rw [Hb.out]
            have Y2 := Lib.hid (Y1.out.trans x)
            have z2 := N1.out.ext x
            have z3 := z2.c2; have z4 := z2.c3
            clear x z2
            obtain ⟨ad, had⟩ : ∃ ad, ad = a.d := ⟨_, rfl⟩
            rw [← had] at hd z4
            clear had
            rcases hd with rfl | rfl
            · go_wp2
              go_roundw
              case rel => exact ⟨j + 1, by omega, by go_num, Y2⟩
              case measure => simp [intOf]; omega
            · go_wp2
              go_roundw
              case rel => exact ⟨j + 1, by omega, by go_num, Y2⟩
              case measure => simp [intOf]; omega
          · obtain rfl : j = vn := by omega
            have f1 : ¬ (j : Int) < j := by omega
            have q0_1 := G2.out.cell HB.out.c3
            go_wp2
            go_region_held3 (fun w' => w'.cell? ⟨w.heap.size, 3, Option.none⟩ = some (.slice va j d2)) (first | (with_reducible exact q0_1) | (with_reducible exact q1_1) | go_keep) (first
              | (go_at_call 90; (refine (HRe.out _ ?_).mono ?_); (focus (refine Ext.trans G2.out ?_; (focus (repeat (first | (with_reducible exact Ext.refl _) | (with_reducible apply Ext.drew) | (with_reducible apply Ext.drewN) | (with_reducible apply Ext.alloc)))))); intro e w5 hh; obtain ⟨g, m, hm, rfl, x⟩ := hh; have Xa : Hid (Ext wr w5) := Lib.hid (Ext.trans (by ((repeat (first | (with_reducible exact Ext.refl _) | (with_reducible apply Ext.drew) | (with_reducible apply Ext.drewN) | (with_reducible apply Ext.alloc))); done)) x); have q1_1 := Xa.out.cell q0_1; have Hm := Lib.hid hm; clear hm; clear x))
            obtain rfl : m = j := by rw [Hm.out]; exact HVn.out.symm
            clear Hm
            go_wp2
            go_ret
            exact ⟨ret_bool (by simp), XW.out.trans (G2.out.trans Xa.out)⟩
end Go.Proofs.YtlhkehfplcclgaaDoor
