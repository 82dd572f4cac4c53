/- The law ShapesChart, walked. -/
import Derived.Test.YtinijapkipeamaaDoorTv
import Derived.Test.YtinijapkipeamaaDoorTw
import Derived.Test.YtinijapkipeamaaDoorTu
import Derived.Test.YtinijapkipeamaaDoorDi
import Derived.Test.YtinijapkipeamaaDoorTp
namespace Go.Proofs.YtinijapkipeamaaDoor
set_option linter.unusedVariables false
set_option linter.unusedSimpArgs false
set_option maxRecDepth 8000
open Go Go.RowKit

theorem wds_chart {l : List Int} {y : Int} (hl : oerr l = 0) (hy : 1 ≤ y ∧ y ≤ 6) : wds (chartOf l y) = l := by
  have hf := chartOf_facts hl hy
  obtain ⟨h1, h2, h3, h4, h5⟩ := oerr_zero hl
  have hlen := chartOf_len l y
  refine gi_ext (by rw [wds_len (by omega)]; omega) fun i hi => ?_
  rw [wds_len (by omega)] at hi
  match i with
  | 0 => rw [wds_zero (by omega), (hf 0 (by omega)).2.1]
  | i + 1 => rw [wds_succ (by omega), (hf i (by omega)).2.2.1]
theorem y00_chart {l : List Int} {y : Int} (hl : oerr l = 0) (hy : 1 ≤ y ∧ y ≤ 6) : y00 (chartOf l y) = y := by
  have hf := chartOf_facts hl hy
  obtain ⟨h1, h2, h3, h4, h5⟩ := oerr_zero hl
  have h := hf 0 (by omega)
  have := h4 1 (by omega)
  have hq : ((sw (chartOf l y) 0).length : Int) = gi l 1 := h.1
  exact (h.2.2.2 _ (si_mem (show 0 < (sw (chartOf l y) 0).length by omega))).2.2
theorem cherr_ok {l : List Int} {y : Int} (hl : oerr l = 0) (hy : 1 ≤ y ∧ y ≤ 6) : cherr l y = 0 := by unfold cherr; rw [if_neg (by omega), if_neg (by omega)]
theorem chres_ok {l : List Int} {y : Int} (hl : oerr l = 0) (hy : 1 ≤ y ∧ y ≤ 6) : chres l y = chartOf l y := by unfold chres; rw [if_pos (cherr_ok hl hy)]
theorem oferr_chart {l : List Int} {y : Int} (hl : oerr l = 0) (hy : 1 ≤ y ∧ y ≤ 6) : oferr (chartOf l y) = 0 := by
  unfold oferr
  rw [chartOf_loads hl hy, if_neg (by simp), wds_chart hl hy, y00_chart hl hy, if_pos ⟨cherr_ok hl hy, chres_ok hl hy⟩]

set_option maxHeartbeats 8000000 in
theorem ShapesChart_walk (f : Int) (v : Value) (c : Nat) (st : List Int) (yn : Int) (w : World) (h : IS .u8 w v c st) (hf : 0 ≤ f ∧ f ≤ 255) (hs : ∀ i, i < st.length → 0 ≤ gi st i ∧ gi st i ≤ 255) (hyn : 0 ≤ yn ∧ yn ≤ 255) (hy : Sy w) :
    Calls Tryd.prog 8 #[.agg #[.int .u8 f, v], .int .u8 yn] w fun e w' => e = .returned (.bool true) ∧ Ext w w' := by
  have hof := fun w' (x : Ext w w') => O_calls f v c st w' (h.ext x) hf hs
  obtain ⟨ao, n, c', rfl, hn, rfl, hIS⟩ := h.out
  obtain ⟨l, hl⟩ : ∃ l, l = oof f st := ⟨_, rfl⟩
  have hok : oerr l = 0 := by rw [hl]; exact oof_ok f st
  rw [← hl] at hof
  obtain ⟨Y, hY⟩ : ∃ Y, Y = 1 + yn % 6 := ⟨_, rfl⟩
  have hY6 : 1 ≤ Y ∧ Y ≤ 6 := by omega
  obtain ⟨C, hC⟩ : ∃ C, C = chartOf l Y := ⟨_, rfl⟩
  have h1 := fun w' v c (hi : IS .i64 w' v c l) => Chart_calls v c l Y w' hi (by omega)
  rw [cherr_ok hok hY6, chres_ok hok hY6, ← hC] at h1
  have h2 := fun w' v c (hi : IS .i64 w' v c l) => RChart_calls v c l Y w' hi hok
  rw [← hC] at h2
  have h3 := fun w' v1 c1 v2 c2 (a : RR w' v1 c1 C) (b : RR w' v2 c2 C) => Differ_calls v1 v2 c1 c2 C C w' a b
  rw [dif_same] at h3
  have h4 := fun w' v c (a : RR w' v c C) => CCheck_calls v c C w' a
  rw [show (cloads C).1 = 0 by rw [hC]; exact chartOf_loads hok hY6] at h4
  obtain ⟨z1, z2, z3, z4, z5⟩ := oerr_zero hok
  have hCl : C.length = l.length - 1 := by rw [hC]; exact chartOf_len l Y
  have hfc := chartOf_facts hok hY6
  rw [← hC] at hfc
  have h5 := fun w' v c (a : RR w' v c C) => Widths_calls v c C w' a (fun i hi => by have := (hfc i (by omega)).1; have := z4 (i + 1) (by omega); omega) (by omega)
  rw [show wds C = l by rw [hC]; exact wds_chart hok hY6] at h5
  have h6 := fun w' v1 c1 v2 c2 (a : IS .i64 w' v1 c1 l) (b : IS .i64 w' v2 c2 l) => same_calls v1 v2 c1 c2 l l w' a b
  rw [show sm l l = 0 from if_pos rfl] at h6
  have h7 := fun w' v c (a : RR w' v c C) => Of_calls v c C w' a (fun i hi s hs' => by have := (hfc i (by omega)).2.2.2 s hs'; omega)
  rw [show oferr C = 0 by rw [hC]; exact oferr_chart hok hY6, show wds C = l by rw [hC]; exact wds_chart hok hY6, show y00 C = Y by rw [hC]; exact y00_chart hok hY6] at h7
  simp only [if_true] at h7
  have HOo := Lib.hid hof; have K1 := Lib.hid h1; have K2 := Lib.hid h2; have K3 := Lib.hid h3; have K4 := Lib.hid h4; have K5 := Lib.hid h5; have K6 := Lib.hid h6; have K7 := Lib.hid h7
  have HL := Lib.hid (fun w' (x : Ext w w') => lives_calls w' (hy.ext x))
  obtain ⟨W, hW⟩ : ∃ W, W = w.alloc (.cells #[.int .u8 f, .slice ao n c'] 44) := ⟨_, rfl⟩
  have xW : Ext w W := by rw [hW]; exact (Ext.refl w).alloc _
  have hB := B2.new w (.int .u8 f) (.slice ao n c') 44
  have c0 := hB.c0; have c1 := hB.c1
  have XW := Lib.hid xW; have HW := Lib.hid hW
  have w1 : IntKind.u8.wrap (yn % 6) = yn % 6 := IntWalk.u8_in _ ⟨by omega, by omega⟩
  have w2 : IntKind.u8.wrap (1 + yn % 6) = Y := by rw [← hY]; exact IntWalk.u8_in _ ⟨by omega, by omega⟩
  obtain ⟨y1, y2⟩ := hY6
  obtain ⟨yn1, yn2⟩ := hyn
  clear hof h1 h2 h3 h4 h5 h6 h7 z1 z2 z3 z4 z5 hCl hfc hl hok hC h hIS hn hs hf xW hW hY hB hy
  go_enter Tryd.func8, Tryd.ntmps8
  go_wp2_with fail
  rw [← HW.out]
  refine (HOo.out _ XW.out).mono ?_
  rintro e w3 ⟨v3, k3, rfl, i3, x3⟩
  have X3 := Lib.hid (XW.out.trans x3); have I3 := Lib.hid i3
  clear x3 i3 HOo c0 c1
  go_wp2_with fail
  refine (K1.out _ _ _ I3.out).mono ?_
  rintro e w4 ⟨v4, rfl, r4, x4⟩
  obtain ⟨a4, n4, rfl, hn4, q4⟩ := r4.open
  rw [← hn4] at r4 ⊢
  clear q4 hn4
  obtain ⟨wc, hwc⟩ : ∃ wc, wc = w4.alloc (.cells #[.slice a4 n4 n4] 26) := ⟨_, rfl⟩
  have xc : Ext w4 wc := by rw [hwc]; exact (Ext.refl w4).alloc _
  have p1 : wc.cell? ⟨w4.heap.size, 0, none⟩ = some (.slice a4 n4 n4) := by rw [hwc, World.cell?_alloc_at (hn := rfl)]; rfl
  have Xc := Lib.hid (X3.out.trans (x4.trans xc)); have Rc := Lib.hid (r4.ext xc); have Ic := Lib.hid (I3.out.ext (x4.trans xc))
  have HWc := Lib.hid hwc
  clear x4 xc r4 hwc K1
  go_wp2
  rw [← HWc.out]
  go_region_held3 (fun w' => w'.cell? ⟨w4.heap.size, 0, Option.none⟩ = some (.slice a4 n4 n4)) (first | exact p1 | exact p2 | exact p3 | exact p4 | exact p5 | exact p6 | go_keep) (first
    | (go_at_call 21; (refine (K2.out _ _ _ (Ic.out.ext ?_)).mono ?_); (focus (repeat (first | (with_reducible exact Ext.refl _) | (with_reducible apply Ext.drew) | (with_reducible apply Ext.drewN)))); intro e wa hh; obtain ⟨va, ca, rfl, ra, xa⟩ := hh; have Xa : Hid (Ext wc wa) := Lib.hid (Ext.trans (by (repeat (first | (with_reducible exact Ext.refl _) | (with_reducible apply Ext.drew) | (with_reducible apply Ext.drewN)))) xa); obtain ⟨aa, na, rfl, qa⟩ := ra.open; have Ra := Lib.hid ra; have p2 := Xa.out.cell p1; clear ra xa qa)
    | (go_at_call 25; (refine (K3.out _ _ _ _ _ (Rc.out.ext ?_) (Ra.out.ext ?_)).mono ?_); (focus (refine Xa.out.trans ?_; (repeat (first | (with_reducible exact Ext.refl _) | (with_reducible apply Ext.drew) | (with_reducible apply Ext.drewN))))); (focus (repeat (first | (with_reducible exact Ext.refl _) | (with_reducible apply Ext.drew) | (with_reducible apply Ext.drewN)))); intro e wb hh; obtain ⟨rfl, xb⟩ := hh; have Xb : Hid (Ext wc wb) := Lib.hid (Xa.out.trans (Ext.trans (by (repeat (first | (with_reducible exact Ext.refl _) | (with_reducible apply Ext.drew) | (with_reducible apply Ext.drewN)))) xb)); have p3 := Xb.out.cell p1; clear xb)
    | (go_at_call 26; (refine (K4.out _ _ _ (Rc.out.ext ?_)).mono ?_); (focus (refine Xb.out.trans ?_; (repeat (first | (with_reducible exact Ext.refl _) | (with_reducible apply Ext.drew) | (with_reducible apply Ext.drewN))))); intro e wd hh; obtain ⟨rfl, xd⟩ := hh; have Xd : Hid (Ext wc wd) := Lib.hid (Xb.out.trans (Ext.trans (by (repeat (first | (with_reducible exact Ext.refl _) | (with_reducible apply Ext.drew) | (with_reducible apply Ext.drewN)))) xd)); have p4 := Xd.out.cell p1; clear xd)
    | (go_at_call 27; (refine (K5.out _ _ _ (Rc.out.ext ?_)).mono ?_); (focus (refine Xd.out.trans ?_; (repeat (first | (with_reducible exact Ext.refl _) | (with_reducible apply Ext.drew) | (with_reducible apply Ext.drewN))))); intro e we hh; obtain ⟨ve, ce, rfl, ie, xe⟩ := hh; have Xe : Hid (Ext wc we) := Lib.hid (Xd.out.trans (Ext.trans (by (repeat (first | (with_reducible exact Ext.refl _) | (with_reducible apply Ext.drew) | (with_reducible apply Ext.drewN)))) xe)); have Ie := Lib.hid ie; have p5 := Xe.out.cell p1; clear ie xe)
    | (go_at_call 19; (refine (K6.out _ _ _ _ _ (Ie.out.ext ?_) (Ic.out.ext ?_)).mono ?_); (focus (repeat (first | (with_reducible exact Ext.refl _) | (with_reducible apply Ext.drew) | (with_reducible apply Ext.drewN)))); (focus (refine Xe.out.trans ?_; (repeat (first | (with_reducible exact Ext.refl _) | (with_reducible apply Ext.drew) | (with_reducible apply Ext.drewN))))); intro e wf hh; obtain ⟨rfl, xf⟩ := hh; have Xf : Hid (Ext wc wf) := Lib.hid (Xe.out.trans (Ext.trans (by (repeat (first | (with_reducible exact Ext.refl _) | (with_reducible apply Ext.drew) | (with_reducible apply Ext.drewN)))) xf)); have p6 := Xf.out.cell p1; clear xf))
  have Xf2 := Lib.hid (Xc.out.trans Xf.out)
  clear p1 p2 p3 p4 p5
  go_wp2_with fail
  refine (K7.out _ _ _ (Rc.out.ext Xf.out)).mono ?_
  rintro e w5 ⟨v5, c5, rfl, i5, x5⟩
  have X5 := Lib.hid (Xf2.out.trans x5)
  have q := K6.out w5 v5 c5 v3 _ i5 (Ic.out.ext (Xf.out.trans x5))
  have Q := Lib.hid q
  clear i5 x5 q p6
  go_wp2_with fail
  refine Q.out.mono ?_
  rintro e w6 ⟨rfl, x6⟩
  have X6 := Lib.hid (X5.out.trans x6)
  clear x6 Q
  go_wp2_with fail
  refine (HL.out _ X6.out).mono ?_
  rintro e w7 ⟨rfl, x7⟩
  have X7 := Lib.hid (X6.out.trans x7)
  clear x7 HL
  go_wp2
  go_ret
  exact ⟨rfl, X7.out⟩
end Go.Proofs.YtinijapkipeamaaDoor
