/- Texts of this claim in one file: libraries and walks. -/
import Derived.Laws.StructEq
import Derived.Deep.RegionHeld3
import Derived.Test.YtinijapkipeamaaDoorMKnown0
import Derived.Test.YtinijapkipeamaaDoorMKnown2
import Derived.Test.YtinijapkipeamaaDoorMKnown4
import Derived.Test.YtinijapkipeamaaDoorMKnown7
import Derived.Test.YtinijapkipeamaaDoorMKnown8
/- shapes.Chart: the charts of outlines. -/
namespace Go.Proofs.YtinijapkipeamaaDoor
set_option linter.unusedVariables false
set_option linter.unusedSimpArgs false
set_option maxRecDepth 8000
open Go Go.RowKit

/-- The charts so far. -/
def CSx (B wr : World) (R N k : Nat) (rows : Nat → List St) : Prop := ∃ q cp, CS B wr R N k rows q cp

theorem endF_enter (m : Int) (args : Array Value) (w : World) : (callFunc (endF m) args).run Tryd.prog w = .ok (.enter (endF m) args) w := by
  unfold endF
  split
  · exact (by simp [callFunc, go_sem, Tryd.func47, show (Tryd.f47.name = "runtime.NumGoroutine") = False from eq_false (by decide), show (Tryd.f47.body = none) = False from eq_false (fun h => by cases h)])
  split
  · exact (by simp [callFunc, go_sem, Tryd.func48, show (Tryd.f48.name = "runtime.NumGoroutine") = False from eq_false (by decide), show (Tryd.f48.body = none) = False from eq_false (fun h => by cases h)])
  · exact (by simp [callFunc, go_sem, Tryd.func46, show (Tryd.f46.name = "runtime.NumGoroutine") = False from eq_false (by decide), show (Tryd.f46.body = none) = False from eq_false (fun h => by cases h)])
set_option maxHeartbeats 4000000 in
theorem Chart_ok (v : Value) (c : Nat) (l : List Int) (y : Int) (w : World) (h : IS .i64 w v c l) (hy : 1 ≤ y ∧ y ≤ 6) (he : oerr l = 0) : Calls Tryd.prog 12 #[v, .int .u8 y] w (RetCE w (chartOf l y) 0) := by
  have hck := fun w' (x : Ext w w') => HCheck_calls v c l w' (h.ext x)
  rw [he] at hck
  obtain ⟨z1, z2, z3, z4, z5⟩ := oerr_zero he
  obtain ⟨ao, n, c', rfl, hn, rfl, hIS⟩ := h.out
  obtain ⟨B, hB⟩ : ∃ B, B = w.alloc (.cells #[.slice none 0 0] 26) := ⟨_, rfl⟩
  have hbx := fun (w' : World) (x : Ext B w') => x.block (show B.heap[w.heap.size]? = some (.cells #[.slice none 0 0] 26 (0, 0)) by rw [hB]; exact Deep.blk_alloc_new _ _)
  have hxB : Ext w B := by rw [hB]; exact (Ext.refl w).alloc _
  obtain ⟨N, hN⟩ : ∃ N, n = N + 1 := ⟨n - 1, by omega⟩
  have hlen : (chartOf l y).length = N := by rw [chartOf_len]; omega
  have hsw : ∀ i, i < N → sw (chartOf l y) i = (shR (gi l i).toNat i (gi l (i + 1) - gi l i)).map (sty y) := fun i hi => chartOf_sw (by omega)
  have hrow : ∀ k, k < N → ∀ w', Calls Tryd.prog (endF (gi l (k + 1) - gi l k)) #[.int .i64 (gi l k), .bool (endL k (gi l (k + 1) - gi l k)), .bool (endR k (gi l (k + 1) - gi l k))] w' (RetRO w' (shR (gi l k).toNat k (gi l (k + 1) - gi l k))) := fun k hk w' => by
    have a := z4 k (by omega); have b := z4 (k + 1) (by omega); have d := z5 k (by omega)
    have := build_calls (gi l k).toNat k (gi l (k + 1) - gi l k) w' (by omega) d (by omega)
    rwa [show ((gi l k).toNat : Int) = gi l k by omega] at this
  have hend := fun k (hk : k < N) (w' : World) => ends_calls k (gi l (k + 1) - gi l k) w' (by omega)
  have hrl : ∀ k, k < N → (shR (gi l k).toNat k (gi l (k + 1) - gi l k)).length ≤ 16 := fun k hk => by
    have := (chartOf_facts he hy k (by omega)).1
    rw [hsw k hk, List.length_map] at this
    have a := z4 (k + 1) (by omega); omega
  have hfin : ∀ w' R, CSx B w' R N N (fun i => sw (chartOf l y) i) → RetCE w (chartOf l y) 0 (.returned (.tuple #[.agg #[.slice (some ⟨R, 0, none⟩) N N], .int .i64 0])) (w'.setCell ⟨w.heap.size, 0, none⟩ (.slice (some ⟨R, 0, none⟩) N N)) := fun w' R ⟨q, cp, hc⟩ => by
    refine ⟨_, rfl, ?_, (hxB.trans hc.x).setCell (Nat.le_refl _) _⟩
    have hlt : w.heap.size < B.heap.size := by rw [hB]; simp
    have h2 : CS w (w'.setCell ⟨w.heap.size, 0, none⟩ (.slice (some ⟨R, 0, none⟩) N N)) R N N (fun i => sw (chartOf l y) i) q cp := by
      obtain ⟨p1, p2, p3, ⟨f, p4, p5⟩, p6, p7⟩ := hc
      refine ⟨(hxB.trans p1).setCell (Nat.le_refl _) _, by omega, p3, ⟨f, p4.setOther (by simp only []; omega) _, p5⟩, fun i hi => ?_, p7⟩
      obtain ⟨r1, r2, r3⟩ := p6 i hi
      exact ⟨r1.setOther (by simp only []; omega) _, by omega, r3⟩
    have := h2.rr
    rw [sw_range hlen (fun i hi => rfl)] at this
    rw [hlen]; exact this
  have z1' : N ≤ 31 := by omega
  have z4' : ∀ i, i ≤ N → 2 ≤ gi l i ∧ gi l i ≤ 16 := fun i hi => z4 i (by omega)
  have z5' : ∀ i, i < N → -2 ≤ gi l (i + 1) - gi l i ∧ gi l (i + 1) - gi l i ≤ 2 := fun i hi => z5 i (by omega)
  have hIB := hIS.ext hxB
  have hmk := run_make_lc (P := Tryd.prog) eiRows .i64 .i64 N N (by omega) (by omega) (by omega)
  have h1 : ∃ w1 : World, w1 = B := ⟨_, rfl⟩
  have hck2 := hck B hxB
  have HK := Lib.hid hck2; have HBx := Lib.hid hbx; have HF := Lib.hid hfin; have HRow := Lib.hid hrow; have HEnd := Lib.hid hend; have HSw := Lib.hid hsw; have HRl := Lib.hid hrl; have H4 := Lib.hid z4'; have H5 := Lib.hid z5'; have HI := Lib.hid hIB; have HMk := Lib.hid hmk
  rw [hN] at HI
  have w0 : IntKind.i64.wrap ((N : Int) + 1 - 1) = N := by rw [show (N : Int) + 1 - 1 = N by omega]; exact IntWalk.i64_in _ ⟨by omega, by omega⟩
  have hn1 : ((N + 1 : Nat) : Int) = (N : Int) + 1 := by omega
  obtain ⟨y1, y2⟩ := hy
  subst hN
  clear hck hbx hfin hrow hend hsw hrl z4' z5' hIB hmk hck2 z1 z2 z3 z4 z5 h hIS he hlen hn h1
  go_enter Tryd.func12, Tryd.ntmps12
  go_wp2_with fail
  rw [← hB]
  refine HK.out.mono ?_
  rintro e w1 ⟨rfl, x1⟩
  have X1 := Lib.hid x1
  have hm := HMk.out w1
  clear x1 HMk HK
  go_wp2
  clear hm
  obtain ⟨R, hR⟩ : ∃ R, R = w1.heap.size := ⟨_, rfl⟩
  have hst : CSx B (w1.alloc (.cells (madeCells #[.slice none 0 0] N) 48)) R N 0 (fun i => sw (chartOf l y) i) :=
    ⟨fun _ => 0, fun _ => 0, CS.start (X1.out.alloc _) (by rw [hR]; exact X1.out.size) (by unfold maxLen; omega) (by rw [hR]; exact World.rowIs_made w1 (.slice none 0 0) N _)⟩
  have HST := Lib.hid hst
  rw [← hR]
  clear hst hR
  go_loopw [8, 9, 10, 11, 12, 32] (fun _ _ _ _ _ i wr => ∃ k : Nat, k ≤ N ∧ i = .int .i64 k ∧ Hid (CSx B wr R N k (fun i => sw (chartOf l y) i))) (fun _ _ _ _ _ i _ => N - (intOf i).toNat)
  case atStart => exact ⟨0, Nat.zero_le _, rfl, HST⟩
  case round =>
    obtain ⟨k, hk, rfl, HC⟩ := hrel
    clear HST
    by_cases hlt : k < N
    · obtain ⟨q, cp, hC⟩ := HC.out
      obtain ⟨b, o, rfl, hc1⟩ := HI.out.at (show k + 1 < N + 1 by omega)
      obtain ⟨b', o', hbo, hc2⟩ := HI.out.at (show k < N + 1 by omega)
      obtain ⟨rfl, rfl⟩ : b = b' ∧ o = o' := by simpa using hbo
      replace hc1 := hC.x.cell (hc1 (k + 1) (by omega)); replace hc2 := hC.x.cell (hc2 k (by omega))
      have HCI := Lib.hid (fun w' (x : Ext wr w') => x.cell hc2)
      have g1 := H4.out k (by omega)
      have g2 := H4.out (k + 1) (by omega)
      have g3 := H5.out k hlt
      have hr := HRow.out k hlt
      have hap := HEnd.out k hlt
      have hl16 := HRl.out k hlt
      have hent := endF_enter (gi l (k + 1) - gi l k)
      have hsk := HSw.out k hlt
      obtain ⟨L, hL⟩ : ∃ L, L = shR (gi l k).toNat k (gi l (k + 1) - gi l k) := ⟨_, rfl⟩
      rw [← hL] at hr hl16 hsk
      generalize gi l k = x at *
      generalize gi l (k + 1) = z at *
      generalize hm : z - x = m at hap hr g3 hent
      generalize endR k m = r at hap hr
      generalize endF m = F at hap hr hent
      generalize endL k m = e0 at hap hr
      have HAp := Lib.hid hap; have HRo := Lib.hid hr; have HSk := Lib.hid hsk; have HCC := Lib.hid hC
      have t1 : (0 : Int) ≤ (k : Int) + 1 := by omega
      have t2 : ((k : Int) + 1).toNat = k + 1 := by omega
      have t3 : (k : Int) + 1 < (N : Int) + 1 := by omega
      have t4 : IntKind.i64.wrap ((k : Int) + 1) = (k : Int) + 1 := IntWalk.i64_in _ ⟨by omega, by omega⟩
      have t5 : (k : Int) < (N : Int) + 1 := by omega
      have t7 : (0 : Int) ≤ (k : Int) := by omega
      have t8 : IntKind.i64.wrap (z - x) = m := by rw [hm]; exact IntWalk.i64_in _ ⟨by omega, by omega⟩
      clear hap hr hsk hC HC hbo hL hm
      go_wp2
      go_quiet ((go_at_call 33; exact Calls.quiet_of_same ((HAp.out _).mono fun _ _ ⟨he, hw⟩ => ⟨he, hw.symm⟩)))
      clear hc1 t1 t2 t3 t4 t8
      go_wp2_with fail
      refine (HRo.out _).mono ?_
      rintro e w2 ⟨g, cc, m2, rfl, hm2, hg, hro, hx⟩
      have x2 : Ext wr w2 := ((Ext.refl wr).drewN _).trans hx
      have hgs : wr.heap.size ≤ g := hg
      have hC2 := HCC.out.later x2
      have hRlt := HCC.out.lt
      have hql := fun i (hi : i < k) => (HCC.out.ro i hi).1.lt
      have hBs := HCC.out.x.size
      obtain ⟨vk, hvk⟩ := hC2.ex hlt
      have hfk := hC2.frozen k
      have hC3 := hC2.put hlt hro (by omega) (by omega) (fun i hi => by have := hql i hi; omega)
      have hgo : cp = cp := rfl
      rw [← hm2] at hC3
      rw [← hm2] at hl16
      obtain ⟨w3, hw3⟩ : ∃ w3, w3 = w2.setCell ⟨R, k, none⟩ (.slice (some ⟨g, 0, none⟩) m2 cc) := ⟨_, rfl⟩
      rw [← hw3] at hC3
      have hcR : ∀ w' rows' , CS B w' R N (k + 1) rows' (up q k g) (up cp k cc) → (rows' k).length = m2 → w'.cell? ⟨R, k, none⟩ = some (.slice (some ⟨g, 0, none⟩) m2 cc) := fun w' rows' hc hl => by
        have := hc.cell (i := k) (by omega) (by omega)
        rwa [up_at, up_at, hl] at this
      have hr3 := hcR w3 _ hC3 (by rw [up_at, hm2])
      have HC3 := Lib.hid hC3; have HcR := Lib.hid hcR; have HM := Lib.hid hm2; have HW3 := Lib.hid hw3
      have hq3 := (hC2.r0)
      clear hm2 hro hx hg x2 hC2 hC3 hcR hql hBs hgo hRlt hgs HCC hc2 HCI HAp HRo hent g1 g2 g3 t5 hq3
      rw [hw3] at hr3
      go_wp2
      rw [← HW3.out] at hr3 ⊢
      clear hr3 hvk hfk HW3
      have HST := Lib.hid (show CS B w3 R N (k + 1) (up (fun i => sw (chartOf l y) i) k (yl L y 0)) (up q k g) (up cp k cc) by rw [yl_zero]; exact HC3.out)
      clear HC3
      go_loopw [12, 67] (fun _ i ws => ∃ j : Nat, j ≤ m2 ∧ i = .int .i64 j ∧ Hid (CS B ws R N (k + 1) (up (fun i => sw (chartOf l y) i) k (yl L y j)) (up q k g) (up cp k cc))) (fun _ i _ => m2 - (intOf i).toNat)
      case atStart => exact ⟨0, Nat.zero_le _, rfl, HST⟩
      case round =>
        obtain ⟨j, hj, rfl, HJ⟩ := hrel
        clear HST
        by_cases hjl : j < m2
        · have hL := HM.out
          have c1 := HcR.out _ _ HJ.out (by rw [up_at, yl_len, hL])
          have hro := (HJ.out.ro k (by omega)).1
          rw [up_at, up_at, up_at] at hro
          obtain ⟨v5, hv5⟩ := hro.shapeCell (o := j * 5 + 1) (by have := hro.1; rw [yl_len] at this; omega)
          have hf5 := hro.frozen (j * 5 + 1)
          have hset := hro.sety (i := j) (by rw [yl_len]; omega) y
          rw [yl_succ (by omega)] at hset
          have hq : (up q k g) k = g := up_at _ _ _
          have hC4 := HJ.out.set (j := k) (o := j * 5 + 1) (v := .int .u8 y) (l' := yl L y (j + 1)) (by omega) (by rw [up_at, up_at]; exact hset) (by rw [up_at, yl_len, yl_len])
          rw [up_at] at hC4
          have HC4 := Lib.hid (hC4.congr (rows' := up (fun i => sw (chartOf l y) i) k (yl L y (j + 1))) (fun i _ => by
            by_cases e : i = k
            · subst e; rw [up_at, up_at]
            · rw [up_ne _ _ e, up_ne _ _ e, up_ne _ _ e]))
          clear hro hset hq hC4 hL
          go_wp2
          go_roundw
          case rel => exact ⟨j + 1, by omega, by go_num, HC4⟩
          case measure => simp [intOf]; omega
        · obtain rfl : m2 = j := by omega
          have HD := Lib.hid (show CSx B wr R N (k + 1) (fun i => sw (chartOf l y) i) from ⟨_, _, HJ.out.congr (rows' := fun i => sw (chartOf l y) i) (fun i _ => by
            by_cases e : i = k
            · subst e; rw [up_at, HM.out, yl_all]; exact HSk.out.symm
            · rw [up_ne _ _ e])⟩)
          clear HJ HcR
          go_wp2
          go_roundw
          case rel => exact ⟨k + 1, by omega, by go_num, HD⟩
          case measure => simp [intOf]; omega
    · obtain rfl : N = k := by omega
      have b0 := HBx.out wr HC.out.choose_spec.choose_spec.x
      have b1 : wr.cell? ⟨w.heap.size, 0, none⟩ = some (.slice none 0 0) := by simp [World.cell?, b0]
      have b2 : wr.frozen? ⟨w.heap.size, 0, none⟩ = false := by simp [World.frozen?, b0]
      have HFi := Lib.hid (HF.out _ _ HC.out)
      clear b0
      go_wp2
      exact bodyPost_ret (v := .tuple #[.agg #[.slice (some ⟨R, 0, none⟩) N N], .int .i64 0]) (by simp [results, Tryd.results12, go_sem, World.cell?_setCell_same, *]) rfl HFi.out
theorem Chart_calls (v : Value) (c : Nat) (l : List Int) (y : Int) (w : World) (h : IS .i64 w v c l) (hy : 0 ≤ y ∧ y ≤ 255) : Calls Tryd.prog 12 #[v, .int .u8 y] w (RetCE w (chres l y) (cherr l y)) := by
  by_cases he : cherr l y = 0
  · have h1 : oerr l = 0 ∧ 1 ≤ y ∧ y ≤ 6 := by
      unfold cherr at he
      by_cases a : oerr l ≠ 0
      · rw [if_pos a] at he; exact absurd he a
      · rw [if_neg a] at he
        by_cases b : y < 1 ∨ 6 < y
        · rw [if_pos b] at he; omega
        · exact ⟨by omega, by omega, by omega⟩
    have := Chart_ok v c l y w h h1.2 h1.1
    unfold chres; rw [if_pos he, he]; exact this
  · have := Chart_bad v c l y w h hy he
    unfold chres; rw [if_neg he]; exact this
end Go.Proofs.YtinijapkipeamaaDoor
/- charts.Widths. -/
namespace Go.Proofs.YtinijapkipeamaaDoor
set_option linter.unusedVariables false
set_option linter.unusedSimpArgs false
set_option maxRecDepth 8000
open Go Go.RowKit

/-- The numbers of slots. -/
def wds (rows : List (List St)) : List Int := if rows = [] then [] else rneed (sw rows 0) :: rows.map rmake
theorem wds_len {rows : List (List St)} (h : 0 < rows.length) : (wds rows).length = rows.length + 1 := by
  unfold wds; rw [if_neg (fun e => by rw [e] at h; simp at h)]; simp
theorem wds_zero {rows : List (List St)} (h : 0 < rows.length) : gi (wds rows) 0 = rneed (sw rows 0) := by
  unfold wds; rw [if_neg (fun e => by rw [e] at h; simp at h)]; rfl
theorem wds_succ {rows : List (List St)} {i : Nat} (h : i < rows.length) : gi (wds rows) (i + 1) = rmake (sw rows i) := by
  unfold wds; rw [if_neg (fun e => by rw [e] at h; simp at h), gi_cons_succ, gi_of_lt (by simpa using h), sw_of_lt h]; simp
/-- The first k + 1 numbers are laid. -/
def WL (w wr : World) (g n k : Nat) (rows : List (List St)) : Prop := Ext w wr ∧ w.heap.size ≤ g ∧ ∃ f, wr.rowIs g 3 n f ∧ ∀ i, i ≤ k → f i = .int .i64 (gi (wds rows) i)
set_option maxHeartbeats 2000000 in
theorem Widths_calls (v : Value) (c : Nat) (rows : List (List St)) (w : World) (h : RR w v c rows) (hb : ∀ i, i < rows.length → (sw rows i).length ≤ 1000) (hl : rows.length ≤ 1000) :
    Calls Tryd.prog 27 #[.agg #[v]] w (RetX .i64 w (wds rows)) := by
  obtain ⟨ao, n, rfl, hn, hc, hcm, hat⟩ := h.open
  obtain ⟨W, hW⟩ : ∃ W, W = w.alloc (.cells #[.slice ao n c] 26) := ⟨_, rfl⟩
  have xW : Ext w W := by rw [hW]; exact (Ext.refl w).alloc _
  have b0 : W.cell? ⟨w.heap.size, 0, none⟩ = some (.slice ao n c) := by rw [hW, World.cell?_alloc_at (hn := rfl)]; rfl
  have HBx := Lib.hid (fun w' (x : Ext W w') => x.cell b0); have XW := Lib.hid xW
  unfold maxLen at hcm
  by_cases hn0 : n = 0
  · have hr : rows = [] := List.eq_nil_of_length_eq_zero (by omega)
    have hw : wds rows = [] := by unfold wds; rw [if_pos hr]
    rw [hw]
    rw [hW] at b0
    clear hat hb hr hw hn h
    subst hn0
    go_enter Tryd.func27, Tryd.ntmps27
    go_wp2
    go_ret
    exact ⟨_, 0, rfl, IS.nil _ _, (Ext.refl w).alloc _⟩
  have hnz : ((n : Int) == 0) = false := beq_eq_false_iff_ne.2 (by omega)
  have hwl := wds_len (rows := rows) (by omega)
  have hw0 := wds_zero (rows := rows) (by omega)
  have hws := fun i (hi : i < n) => wds_succ (rows := rows) (i := i) (by omega)
  have hN := fun w' v c (h : RS w' v c (sw rows 0)) => CNeeds_calls v c (sw rows 0) w' h (by have := hb 0 (by omega); omega)
  have hM := fun i (hi : i < n) w' v c (h : RS w' v c (sw rows i)) => CMakes_calls v c (sw rows i) w' h (by have := hb i (by omega); omega)
  have hmk := fun w' => run_make_lc (P := Tryd.prog) eiInt .i64 .i64 (n + 1) (n + 1) (by omega) (by omega) (by omega) w'
  rw [show ((n + 1 : Nat) : Int) = 1 + (n : Int) by omega] at hmk
  have wz : IntKind.i64.wrap (1 + (n : Int)) = 1 + (n : Int) := IntWalk.i64_in _ ⟨by omega, by omega⟩
  have HA := Lib.hid hat; have HWl := Lib.hid hwl; have HW0 := Lib.hid hw0; have HWs := Lib.hid hws; have HNe := Lib.hid hN; have HMa := Lib.hid hM; have HMk := Lib.hid (hmk W); have Hn := Lib.hid hn
  obtain ⟨b, o, a, m, d, rfl, hc0, hr0⟩ := hat 0 (by omega)
  have hc0W := xW.cell hc0
  rw [Nat.add_zero] at hc0W
  have hcl := hN (W.alloc (.cells (madeCells #[.int .i64 0] (n + 1)) 3)) _ _ (hr0.ext (xW.alloc _))
  have HCl := Lib.hid hcl
  have hn1 : (0 : Int) < n := by omega
  have hmW := hmk W
  have hn2 : n ≤ 1000 := by omega
  clear hb hwl hw0 hws hN hM hmk hcl h hat hn hr0 hl hn0
  have b0' := b0
  rw [hW] at b0' hmW
  obtain ⟨Wm, hWm⟩ : ∃ Wm, Wm = W.alloc (.cells (madeCells #[.int .i64 0] (n + 1)) 3) := ⟨_, rfl⟩
  have xm : Ext W Wm := by rw [hWm]; exact (Ext.refl W).alloc _
  have hcc := xm.cell hc0W
  have hbb := xm.cell b0
  have hst : WL W Wm W.heap.size (n + 1) 0 rows → True := fun _ => trivial
  have hrow : Wm.rowIs W.heap.size 3 (n + 1) (fun _ => .int .i64 0) := by rw [hWm]; exact World.rowIs_made W (.int .i64 0) (n + 1) _
  rw [← hWm] at HCl
  have hWs : W.heap.size = w.heap.size + 1 := by rw [hW]; simp
  have HRow := Lib.hid hrow; have HWm := Lib.hid hWm; have HW := Lib.hid hW; have Xm := Lib.hid xm; have HWs2 := Lib.hid hWs
  rw [hWm, hW] at hcc hbb
  clear hst hrow hWm hW xm xW b0 hc0W hc0 hWs
  go_enter Tryd.func27, Tryd.ntmps27
  go_wp2_with fail
  rw [← HW.out, ← HWm.out]
  refine HCl.out.mono ?_
  rintro e w1 ⟨rfl, x1⟩
  have X1 := Lib.hid (Xm.out.trans x1)
  have hr1 := x1.row HRow.out
  obtain ⟨g, hg⟩ : ∃ g, g = w.heap.size + 1 := ⟨_, rfl⟩
  rw [HWs2.out, ← hg] at hr1
  have hc1 := hr1.cell (i := 0) (by omega)
  have hf1 := hr1.frozen 0
  have hwg : W.heap.size ≤ g := by rw [hg, HWs2.out]; omega
  have hb1 := HBx.out _ X1.out
  have HN0 := Lib.hid (show WL W (w1.setCell ⟨g, 0, none⟩ (.int .i64 (rneed (sw rows 0)))) g (n + 1) 0 rows from ⟨X1.out.setCell hwg _, hwg, _, hr1.set 0 _, fun i hi => by
    obtain rfl : i = 0 := by omega
    rw [HW0.out]; exact if_pos rfl⟩)
  have hb2 := HBx.out _ HN0.out.1
  have tn : (0 : Int) < (n : Int) + 1 := by omega
  rw [← hg]
  clear hr1 x1 HCl hbb hcc hmW HRow b0' hg
  go_wp2
  clear hc1 hf1 hb1 hb2
  go_loopw [4, 5, 25] (fun _ _ i wr => ∃ k : Nat, k ≤ n ∧ i = .int .i64 k ∧ Hid (WL W wr g (n + 1) k rows)) (fun _ _ i _ => n - (intOf i).toNat)
  case atStart => exact ⟨0, Nat.zero_le _, rfl, HN0⟩
  case round =>
    obtain ⟨k, hk, rfl, H⟩ := hrel
    by_cases hlt : k < n
    · obtain ⟨b', o', a', m', d', hbo, hc0, hr0⟩ := HA.out k hlt
      obtain ⟨rfl, rfl⟩ : b = b' ∧ o = o' := by simpa using hbo
      replace hc0 := (XW.out.trans H.out.1).cell hc0
      have hcl := HMa.out k hlt wr _ _ (hr0.ext (XW.out.trans H.out.1))
      have HCl := Lib.hid hcl
      have hws := HWs.out k hlt
      have w1' : IntKind.i64.wrap ((k : Int) + 1) = (k : Int) + 1 := IntWalk.i64_in _ ⟨by omega, by omega⟩
      have k1 : (k : Int) + 1 < (n : Int) + 1 := by omega
      have k2 : (0 : Int) ≤ (k : Int) + 1 := by omega
      have k3 : ((k : Int) + 1).toNat = k + 1 := by omega
      have HWk := Lib.hid hws
      generalize rmake (sw rows k) = R at HCl HWk
      clear hcl hws hr0 hbo
      go_wp2_with fail
      refine HCl.out.mono ?_
      rintro e w2 ⟨rfl, x2⟩
      obtain ⟨h1, h2, f, h3, h4⟩ := H.out
      have h5 := x2.row h3
      have hc1 := h5.cell (i := k + 1) (by omega)
      have hf1 := h5.frozen (k + 1)
      have HN := Lib.hid (show WL W (w2.setCell ⟨g, k + 1, none⟩ (.int .i64 R)) g (n + 1) (k + 1) rows from ⟨(h1.trans x2).setCell h2 _, h2, _, h5.set (k + 1) _, fun i hi => by
        by_cases e : i = k + 1
        · subst e; rw [HWk.out]; exact if_pos rfl
        · rw [← h4 i (by omega)]; exact if_neg e⟩)
      clear h1 h2 h3 h4 h5 x2 hc0 HCl
      go_wp2
      go_roundw
      case rel => exact ⟨k + 1, by omega, by go_num, HN⟩
      case measure => simp [intOf]; omega
    · obtain rfl : n = k := by omega
      obtain ⟨h1, h2, f, h3, h4⟩ := H.out
      have hi := IS.of_row (k := .i64) (xs := wds rows) h3 (by rw [HWl.out, ← Hn.out]) (by unfold maxLen; omega) (fun i hi => h4 i (by omega))
      have HF := Lib.hid (show RetX .i64 w (wds rows) (.returned (.slice (some ⟨g, 0, none⟩) (n + 1) (n + 1))) wr from ⟨_, _, rfl, hi, XW.out.trans h1⟩)
      clear h1 h2 h3 h4 hi hlt
      go_wp2
      go_ret
      exact HF.out
end Go.Proofs.YtinijapkipeamaaDoor
/- Stitches compared. -/
namespace Go.Proofs.YtinijapkipeamaaDoor
set_option linter.unusedVariables false
set_option linter.unusedSimpArgs false
set_option maxRecDepth 8000
open Go Go.RowKit

def St.eqb (s t : St) : Bool := decide (s = t)
theorem St.eqb_fields (s t : St) : St.eqb s t = (s.k == t.k && (s.y == t.y && (s.a == t.a && (s.b == t.b && s.f == t.f)))) := by
  unfold St.eqb
  rw [Bool.eq_iff_iff]
  cases s; cases t
  simp
theorem run_st_equal (s t : St) (w : World) : (Op.equalIn 10000 52 s.val t.val).run Tryd.prog w = .ok (St.eqb s t) w := by
  rw [St.eqb_fields]
  unfold St.val
  rw [run_equalIn_struct w 9999 _ _ _ (by kernel_rfl) (by kernel_rfl)]
  simp [go_sem, part]
  (repeat' split) <;> simp_all
theorem run_st_eql (s t : St) (w : World) : (binOp .eql 52 (.agg #[.int .u8 s.k, .int .u8 s.y, .int .i64 s.a, .int .i64 s.b, .bool s.f]) (.agg #[.int .u8 t.k, .int .u8 t.y, .int .i64 t.a, .int .i64 t.b, .bool t.f])).run Tryd.prog w = .ok (.bool (St.eqb s t)) w := by
  have h := run_st_equal s t w
  unfold St.val at h
  rw [run_eql_struct, h]
  rfl
theorem run_st_neq (s t : St) (w : World) : (binOp .neq 52 (.agg #[.int .u8 s.k, .int .u8 s.y, .int .i64 s.a, .int .i64 s.b, .bool s.f]) (.agg #[.int .u8 t.k, .int .u8 t.y, .int .i64 t.a, .int .i64 t.b, .bool t.f])).run Tryd.prog w = .ok (.bool (!St.eqb s t)) w := by
  have h := run_st_equal s t w
  unfold St.val at h
  rw [run_neq_struct, h]
  rfl

theorem Same1_calls (s t : St) (w : World) : Calls Tryd.prog 60 #[s.val, t.val] w fun e w' => e = .returned (.bool (St.eqb s t)) ∧ Ext w w' := by
  obtain ⟨k1, y1, a1, b1, f1⟩ := s
  obtain ⟨k2, y2, a2, b2, f2⟩ := t
  have hq := fun w => run_st_eql ⟨k1, y1, a1, b1, f1⟩ ⟨k2, y2, a2, b2, f2⟩ w
  generalize St.eqb ⟨k1, y1, a1, b1, f1⟩ ⟨k2, y2, a2, b2, f2⟩ = q at hq ⊢
  dsimp only at hq
  unfold St.val
  have HA := Lib.hid (fun w => B5.new w ⟨k1, y1, a1, b1, f1⟩ 52)
  have HB := Lib.hid (fun w => B5.new w ⟨k2, y2, a2, b2, f2⟩ 52)
  go_enter Tryd.func60, Tryd.ntmps60
  go_wp2
  go_ret
  exact ⟨rfl, ((Ext.refl w).alloc _).alloc _⟩
end Go.Proofs.YtinijapkipeamaaDoor
/- charts.same, Same. -/
namespace Go.Proofs.YtinijapkipeamaaDoor
set_option linter.unusedVariables false
set_option linter.unusedSimpArgs false
set_option maxRecDepth 8000
open Go Go.RowKit

theorem eqb_true {s t : St} (h : St.eqb s t = true) : s = t := of_decide_eq_true h
theorem eqb_false {s t : St} (h : St.eqb s t = false) : s ≠ t := of_decide_eq_false h

set_option maxHeartbeats 2000000 in
theorem sameS_calls (v1 v2 : Value) (c1 c2 : Nat) (l m : List St) (w : World) (h1 : RS w v1 c1 l) (h2 : RS w v2 c2 m) :
    Calls Tryd.prog 59 #[v1, v2, .func (Fn.func 60) #[] #[]] w fun e w' => e = .returned (.bool (decide (l = m))) ∧ Ext w w' := by
  obtain ⟨ao, n, rfl, hn, hc, hcm, hat⟩ := h1.open
  obtain ⟨ao2, n2, rfl, hn2, hc2, hcm2, hat2⟩ := h2.open
  have hT : n = n2 → (∀ i, i < n → si l i = si m i) → decide (l = m) = true := fun e h => decide_eq_true (si_ext (by omega) (fun i hi => h i (by omega)))
  have hF : (n ≠ n2 ∨ ∃ i, i < n ∧ si l i ≠ si m i) → decide (l = m) = false := fun h => decide_eq_false (fun e => by
    rcases h with h | ⟨i, _, h⟩
    · rw [e] at hn; omega
    · rw [e] at h; exact h rfl)
  generalize decide (l = m) = R at hT hF ⊢
  have HA := Lib.hid hat; have HA2 := Lib.hid hat2; have HT := Lib.hid hT; have HF := Lib.hid hF
  clear hat hat2 hT hF hn hn2 h1 h2
  unfold maxLen at hcm hcm2
  go_enter Tryd.func59, Tryd.ntmps59
  by_cases hl : n = n2
  · subst hl
    go_wp2
    go_loopw [7, 8, 16] (fun _ _ i wr => ∃ k : Nat, k ≤ n ∧ i = .int .i64 k ∧ Hid (Ext w wr) ∧ Hid (∀ i, i < k → si l i = si m i)) (fun _ _ i _ => n - (intOf i).toNat)
    case atStart => exact ⟨0, Nat.zero_le _, rfl, Lib.hid (Ext.refl w), Lib.hid (fun i hi => by omega)⟩
    case round =>
      obtain ⟨k, hk, rfl, Hx, HS⟩ := hrel
      by_cases hlt : k < n
      · obtain ⟨b, o, rfl, a5⟩ := HA.out k hlt
        obtain ⟨b2, o2, rfl, b5⟩ := HA2.out k hlt
        obtain ⟨p0, p1, p2, p3, p4⟩ := a5.ext Hx.out
        have q5 := b5.ext Hx.out
        have hq5 := q5.ext ((Ext.refl wr).alloc (.cells #[.int .u8 (si l k).k, .int .u8 (si l k).y, .int .i64 (si l k).a, .int .i64 (si l k).b, .bool (si l k).f] 52))
        obtain ⟨r0, r1, r2, r3, r4⟩ := hq5
        have hnew := B5.new wr (si l k) 52
        obtain ⟨s0, s1, s2, s3, s4⟩ := hnew.at
        have hcall := fun w => Same1_calls (si l k) (si m k) w
        have hR1 : St.eqb (si l k) (si m k) = false → R = false := fun h => HF.out (.inr ⟨k, hlt, eqb_false h⟩)
        have hR2 : St.eqb (si l k) (si m k) = true → ∀ i, i < k + 1 → si l i = si m i := fun h i hi => by
          by_cases e : i = k
          · rw [e]; exact eqb_true h
          · exact HS.out i (by omega)
        obtain ⟨s, hs⟩ : ∃ s, s = si l k := ⟨_, rfl⟩
        obtain ⟨t, ht⟩ : ∃ t, t = si m k := ⟨_, rfl⟩
        rw [← hs] at p0 p1 p2 p3 p4 hR1 hR2 hcall r0 r1 r2 r3 r4 s0 s1 s2 s3 s4
        rw [← ht] at r0 r1 r2 r3 r4 hR1 hR2 hcall
        unfold St.val at hcall
        simp only [Nat.zero_add] at s0 s1 s2 s3 s4
        generalize St.eqb s t = q at hR1 hR2 hcall
        have HC := Lib.hid hcall; have H1 := Lib.hid hR1; have H2 := Lib.hid hR2
        clear hcall hR1 hR2 hs ht a5 b5 q5 hnew
        go_wp2
        have X1 := Lib.hid (Hx.out.trans ((Ext.refl wr).alloc (.cells #[.int .u8 s.k, .int .u8 s.y, .int .i64 s.a, .int .i64 s.b, .bool s.f] 52)))
        obtain ⟨w1, hw1⟩ : ∃ w1, w1 = wr.alloc (.cells #[.int .u8 s.k, .int .u8 s.y, .int .i64 s.a, .int .i64 s.b, .bool s.f] 52) := ⟨_, rfl⟩
        rw [← hw1] at r0 r1 r2 r3 r4 s0 s1 s2 s3 s4 X1 ⊢
        clear hw1 p0 p1 p2 p3 p4
        go_region_held3 (fun w' => w'.cell? ⟨wr.heap.size, 0, none⟩ = some (.int .u8 s.k) ∧ w'.cell? ⟨wr.heap.size, 1, none⟩ = some (.int .u8 s.y) ∧ w'.cell? ⟨wr.heap.size, 2, none⟩ = some (.int .i64 s.a) ∧ w'.cell? ⟨wr.heap.size, 3, none⟩ = some (.int .i64 s.b) ∧ w'.cell? ⟨wr.heap.size, 4, none⟩ = some (.bool s.f) ∧
          w'.cell? ⟨b2, o2 + k * 5, none⟩ = some (.int .u8 t.k) ∧ w'.cell? ⟨b2, o2 + k * 5 + 1, none⟩ = some (.int .u8 t.y) ∧ w'.cell? ⟨b2, o2 + k * 5 + 2, none⟩ = some (.int .i64 t.a) ∧ w'.cell? ⟨b2, o2 + k * 5 + 3, none⟩ = some (.int .i64 t.b) ∧ w'.cell? ⟨b2, o2 + k * 5 + 4, none⟩ = some (.bool t.f))
          (first | exact ⟨s0, s1, s2, s3, s4, r0, r1, r2, r3, r4⟩ | exact ⟨z0, z1, z2, z3, z4, z5, z6, z7, z8, z9⟩ | go_keep) (first
          | (go_at_call 60; refine (HC.out _).mono ?_; rintro e w2 ⟨rfl, x2⟩; have X2 := Lib.hid (((Ext.refl w1).drewN _).trans x2); have z0 := X2.out.cell s0; have z1 := X2.out.cell s1; have z2 := X2.out.cell s2; have z3 := X2.out.cell s3; have z4 := X2.out.cell s4; have z5 := X2.out.cell r0; have z6 := X2.out.cell r1; have z7 := X2.out.cell r2; have z8 := X2.out.cell r3; have z9 := X2.out.cell r4; clear x2))
        have X3 := Lib.hid (X1.out.trans X2.out)
        cases q
        · have hR := H1.out rfl
          subst hR
          clear H1 H2 HC
          go_wp2
          go_ret
          exact ⟨rfl, X3.out⟩
        · have HS2 := Lib.hid (H2.out rfl)
          clear H1 H2 HC
          go_wp2
          go_roundw
          case rel => exact ⟨k + 1, by omega, by go_num, X3, HS2⟩
          case measure => simp [intOf]; omega
      · obtain rfl : n = k := by omega
        have hR := HT.out trivial HS.out
        subst hR
        go_wp2
        go_ret
        exact ⟨rfl, Hx.out⟩
  · have hR := HF.out (.inl hl)
    subst hR
    have t1 : ¬ ((n : Int) = n2) := by omega
    go_wp2
    go_ret
    exact ⟨rfl, Ext.refl w⟩

theorem SameR_calls (v1 v2 : Value) (c1 c2 : Nat) (l m : List St) (w : World) (h1 : RS w v1 c1 l) (h2 : RS w v2 c2 m) :
    Calls Tryd.prog 58 #[v1, v2] w fun e w' => e = .returned (.bool (decide (l = m))) ∧ Ext w w' := by
  have HC := Lib.hid (sameS_calls v1 v2 c1 c2 l m w h1 h2)
  obtain ⟨ao, n, rfl, q1⟩ := h1.open
  obtain ⟨ao2, n2, rfl, q2⟩ := h2.open
  clear h1 h2 q1 q2
  go_enter Tryd.func58, Tryd.ntmps58
  go_wp2_with fail
  refine HC.out.mono ?_
  rintro e w1 ⟨rfl, x1⟩
  have X1 := Lib.hid x1
  clear x1 HC
  go_wp2
  go_ret
  exact ⟨rfl, X1.out⟩

theorem sw_ext {l m : List (List St)} (hl : l.length = m.length) (h : ∀ i, i < l.length → sw l i = sw m i) : l = m := by
  apply List.ext_getElem hl
  intro i h1 h2
  have := h i h1
  rwa [sw_of_lt h1, sw_of_lt h2] at this
set_option maxHeartbeats 2000000 in
theorem sameR_calls (v1 v2 : Value) (c1 c2 : Nat) (l m : List (List St)) (w : World) (h1 : RR w v1 c1 l) (h2 : RR w v2 c2 m) :
    Calls Tryd.prog 57 #[v1, v2, .func (Fn.func 58) #[] #[]] w fun e w' => e = .returned (.bool (decide (l = m))) ∧ Ext w w' := by
  obtain ⟨ao, n, rfl, hn, hc, hcm, hat⟩ := h1.open
  obtain ⟨ao2, n2, rfl, hn2, hc2, hcm2, hat2⟩ := h2.open
  have hT : n = n2 → (∀ i, i < n → sw l i = sw m i) → decide (l = m) = true := fun e h => decide_eq_true (sw_ext (by omega) (fun i hi => h i (by omega)))
  have hF : (n ≠ n2 ∨ ∃ i, i < n ∧ sw l i ≠ sw m i) → decide (l = m) = false := fun h => decide_eq_false (fun e => by
    rcases h with h | ⟨i, _, h⟩
    · rw [e] at hn; omega
    · rw [e] at h; exact h rfl)
  generalize decide (l = m) = R at hT hF ⊢
  have HA := Lib.hid hat; have HA2 := Lib.hid hat2; have HT := Lib.hid hT; have HF := Lib.hid hF
  clear hat hat2 hT hF hn hn2 h1 h2
  unfold maxLen at hcm hcm2
  go_enter Tryd.func57, Tryd.ntmps57
  by_cases hl : n = n2
  · subst hl
    go_wp2
    go_loopw [7, 8, 16] (fun _ _ i wr => ∃ k : Nat, k ≤ n ∧ i = .int .i64 k ∧ Hid (Ext w wr) ∧ Hid (∀ i, i < k → sw l i = sw m i)) (fun _ _ i _ => n - (intOf i).toNat)
    case atStart => exact ⟨0, Nat.zero_le _, rfl, Lib.hid (Ext.refl w), Lib.hid (fun i hi => by omega)⟩
    case round =>
      obtain ⟨k, hk, rfl, Hx, HS⟩ := hrel
      by_cases hlt : k < n
      · obtain ⟨b, o, a, p, d, rfl, p0, r1⟩ := HA.out k hlt
        obtain ⟨b2, o2, a2, p2, d2, rfl, q0, r2⟩ := HA2.out k hlt
        replace p0 := Hx.out.cell p0
        replace q0 := Hx.out.cell q0
        have hcall := SameR_calls _ _ _ _ _ _ wr (r1.ext Hx.out) (r2.ext Hx.out)
        have hR1 : decide (sw l k = sw m k) = false → R = false := fun h => HF.out (.inr ⟨k, hlt, of_decide_eq_false h⟩)
        have hR2 : decide (sw l k = sw m k) = true → ∀ i, i < k + 1 → sw l i = sw m i := fun h i hi => by
          by_cases e : i = k
          · rw [e]; exact of_decide_eq_true h
          · exact HS.out i (by omega)
        generalize decide (sw l k = sw m k) = q at hR1 hR2 hcall
        have HC := Lib.hid hcall; have H1 := Lib.hid hR1; have H2 := Lib.hid hR2
        clear hcall hR1 hR2 r1 r2
        go_wp2_with fail
        refine HC.out.mono ?_
        rintro e w2 ⟨rfl, x2⟩
        have X3 := Lib.hid (Hx.out.trans x2)
        clear x2
        cases q
        · have hR := H1.out rfl
          subst hR
          clear H1 H2 HC
          go_wp2
          go_ret
          exact ⟨rfl, X3.out⟩
        · have HS2 := Lib.hid (H2.out rfl)
          clear H1 H2 HC
          go_wp2
          go_roundw
          case rel => exact ⟨k + 1, by omega, by go_num, X3, HS2⟩
          case measure => simp [intOf]; omega
      · obtain rfl : n = k := by omega
        have hR := HT.out trivial HS.out
        subst hR
        go_wp2
        go_ret
        exact ⟨rfl, Hx.out⟩
  · have hR := HF.out (.inl hl)
    subst hR
    have t1 : ¬ ((n : Int) = n2) := by omega
    go_wp2
    go_ret
    exact ⟨rfl, Ext.refl w⟩

theorem CSame_calls (v1 v2 : Value) (c1 c2 : Nat) (l m : List (List St)) (w : World) (h1 : RR w v1 c1 l) (h2 : RR w v2 c2 m) :
    Calls Tryd.prog 41 #[.agg #[v1], .agg #[v2]] w fun e w' => e = .returned (.bool (decide (l = m))) ∧ Ext w w' := by
  have HC := Lib.hid (fun w' (x : Ext w w') => sameR_calls v1 v2 c1 c2 l m w' (h1.ext x) (h2.ext x))
  obtain ⟨ao, n, rfl, q1⟩ := h1.open
  obtain ⟨ao2, n2, rfl, q2⟩ := h2.open
  clear h1 h2 q1 q2
  go_enter Tryd.func41, Tryd.ntmps41
  go_wp2_with fail
  refine (HC.out _ (((Ext.refl w).alloc _).alloc _)).mono ?_
  rintro e w1 ⟨rfl, x1⟩
  have X1 := Lib.hid ((((Ext.refl w).alloc _).alloc _).trans x1)
  clear x1 HC
  go_wp2
  go_ret
  exact ⟨rfl, X1.out⟩
end Go.Proofs.YtinijapkipeamaaDoor
/- shapes.Of. -/
namespace Go.Proofs.YtinijapkipeamaaDoor
set_option linter.unusedVariables false
set_option linter.unusedSimpArgs false
set_option maxRecDepth 8000
open Go Go.RowKit

/-- The yarn of the first stitch. -/
def y00 (rows : List (List St)) : Int := (si (sw rows 0) 0).y
def oferr (rows : List (List St)) : Int :=
  if (cloads rows).1 ≠ 0 then (cloads rows).1 else if cherr (wds rows) (y00 rows) = 0 ∧ chres (wds rows) (y00 rows) = rows then 0 else 7
/-- An outline, a yarn and an error are returned. -/
def RetOf (w0 : World) (l : List Int) (y err : Int) (e : Ending) (w' : World) : Prop := ∃ v c, e = .returned (.tuple #[v, .int .u8 y, .int .i64 err]) ∧ IS .i64 w' v c l ∧ Ext w0 w'
theorem cloads_cerr {rows : List (List St)} (h : (cloads rows).1 = 0) : cerr rows = 0 := by
  unfold cloads at h
  by_cases hc : cerr rows ≠ 0
  · rw [if_pos hc] at h; exact h
  · omega

set_option maxHeartbeats 4000000 in
theorem Of_calls (v : Value) (c : Nat) (rows : List (List St)) (w : World) (h : RR w v c rows) (hy : ∀ i, i < rows.length → ∀ s ∈ sw rows i, 0 ≤ s.y ∧ s.y ≤ 255) :
    Calls Tryd.prog 28 #[.agg #[v]] w (RetOf w (if oferr rows = 0 then wds rows else []) (if oferr rows = 0 then y00 rows else 0) (oferr rows)) := by
  have hck := fun w' (x : Ext w w') => CCheck_calls v c rows w' (h.ext x)
  have hsame := fun v2 c2 m w' (x : Ext w w') (h2 : RR w' v2 c2 m) => CSame_calls v2 v c2 c m rows w' h2 (h.ext x)
  have hRR := h
  obtain ⟨ao, n, rfl, hn, hc, hcm, hat⟩ := h.open
  obtain ⟨W, hW⟩ : ∃ W, W = w.alloc (.cells #[.slice ao n c] 26) := ⟨_, rfl⟩
  have xW : Ext w W := by rw [hW]; exact (Ext.refl w).alloc _
  have b0 : W.cell? ⟨w.heap.size, 0, none⟩ = some (.slice ao n c) := by rw [hW, World.cell?_alloc_at (hn := rfl)]; rfl
  have HBx := Lib.hid (fun w' (x : Ext W w') => x.cell b0); have XW := Lib.hid xW
  have hbad : ∀ w' e, Ext w w' → e = oferr rows → e ≠ 0 → RetOf w (if oferr rows = 0 then wds rows else []) (if oferr rows = 0 then y00 rows else 0) (oferr rows) (.returned (.tuple #[.slice none 0 0, .int .u8 0, .int .i64 e])) w' := fun w' e x h1 h2 => by
    rw [if_neg (by omega), if_neg (by omega), ← h1]; exact ⟨_, 0, rfl, IS.nil _ _, x⟩
  have hgood : ∀ w' v c, Ext w w' → oferr rows = 0 → IS .i64 w' v c (wds rows) → RetOf w (if oferr rows = 0 then wds rows else []) (if oferr rows = 0 then y00 rows else 0) (oferr rows) (.returned (.tuple #[v, .int .u8 (y00 rows), .int .i64 0])) w' := fun w' v c x h1 h2 => by
    rw [if_pos h1, if_pos h1, h1]; exact ⟨v, c, rfl, h2, x⟩
  have HBad := Lib.hid hbad; have HGood := Lib.hid hgood
  have hof0 : oferr rows = if (cloads rows).1 ≠ 0 then (cloads rows).1 else if cherr (wds rows) (y00 rows) = 0 ∧ chres (wds rows) (y00 rows) = rows then 0 else 7 := rfl
  generalize (if oferr rows = 0 then wds rows else []) = RL at *
  generalize (if oferr rows = 0 then y00 rows else 0) = RY at *
  generalize oferr rows = RE at *
  by_cases he : (cloads rows).1 = 0
  · have hce := cloads_cerr he
    obtain ⟨r1, r2, r3, r4⟩ := cerr_zero hce
    have hz := fun i (hi : i < rows.length) => rchk_zero (r3 i hi)
    have hwd := fun w' (x : Ext w w') => Widths_calls _ c rows w' (hRR.ext x) (fun i hi => by have := hz i hi; omega) (by omega)
    have hck0 := fun w' x => hck w' x
    rw [he] at hck0
    obtain ⟨b, o, a, m, d, rfl, hc0, hr0⟩ := hat 0 (by omega)
    rw [Nat.add_zero] at hc0
    obtain ⟨ao2, n2, e1, e2, _, _, e5⟩ := hr0.open
    simp only [Value.slice.injEq] at e1
    obtain ⟨rfl, rfl, _⟩ := e1
    have hm0 : 0 < m := by have := hz 0 (by omega); omega
    obtain ⟨b2, o2, rfl, h5⟩ := e5 0 hm0
    have hyc := h5.2.1
    rw [Nat.zero_mul, Nat.add_zero] at hyc
    have hyb : 0 ≤ y00 rows ∧ y00 rows ≤ 255 := hy 0 (by omega) _ (si_mem (by omega))
    have hch := fun w' v c (hi : IS .i64 w' v c (wds rows)) => Chart_calls v c (wds rows) (y00 rows) w' hi hyb
    have hof : RE = if cherr (wds rows) (y00 rows) = 0 ∧ chres (wds rows) (y00 rows) = rows then 0 else 7 := by rw [hof0, if_neg (by omega)]
    have hyc' : w.cell? ⟨b2, o2 + 1, none⟩ = some (.int .u8 (y00 rows)) := hyc
    generalize y00 rows = Y at *
    have HC0 := Lib.hid (fun w' (x : Ext w w') => x.cell hc0); have HY := Lib.hid (fun w' (x : Ext w w') => x.cell hyc')
    have HCk := Lib.hid hck0; have HWd := Lib.hid hwd; have HCh := Lib.hid hch; have HOf := Lib.hid hof; have HSa := Lib.hid hsame
    have t0 : (0 : Int) < n := by omega
    have t1 : (0 : Int) < m := by omega
    have t0' : 0 < n := by omega
    have bb := b0
    rw [hW] at bb
    have HW := Lib.hid hW
    clear hof0 hgood hck hck0 hsame hRR hbad he hce r1 r2 r3 r4 hz hwd hc0 hr0 e2 e5 h5 hyc hyc' hch hof hat h b0 hW xW hy hn
    go_enter Tryd.func28, Tryd.ntmps28
    go_wp2_with fail
    rw [← HW.out]
    refine (HCk.out _ XW.out).mono ?_
    rintro e w1 ⟨rfl, x1⟩
    have X1 := Lib.hid (XW.out.trans x1)
    have XW1 := Lib.hid x1
    have c1 := HBx.out _ x1
    have c2 := HC0.out _ X1.out
    have c3 := HY.out _ X1.out
    clear x1 HCk bb
    go_wp2
    go_region_held3 (fun w' => w'.cell? ⟨w.heap.size, 0, Option.none⟩ = some (.slice (some ⟨b, o, Option.none⟩) n c) ∧ w'.cell? ⟨b, o, Option.none⟩ = some (.slice (some ⟨b2, o2, Option.none⟩) m d) ∧ w'.cell? ⟨b2, o2 + 1, Option.none⟩ = some (.int .u8 Y))
      (first | exact ⟨c1, c2, c3⟩ | exact ⟨z1, z2, z3⟩ | go_keep) (first
      | (go_at_call 27; (refine (HWd.out _ ?_).mono ?_); (focus (refine X1.out.trans ?_; repeat (first | (with_reducible exact Ext.refl _) | (with_reducible apply Ext.drew) | (with_reducible apply Ext.drewN)))); intro e w2 hh; obtain ⟨v2, k2, rfl, i2, x2⟩ := hh; have X2 : Hid (Ext w1 w2) := Lib.hid (Ext.trans (by (repeat (first | (with_reducible exact Ext.refl _) | (with_reducible apply Ext.drew) | (with_reducible apply Ext.drewN)))) x2); have I2 := Lib.hid i2; have z1 := X2.out.cell c1; have z2 := X2.out.cell c2; have z3 := X2.out.cell c3; clear i2 x2))
    have X3 := Lib.hid (X1.out.trans X2.out)
    clear z1 z2 z3 c1 c2 c3
    go_wp2_with fail
    refine (HCh.out _ _ _ I2.out).mono ?_
    rintro e w3 ⟨v3, rfl, r3, x3⟩
    obtain ⟨a3, n3, rfl, q3⟩ := r3.open
    clear q3
    obtain ⟨cc, hcc⟩ : ∃ cc, cc = (chres (wds rows) Y).length := ⟨_, rfl⟩
    rw [← hcc] at r3 ⊢
    obtain ⟨w4, hw4⟩ : ∃ w4, w4 = w3.alloc (.cells #[.slice a3 n3 cc] 26) := ⟨_, rfl⟩
    have x4 : Ext w3 w4 := by rw [hw4]; exact (Ext.refl w3).alloc _
    have d4 : w4.cell? ⟨w3.heap.size, 0, none⟩ = some (.slice a3 n3 cc) := by rw [hw4, World.cell?_alloc_at (hn := rfl)]; rfl
    have X4 := Lib.hid (X3.out.trans (x3.trans x4))
    have d5 := HBx.out _ (XW1.out.trans (X2.out.trans (x3.trans x4)))
    have R4 := Lib.hid (r3.ext x4)
    rw [hw4] at d4 d5
    have HW4 := Lib.hid hw4
    have I4 := Lib.hid (I2.out.ext (x3.trans x4))
    have hsa := HSa.out _ _ _ w4 X4.out R4.out
    have HSa2 := Lib.hid hsa
    have hof := HOf.out
    clear r3 x3 x4 hcc hw4 hsa HCh HWd
    by_cases hce : cherr (wds rows) Y = 0
    · rw [hce]
      by_cases hsm : chres (wds rows) Y = rows
      · rw [if_pos ⟨hce, hsm⟩] at hof
        have hsa := HSa2.out
        rw [decide_eq_true hsm] at hsa
        have HS3 := Lib.hid hsa
        have HOf2 := Lib.hid hof
        clear hof hsa hce hsm
        go_wp2_with fail
        rw [← HW4.out]
        refine HS3.out.mono ?_
        rintro e w5 ⟨rfl, x5⟩
        have HF := Lib.hid (HGood.out w5 _ _ (X4.out.trans x5) HOf2.out (I4.out.ext x5))
        clear x5 d4 d5
        go_wp2
        exact bodyPost_ret (v := .tuple #[v2, .int .u8 Y, .int .i64 0]) (by simp [results, Tryd.results28, go_sem]) rfl HF.out
      · rw [if_neg (fun h => hsm h.2)] at hof
        have hsa := HSa2.out
        rw [decide_eq_false hsm] at hsa
        have HS3 := Lib.hid hsa
        have HOf2 := Lib.hid hof
        clear hof hsa hce hsm
        go_wp2_with fail
        rw [← HW4.out]
        refine HS3.out.mono ?_
        rintro e w5 ⟨rfl, x5⟩
        have HF := Lib.hid (HBad.out w5 7 (X4.out.trans x5) HOf2.out.symm (by decide))
        clear x5 d4 d5
        go_wp2
        exact bodyPost_ret (v := .tuple #[.slice none 0 0, .int .u8 0, .int .i64 7]) (by simp [results, Tryd.results28, go_sem]) rfl HF.out
    · rw [if_neg (fun h => hce h.1)] at hof
      have HF := Lib.hid (HBad.out w4 7 X4.out hof.symm (by decide))
      have tq : (cherr (wds rows) Y != 0) = true := by rw [bne, beq_eq_false_iff_ne.2 hce]; rfl
      rw [HW4.out] at HF
      clear hof hce d4 d5
      go_wp2
      exact bodyPost_ret (v := .tuple #[.slice none 0 0, .int .u8 0, .int .i64 7]) (by simp [results, Tryd.results28, go_sem]) rfl HF.out
  · have hof : (cloads rows).1 = RE := by rw [hof0, if_pos he]
    have HF := Lib.hid (fun w' x => HBad.out w' RE x rfl (by rw [← hof]; exact he))
    have hck0 := fun w' x => hck w' x
    rw [hof] at hck0
    have tq : (RE != 0) = true := by rw [bne, beq_eq_false_iff_ne.2 (by rw [← hof]; exact he)]; rfl
    have HCk := Lib.hid hck0
    have HW := Lib.hid hW
    rw [hW] at b0
    clear hof hof0 hgood hck hck0 hsame hRR hbad he hat h hW xW hy hn
    go_enter Tryd.func28, Tryd.ntmps28
    go_wp2_with fail
    rw [← HW.out]
    refine (HCk.out _ XW.out).mono ?_
    rintro e w1 ⟨rfl, x1⟩
    have HF2 := Lib.hid (HF.out _ (XW.out.trans x1))
    clear x1 HCk b0
    go_wp2
    exact bodyPost_ret (v := .tuple #[.slice none 0 0, .int .u8 0, .int .i64 RE]) (by simp [results, Tryd.results28, go_sem]) rfl HF2.out
end Go.Proofs.YtinijapkipeamaaDoor
/- More for walks: blocks of two cells (a struct of two fields that lies in memory). -/
namespace Go.Proofs.YtinijapkipeamaaDoor
set_option linter.unusedVariables false
set_option linter.unusedSimpArgs false
open Go Go.RowKit

/-- Block b holds a struct of two fields. -/
def B2 (w : World) (b : Nat) (x y : Value) (t : TypeId) : Prop := w.heap[b]? = some (.cells #[x, y] t (0, 0))
theorem B2.c0 {w : World} {b : Nat} {x y : Value} {t : TypeId} (h : B2 w b x y t) : w.cell? ⟨b, 0, none⟩ = some x := by unfold B2 at h; simp [World.cell?, h]
theorem B2.c1 {w : World} {b : Nat} {x y : Value} {t : TypeId} (h : B2 w b x y t) : w.cell? ⟨b, 1, none⟩ = some y := by unfold B2 at h; simp [World.cell?, h]
theorem B2.f0 {w : World} {b : Nat} {x y : Value} {t : TypeId} (h : B2 w b x y t) : w.frozen? ⟨b, 0, none⟩ = false := by unfold B2 at h; simp [World.frozen?, h]
theorem B2.f1 {w : World} {b : Nat} {x y : Value} {t : TypeId} (h : B2 w b x y t) : w.frozen? ⟨b, 1, none⟩ = false := by unfold B2 at h; simp [World.frozen?, h]
theorem B2.ext {w w' : World} {b : Nat} {x y : Value} {t : TypeId} (h : B2 w b x y t) (e : Ext w w') : B2 w' b x y t := Ext.block e h
theorem B2.new (w : World) (x y : Value) (t : TypeId) : B2 (w.alloc (.cells #[x, y] t)) w.heap.size x y t := Deep.blk_alloc_new _ _
theorem B2.lt {w : World} {b : Nat} {x y : Value} {t : TypeId} (h : B2 w b x y t) : b < w.heap.size := World.block_lt_of_cell? w _ h.c0
theorem B2.alloc {w : World} {b : Nat} {x y : Value} {t : TypeId} (h : B2 w b x y t) (o : Obj) : B2 (w.alloc o) b x y t := h.ext ((Ext.refl w).alloc o)
theorem B2.set0 {w : World} {b : Nat} {x y u : Value} {t : TypeId} (h : B2 w b x y t) : B2 (w.setCell ⟨b, 0, none⟩ u) b u y t := by
  unfold B2 at *
  have hlt := lt_of_block h
  have h' : w.heap[b] = .cells #[x, y] t (0, 0) := by simpa [Array.getElem?_eq_getElem hlt] using h
  show (w.heap.modify b _)[b]? = _
  rw [Array.getElem?_eq_getElem (by simpa using hlt), Array.getElem_modify_self, h']
  rfl
theorem B2.set1 {w : World} {b : Nat} {x y u : Value} {t : TypeId} (h : B2 w b x y t) : B2 (w.setCell ⟨b, 1, none⟩ u) b x u t := by
  unfold B2 at *
  have hlt := lt_of_block h
  have h' : w.heap[b] = .cells #[x, y] t (0, 0) := by simpa [Array.getElem?_eq_getElem hlt] using h
  show (w.heap.modify b _)[b]? = _
  rw [Array.getElem?_eq_getElem (by simpa using hlt), Array.getElem_modify_self, h']
  rfl
theorem B2.set2 {w : World} {b : Nat} {x y : Value} {t : TypeId} (h : B2 w b x y t) (u v : Value) : B2 ((w.setCell ⟨b, 0, none⟩ u).setCell ⟨b, 1, none⟩ v) b u v t := h.set0.set1
theorem B2.setOther {w : World} {b : Nat} {x y u : Value} {t : TypeId} {a : Addr} (h : B2 w b x y t) (hn : b ≠ a.block) : B2 (w.setCell a u) b x y t := by
  unfold B2 at *
  rw [Deep.blk_setCell_other _ _ _ _ hn]; exact h
theorem B2.setOther2 {w : World} {b : Nat} {x y : Value} {t : TypeId} (h : B2 w b x y t) (c : Nat) (hn : b ≠ c) (u v : Value) : B2 ((w.setCell ⟨c, 0, none⟩ u).setCell ⟨c, 1, none⟩ v) b x y t := (h.setOther hn).setOther hn
theorem Ext.set2 {w w' : World} (h : Ext w w') (c : Nat) (hc : w.heap.size ≤ c) (u v : Value) : Ext w ((w'.setCell ⟨c, 0, none⟩ u).setCell ⟨c, 1, none⟩ v) := (h.setCell hc _).setCell hc _

/-- Strings: equal or not, in the walk's words. -/
theorem str_eq {a b : ByteArray} (h : a = b) : (a.toList == b.toList) = true := by rw [h]; simp
theorem str_ne {a b : ByteArray} (h : a ≠ b) : (a.toList == b.toList) = false := by
  rw [beq_eq_false_iff_ne]
  intro e
  rw [ByteArray.toList_eq, ByteArray.toList_eq] at e
  exact h (ByteArray.ext (Array.toList_inj.1 e))
theorem str_nonempty {a : ByteArray} (h : 0 < a.size) : a.toList.isEmpty = false := by
  rw [ByteArray.toList_eq, List.isEmpty_eq_false_iff]
  intro e
  have : a.data.toList.length = 0 := by rw [e]; rfl
  rw [Array.length_toList] at this
  have h2 : a.data.size = a.size := rfl
  omega
end Go.Proofs.YtinijapkipeamaaDoor
/- The outlines of plain data: the walk. -/
namespace Go.Proofs.YtinijapkipeamaaDoor
set_option linter.unusedVariables false
set_option linter.unusedSimpArgs false
set_option maxRecDepth 8000
open Go Go.RowKit

set_option maxHeartbeats 2000000 in
theorem O_calls (f : Int) (v : Value) (c : Nat) (st : List Int) (w : World) (h : IS .u8 w v c st) (hf : 0 ≤ f ∧ f ≤ 255) (hs : ∀ i, i < st.length → 0 ≤ gi st i ∧ gi st i ≤ 255) :
    Calls Tryd.prog 20 #[.agg #[.int .u8 f, v]] w (RetX .i64 w (oof f st)) := by
  obtain ⟨ao, n, c', rfl, hn, rfl, hIS⟩ := h.out
  obtain ⟨W, hW⟩ : ∃ W, W = w.alloc (.cells #[.int .u8 f, .slice ao n c'] 44) := ⟨_, rfl⟩
  have xW : Ext w W := by rw [hW]; exact (Ext.refl w).alloc _
  have hB := B2.new w (.int .u8 f) (.slice ao n c') 44
  have c0 := hB.c0; have c1 := hB.c1
  have hbx : ∀ w', Ext W w' → w'.cell? ⟨w.heap.size, 1, none⟩ = some (.slice ao n c') := fun w' x => by rw [hW] at x; exact x.cell c1
  obtain ⟨M, hM⟩ : ∃ M, M = min n 15 := ⟨_, rfl⟩
  have hM15 : M ≤ 15 ∧ M ≤ n := by omega
  have hof : oof f st = olist f st M ++ (if M % 2 = 0 then [oat f st M] else []) := by unfold oof; rw [hM, hn]
  have hbd := oat_bd f st
  have hsc := olist_succ f st
  have hst2 : ∀ k, oat f st (k + 1) = stp (oat f st k) (gi st k) := fun k => rfl
  have hln := olist_len f st
  have hs2 : ∀ i, i < n → 0 ≤ gi st i ∧ gi st i ≤ 255 := fun i hi => hs i (by omega)
  have h0 : oat f st 0 = 2 + f % 15 := rfl
  have HBx := Lib.hid hbx; have HBd := Lib.hid hbd; have HSc := Lib.hid hsc; have HSt := Lib.hid hst2; have HLn := Lib.hid hln; have HI := Lib.hid (hIS.ext xW); have HS := Lib.hid hs2; have HOf := Lib.hid hof; have HMn := Lib.hid hM; have XW := Lib.hid xW
  have w1 : IntKind.u8.wrap (f % 15) = f % 15 := IntWalk.u8_in _ ⟨by omega, by omega⟩
  have w2 : IntKind.i64.wrap (f % 15) = f % 15 := IntWalk.i64_in _ ⟨by omega, by omega⟩
  have w3 : IntKind.i64.wrap (2 + f % 15) = oat f st 0 := by rw [h0]; exact IntWalk.i64_in _ ⟨by omega, by omega⟩
  have hstart : (W.alloc (.cells #[.int .i64 (oat f st 0)] 3)).ownsRow W.heap.size 3 1 (.slice (some ⟨W.heap.size, 0, none⟩) 1 1) 1 [.int .i64 (oat f st 0)] :=
    own_of_row (World.rowIs_alloc W #[.int .i64 (oat f st 0)] 3 (fun _ => .int .i64 (oat f st 0)) (fun i hi => by simp at hi; subst hi; rfl)) (m := 1) (Nat.le_refl _) (by unfold maxLen; simp)
  have HSt0 := Lib.hid hstart
  obtain ⟨f1, f2⟩ := hf
  clear hbx hbd hsc hst2 hln hIS hs2 hof hM xW h hs hB hn h0 hstart
  go_enter Tryd.func20, Tryd.ntmps20
  go_wp2
  clear c0 c1 w1 w2 w3
  rw [← hW]
  have hWs : W.heap.size = w.heap.size + 1 := by rw [hW]; simp
  rw [← hWs]
  have HWs := Lib.hid hWs
  clear hWs hW
  go_loopw [3, 4, 5, 6] (fun x l i _ wr => ∃ k : Nat, k ≤ M ∧ i = .int .i64 k ∧ x = .int .i64 (oat f st k) ∧ Hid (wr.ownsRow W.heap.size 3 1 l (k + 1) ((olist f st k).map (Value.int .i64)) ∧ Ext W wr)) (fun _ _ i _ _ => M - (intOf i).toNat)
  case atStart => exact ⟨0, by omega, rfl, rfl, Lib.hid ⟨by simpa [olist] using HSt0.out, (Ext.refl W).alloc _⟩⟩
  case round =>
    obtain ⟨k, hk, rfl, rfl, H⟩ := hrel
    have b1 := HBx.out _ H.out.2
    have hsz := H.out.2.size
    by_cases hlt : k < M
    · have k1 : (k : Int) < n := by omega
      have k2 : (k : Int) < 15 := by omega
      obtain ⟨b, o, rfl, hc⟩ := HI.out.at (show k < n by omega)
      replace hc := H.out.2.cell (hc k (by omega))
      have hx := HBd.out k
      have hy := HBd.out (k + 1)
      have hso := HSt.out k
      have hsc := HSc.out k
      obtain ⟨s1, s2⟩ := HS.out k (by omega)
      generalize oat f st k = X at *
      generalize gi st k = s at *
      generalize hN : oat f st (k + 1) = Y at *
      obtain ⟨D, hD⟩ : ∃ D, D = s % 5 - 2 := ⟨_, rfl⟩
      unfold stp at hso
      rw [← hD] at hso
      have v1 : IntKind.u8.wrap (s % 5) = s % 5 := IntWalk.u8_in _ ⟨by omega, by omega⟩
      have v2 : IntKind.i64.wrap (s % 5) = s % 5 := IntWalk.i64_in _ ⟨by omega, by omega⟩
      have v3 : IntKind.i64.wrap (s % 5 - 2) = D := by rw [← hD]; exact IntWalk.i64_in _ ⟨by omega, by omega⟩
      have v4 : IntKind.i64.wrap (X + D) = X + D := IntWalk.i64_in _ ⟨by omega, by omega⟩
      have HSo := Lib.hid hso; have HSn := Lib.hid hsc; have HNn := Lib.hid hN
      clear hso hsc hN hD hx hy
      by_cases hin : 2 ≤ X + D ∧ X + D ≤ 16
      · obtain ⟨i1, i2⟩ := hin
        have hY := HSo.out
        rw [if_pos ⟨i1, i2⟩] at hY
        have HY := Lib.hid hY
        clear hY
        go_wp2_with (at_builtin; refine app_own eiInt rfl _ _ rfl W.heap.size _ (k + 1) _ rfl (H.out.1.alloc _) _ _ _ rfl (VS.one _ _ _) (one1 _) ?d1 ?d2 ?d3 ?_)
        any_goals (first | omega | (simp; done) | (simp only [List.length_cons, List.length_nil]; omega) | (simp; omega))
        intro v' w' hown hbel
        have HO := Lib.hid (And.intro hown hbel)
        clear hown hbel
        go_wp2
        go_roundw
        case rel => exact ⟨k + 1, by omega, by go_num, by rw [HNn.out, HY.out], Lib.hid ⟨by rw [HSn.out, HY.out, List.map_append]; exact HO.out.1, Below.trans (H.out.2.alloc _) HO.out.2⟩⟩
        case measure => simp [intOf]; omega
      · have hY := HSo.out
        rw [if_neg hin] at hY
        have HY := Lib.hid hY
        clear hY
        by_cases i1 : 2 ≤ X + D
        · have i2 : ¬ X + D ≤ 16 := by omega
          clear hin
          go_wp2_with (at_builtin; refine app_own eiInt rfl _ _ rfl W.heap.size _ (k + 1) _ rfl (H.out.1.alloc _) _ _ _ rfl (VS.one _ _ _) (one1 _) ?d4 ?d5 ?d6 ?_)
          any_goals (first | omega | (simp; done) | (simp only [List.length_cons, List.length_nil]; omega) | (simp; omega))
          intro v' w' hown hbel
          have HO := Lib.hid (And.intro hown hbel)
          clear hown hbel
          go_wp2
          go_roundw
          case rel => exact ⟨k + 1, by omega, by go_num, by rw [HNn.out, HY.out], Lib.hid ⟨by rw [HSn.out, HY.out, List.map_append]; exact HO.out.1, Below.trans (H.out.2.alloc _) HO.out.2⟩⟩
          case measure => simp [intOf]; omega
        · clear hin
          go_wp2_with (at_builtin; refine app_own eiInt rfl _ _ rfl W.heap.size _ (k + 1) _ rfl (H.out.1.alloc _) _ _ _ rfl (VS.one _ _ _) (one1 _) ?d7 ?d8 ?d9 ?_)
          any_goals (first | omega | (simp; done) | (simp only [List.length_cons, List.length_nil]; omega) | (simp; omega))
          intro v' w' hown hbel
          have HO := Lib.hid (And.intro hown hbel)
          clear hown hbel
          go_wp2
          go_roundw
          case rel => exact ⟨k + 1, by omega, by go_num, by rw [HNn.out, HY.out], Lib.hid ⟨by rw [HSn.out, HY.out, List.map_append]; exact HO.out.1, Below.trans (H.out.2.alloc _) HO.out.2⟩⟩
          case measure => simp [intOf]; omega
    · obtain rfl : M = k := by omega
      have hm15 := HMn.out
      have hof := HOf.out
      have hsc := HSc.out M
      have hln := HLn.out M
      have hl : ¬ ((M : Int) < n ∧ (M : Int) < 15) := by omega
      have hX := HBd.out M
      have HX := Lib.hid H.out.2
      obtain ⟨cA, hI⟩ := IS.of_own (k := .i64) H.out.1
      obtain ⟨aA, nA, cA', hv, hnA, hcA, hI2⟩ := hI.out
      rw [hln] at hnA
      have hcc : cA' = cA := hcA
      subst hcc
      subst hnA
      subst hv
      have HI2 := Lib.hid hI2
      by_cases hp : M % 2 = 0
      · rw [if_pos hp] at hof
        have hp2 : (((M : Int) + 1) % 2 == 1) = true := by rw [beq_iff_eq]; omega
        have HOf2 := Lib.hid hof
        clear hof hsc hln hI hI2
        by_cases hq : M < n
        · exfalso; omega
        · have q1 : ¬ (M : Int) < n := by omega
          clear hl hq hm15
          go_wp2_with (at_builtin; refine app_own eiInt rfl _ _ rfl W.heap.size _ (M + 1) _ rfl (H.out.1.alloc _) _ _ _ rfl (VS.one _ _ _) (one1 _) ?h14 ?h15 ?h16 ?_)
          any_goals (first | omega | (simp; done) | (simp only [List.length_cons, List.length_nil]; omega) | (simp; omega))
          intro v' w' hown hbel
          have hfin : ∃ c, IS .i64 w' v' c (oof f st) := by
            rw [HOf2.out]
            refine IS.of_own (k := .i64) (n := M + 2) (e := 3) (B := W.heap.size) ?_
            rw [List.map_append]; exact hown
          obtain ⟨cf, hfin⟩ := hfin
          have HF := Lib.hid (show RetX .i64 w (oof f st) (.returned v') w' from ⟨v', cf, rfl, hfin, XW.out.trans (Below.trans (HX.out.alloc _) hbel)⟩)
          clear hown hbel hfin
          go_wp2
          go_ret
          exact HF.out
      · rw [if_neg hp, List.append_nil] at hof
        have hp2 : (((M : Int) + 1) % 2 == 1) = false := by rw [beq_eq_false_iff_ne]; omega
        have HOf2 := Lib.hid hof
        clear hof hsc hln hI hI2
        by_cases hq : M < n
        · have q1 : (M : Int) < n := by omega
          have q2 : ¬ (M : Int) < 15 := by omega
          clear hl hq hm15
          have HF := Lib.hid (show RetX .i64 w (oof f st) (.returned (.slice aA (M + 1) cA')) wr from by rw [HOf2.out]; exact ⟨_, cA', rfl, HI2.out, XW.out.trans HX.out⟩)
          go_wp2
          go_ret
          exact HF.out
        · have q1 : ¬ (M : Int) < n := by omega
          clear hl hq hm15
          have HF := Lib.hid (show RetX .i64 w (oof f st) (.returned (.slice aA (M + 1) cA')) wr from by rw [HOf2.out]; exact ⟨_, cA', rfl, HI2.out, XW.out.trans HX.out⟩)
          go_wp2
          go_ret
          exact HF.out
end Go.Proofs.YtinijapkipeamaaDoor
