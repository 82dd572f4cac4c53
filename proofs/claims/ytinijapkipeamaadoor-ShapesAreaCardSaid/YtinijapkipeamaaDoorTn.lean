/- shapes.Chart: the charts of outlines. -/
import Derived.Test.YtinijapkipeamaaDoorTm
namespace Go.Proofs.YtinijapkipeamaaDoor
set_option linter.unusedVariables false
set_option linter.unusedSimpArgs false
set_option maxRecDepth 8000
open Go Go.RowKit

/-- The charts so far. -/
def CSx (B wr : World) (R N k : Nat) (rows : Nat → List St) : Prop := ∃ q cp, CS B wr R N k rows q cp

theorem endF_enter (m : Int) (args : Array Value) (w : World) : (callFunc (endF m) args).run Tryd.prog w = .ok (.enter (endF m) args) w := by
  unfold endF
  split
  · exact (by simp [callFunc, go_sem, Tryd.func47, show (Tryd.f47.name = "runtime.NumGoroutine") = False from eq_false (by decide), show (Tryd.f47.body = none) = False from eq_false (fun h => by cases h)])
  split
  · exact (by simp [callFunc, go_sem, Tryd.func48, show (Tryd.f48.name = "runtime.NumGoroutine") = False from eq_false (by decide), show (Tryd.f48.body = none) = False from eq_false (fun h => by cases h)])
  · exact (by simp [callFunc, go_sem, Tryd.func46, show (Tryd.f46.name = "runtime.NumGoroutine") = False from eq_false (by decide), show (Tryd.f46.body = none) = False from eq_false (fun h => by cases h)])
set_option maxHeartbeats 4000000 in
theorem Chart_ok (v : Value) (c : Nat) (l : List Int) (y : Int) (w : World) (h : IS .i64 w v c l) (hy : 1 ≤ y ∧ y ≤ 6) (he : oerr l = 0) : Calls Tryd.prog 12 #[v, .int .u8 y] w (RetCE w (chartOf l y) 0) := by
  have hck := fun w' (x : Ext w w') => HCheck_calls v c l w' (h.ext x)
  rw [he] at hck
  obtain ⟨z1, z2, z3, z4, z5⟩ := oerr_zero he
  obtain ⟨ao, n, c', rfl, hn, rfl, hIS⟩ := h.out
  obtain ⟨B, hB⟩ : ∃ B, B = w.alloc (.cells #[.slice none 0 0] 26) := ⟨_, rfl⟩
  have hbx := fun (w' : World) (x : Ext B w') => x.block (show B.heap[w.heap.size]? = some (.cells #[.slice none 0 0] 26 (0, 0)) by rw [hB]; exact Deep.blk_alloc_new _ _)
  have hxB : Ext w B := by rw [hB]; exact (Ext.refl w).alloc _
  obtain ⟨N, hN⟩ : ∃ N, n = N + 1 := ⟨n - 1, by omega⟩
  have hlen : (chartOf l y).length = N := by rw [chartOf_len]; omega
  have hsw : ∀ i, i < N → sw (chartOf l y) i = (shR (gi l i).toNat i (gi l (i + 1) - gi l i)).map (sty y) := fun i hi => chartOf_sw (by omega)
  have hrow : ∀ k, k < N → ∀ w', Calls Tryd.prog (endF (gi l (k + 1) - gi l k)) #[.int .i64 (gi l k), .bool (endL k (gi l (k + 1) - gi l k)), .bool (endR k (gi l (k + 1) - gi l k))] w' (RetRO w' (shR (gi l k).toNat k (gi l (k + 1) - gi l k))) := fun k hk w' => by
    have a := z4 k (by omega); have b := z4 (k + 1) (by omega); have d := z5 k (by omega)
    have := build_calls (gi l k).toNat k (gi l (k + 1) - gi l k) w' (by omega) d (by omega)
    rwa [show ((gi l k).toNat : Int) = gi l k by omega] at this
  have hend := fun k (hk : k < N) (w' : World) => ends_calls k (gi l (k + 1) - gi l k) w' (by omega)
  have hrl : ∀ k, k < N → (shR (gi l k).toNat k (gi l (k + 1) - gi l k)).length ≤ 16 := fun k hk => by
    have := (chartOf_facts he hy k (by omega)).1
    rw [hsw k hk, List.length_map] at this
    have a := z4 (k + 1) (by omega); omega
  have hfin : ∀ w' R, CSx B w' R N N (fun i => sw (chartOf l y) i) → RetCE w (chartOf l y) 0 (.returned (.tuple #[.agg #[.slice (some ⟨R, 0, none⟩) N N], .int .i64 0])) (w'.setCell ⟨w.heap.size, 0, none⟩ (.slice (some ⟨R, 0, none⟩) N N)) := fun w' R ⟨q, cp, hc⟩ => by
    refine ⟨_, rfl, ?_, (hxB.trans hc.x).setCell (Nat.le_refl _) _⟩
    have hlt : w.heap.size < B.heap.size := by rw [hB]; simp
    have h2 : CS w (w'.setCell ⟨w.heap.size, 0, none⟩ (.slice (some ⟨R, 0, none⟩) N N)) R N N (fun i => sw (chartOf l y) i) q cp := by
      obtain ⟨p1, p2, p3, ⟨f, p4, p5⟩, p6, p7⟩ := hc
      refine ⟨(hxB.trans p1).setCell (Nat.le_refl _) _, by omega, p3, ⟨f, p4.setOther (by simp only []; omega) _, p5⟩, fun i hi => ?_, p7⟩
      obtain ⟨r1, r2, r3⟩ := p6 i hi
      exact ⟨r1.setOther (by simp only []; omega) _, by omega, r3⟩
    have := h2.rr
    rw [sw_range hlen (fun i hi => rfl)] at this
    rw [hlen]; exact this
  have z1' : N ≤ 31 := by omega
  have z4' : ∀ i, i ≤ N → 2 ≤ gi l i ∧ gi l i ≤ 16 := fun i hi => z4 i (by omega)
  have z5' : ∀ i, i < N → -2 ≤ gi l (i + 1) - gi l i ∧ gi l (i + 1) - gi l i ≤ 2 := fun i hi => z5 i (by omega)
  have hIB := hIS.ext hxB
  have hmk := run_make_lc (P := Tryd.prog) eiRows .i64 .i64 N N (by omega) (by omega) (by omega)
  have h1 : ∃ w1 : World, w1 = B := ⟨_, rfl⟩
  have hck2 := hck B hxB
  have HK := Lib.hid hck2; have HBx := Lib.hid hbx; have HF := Lib.hid hfin; have HRow := Lib.hid hrow; have HEnd := Lib.hid hend; have HSw := Lib.hid hsw; have HRl := Lib.hid hrl; have H4 := Lib.hid z4'; have H5 := Lib.hid z5'; have HI := Lib.hid hIB; have HMk := Lib.hid hmk
  rw [hN] at HI
  have w0 : IntKind.i64.wrap ((N : Int) + 1 - 1) = N := by rw [show (N : Int) + 1 - 1 = N by omega]; exact IntWalk.i64_in _ ⟨by omega, by omega⟩
  have hn1 : ((N + 1 : Nat) : Int) = (N : Int) + 1 := by omega
  obtain ⟨y1, y2⟩ := hy
  subst hN
  clear hck hbx hfin hrow hend hsw hrl z4' z5' hIB hmk hck2 z1 z2 z3 z4 z5 h hIS he hlen hn h1
  go_enter Tryd.func12, Tryd.ntmps12
  go_wp2_with fail
  rw [← hB]
  refine HK.out.mono ?_
  rintro e w1 ⟨rfl, x1⟩
  have X1 := Lib.hid x1
  have hm := HMk.out w1
  clear x1 HMk HK
  go_wp2
  clear hm
  obtain ⟨R, hR⟩ : ∃ R, R = w1.heap.size := ⟨_, rfl⟩
  have hst : CSx B (w1.alloc (.cells (madeCells #[.slice none 0 0] N) 48)) R N 0 (fun i => sw (chartOf l y) i) :=
    ⟨fun _ => 0, fun _ => 0, CS.start (X1.out.alloc _) (by rw [hR]; exact X1.out.size) (by unfold maxLen; omega) (by rw [hR]; exact World.rowIs_made w1 (.slice none 0 0) N _)⟩
  have HST := Lib.hid hst
  rw [← hR]
  clear hst hR
  go_loopw [8, 9, 10, 11, 12, 32] (fun _ _ _ _ _ i wr => ∃ k : Nat, k ≤ N ∧ i = .int .i64 k ∧ Hid (CSx B wr R N k (fun i => sw (chartOf l y) i))) (fun _ _ _ _ _ i _ => N - (intOf i).toNat)
  case atStart => exact ⟨0, Nat.zero_le _, rfl, HST⟩
  case round =>
    obtain ⟨k, hk, rfl, HC⟩ := hrel
    clear HST
    by_cases hlt : k < N
    · obtain ⟨q, cp, hC⟩ := HC.out
      obtain ⟨b, o, rfl, hc1⟩ := HI.out.at (show k + 1 < N + 1 by omega)
      obtain ⟨b', o', hbo, hc2⟩ := HI.out.at (show k < N + 1 by omega)
      obtain ⟨rfl, rfl⟩ : b = b' ∧ o = o' := by simpa using hbo
      replace hc1 := hC.x.cell (hc1 (k + 1) (by omega)); replace hc2 := hC.x.cell (hc2 k (by omega))
      have HCI := Lib.hid (fun w' (x : Ext wr w') => x.cell hc2)
      have g1 := H4.out k (by omega)
      have g2 := H4.out (k + 1) (by omega)
      have g3 := H5.out k hlt
      have hr := HRow.out k hlt
      have hap := HEnd.out k hlt
      have hl16 := HRl.out k hlt
      have hent := endF_enter (gi l (k + 1) - gi l k)
      have hsk := HSw.out k hlt
      obtain ⟨L, hL⟩ : ∃ L, L = shR (gi l k).toNat k (gi l (k + 1) - gi l k) := ⟨_, rfl⟩
      rw [← hL] at hr hl16 hsk
      generalize gi l k = x at *
      generalize gi l (k + 1) = z at *
      generalize hm : z - x = m at hap hr g3 hent
      generalize endR k m = r at hap hr
      generalize endF m = F at hap hr hent
      generalize endL k m = e0 at hap hr
      have HAp := Lib.hid hap; have HRo := Lib.hid hr; have HSk := Lib.hid hsk; have HCC := Lib.hid hC
      have t1 : (0 : Int) ≤ (k : Int) + 1 := by omega
      have t2 : ((k : Int) + 1).toNat = k + 1 := by omega
      have t3 : (k : Int) + 1 < (N : Int) + 1 := by omega
      have t4 : IntKind.i64.wrap ((k : Int) + 1) = (k : Int) + 1 := IntWalk.i64_in _ ⟨by omega, by omega⟩
      have t5 : (k : Int) < (N : Int) + 1 := by omega
      have t7 : (0 : Int) ≤ (k : Int) := by omega
      have t8 : IntKind.i64.wrap (z - x) = m := by rw [hm]; exact IntWalk.i64_in _ ⟨by omega, by omega⟩
      clear hap hr hsk hC HC hbo hL hm
      go_wp2
      go_quiet ((go_at_call 33; exact Calls.quiet_of_same ((HAp.out _).mono fun _ _ ⟨he, hw⟩ => ⟨he, hw.symm⟩)))
      clear hc1 t1 t2 t3 t4 t8
      go_wp2_with fail
      refine (HRo.out _).mono ?_
      rintro e w2 ⟨g, cc, m2, rfl, hm2, hg, hro, hx⟩
      have x2 : Ext wr w2 := ((Ext.refl wr).drewN _).trans hx
      have hgs : wr.heap.size ≤ g := hg
      have hC2 := HCC.out.later x2
      have hRlt := HCC.out.lt
      have hql := fun i (hi : i < k) => (HCC.out.ro i hi).1.lt
      have hBs := HCC.out.x.size
      obtain ⟨vk, hvk⟩ := hC2.ex hlt
      have hfk := hC2.frozen k
      have hC3 := hC2.put hlt hro (by omega) (by omega) (fun i hi => by have := hql i hi; omega)
      have hgo : cp = cp := rfl
      rw [← hm2] at hC3
      rw [← hm2] at hl16
      obtain ⟨w3, hw3⟩ : ∃ w3, w3 = w2.setCell ⟨R, k, none⟩ (.slice (some ⟨g, 0, none⟩) m2 cc) := ⟨_, rfl⟩
      rw [← hw3] at hC3
      have hcR : ∀ w' rows' , CS B w' R N (k + 1) rows' (up q k g) (up cp k cc) → (rows' k).length = m2 → w'.cell? ⟨R, k, none⟩ = some (.slice (some ⟨g, 0, none⟩) m2 cc) := fun w' rows' hc hl => by
        have := hc.cell (i := k) (by omega) (by omega)
        rwa [up_at, up_at, hl] at this
      have hr3 := hcR w3 _ hC3 (by rw [up_at, hm2])
      have HC3 := Lib.hid hC3; have HcR := Lib.hid hcR; have HM := Lib.hid hm2; have HW3 := Lib.hid hw3
      have hq3 := (hC2.r0)
      clear hm2 hro hx hg x2 hC2 hC3 hcR hql hBs hgo hRlt hgs HCC hc2 HCI HAp HRo hent g1 g2 g3 t5 hq3
      rw [hw3] at hr3
      go_wp2
      rw [← HW3.out] at hr3 ⊢
      clear hr3 hvk hfk HW3
      have HST := Lib.hid (show CS B w3 R N (k + 1) (up (fun i => sw (chartOf l y) i) k (yl L y 0)) (up q k g) (up cp k cc) by rw [yl_zero]; exact HC3.out)
      clear HC3
      go_loopw [12, 67] (fun _ i ws => ∃ j : Nat, j ≤ m2 ∧ i = .int .i64 j ∧ Hid (CS B ws R N (k + 1) (up (fun i => sw (chartOf l y) i) k (yl L y j)) (up q k g) (up cp k cc))) (fun _ i _ => m2 - (intOf i).toNat)
      case atStart => exact ⟨0, Nat.zero_le _, rfl, HST⟩
      case round =>
        obtain ⟨j, hj, rfl, HJ⟩ := hrel
        clear HST
        by_cases hjl : j < m2
        · have hL := HM.out
          have c1 := HcR.out _ _ HJ.out (by rw [up_at, yl_len, hL])
          have hro := (HJ.out.ro k (by omega)).1
          rw [up_at, up_at, up_at] at hro
          obtain ⟨v5, hv5⟩ := hro.shapeCell (o := j * 5 + 1) (by have := hro.1; rw [yl_len] at this; omega)
          have hf5 := hro.frozen (j * 5 + 1)
          have hset := hro.sety (i := j) (by rw [yl_len]; omega) y
          rw [yl_succ (by omega)] at hset
          have hq : (up q k g) k = g := up_at _ _ _
          have hC4 := HJ.out.set (j := k) (o := j * 5 + 1) (v := .int .u8 y) (l' := yl L y (j + 1)) (by omega) (by rw [up_at, up_at]; exact hset) (by rw [up_at, yl_len, yl_len])
          rw [up_at] at hC4
          have HC4 := Lib.hid (hC4.congr (rows' := up (fun i => sw (chartOf l y) i) k (yl L y (j + 1))) (fun i _ => by
            by_cases e : i = k
            · subst e; rw [up_at, up_at]
            · rw [up_ne _ _ e, up_ne _ _ e, up_ne _ _ e]))
          clear hro hset hq hC4 hL
          go_wp2
          go_roundw
          case rel => exact ⟨j + 1, by omega, by go_num, HC4⟩
          case measure => simp [intOf]; omega
        · obtain rfl : m2 = j := by omega
          have HD := Lib.hid (show CSx B wr R N (k + 1) (fun i => sw (chartOf l y) i) from ⟨_, _, HJ.out.congr (rows' := fun i => sw (chartOf l y) i) (fun i _ => by
            by_cases e : i = k
            · subst e; rw [up_at, HM.out, yl_all]; exact HSk.out.symm
            · rw [up_ne _ _ e])⟩)
          clear HJ HcR
          go_wp2
          go_roundw
          case rel => exact ⟨k + 1, by omega, by go_num, HD⟩
          case measure => simp [intOf]; omega
    · obtain rfl : N = k := by omega
      have b0 := HBx.out wr HC.out.choose_spec.choose_spec.x
      have b1 : wr.cell? ⟨w.heap.size, 0, none⟩ = some (.slice none 0 0) := by simp [World.cell?, b0]
      have b2 : wr.frozen? ⟨w.heap.size, 0, none⟩ = false := by simp [World.frozen?, b0]
      have HFi := Lib.hid (HF.out _ _ HC.out)
      clear b0
      go_wp2
      exact bodyPost_ret (v := .tuple #[.agg #[.slice (some ⟨R, 0, none⟩) N N], .int .i64 0]) (by simp [results, Tryd.results12, go_sem, World.cell?_setCell_same, *]) rfl HFi.out
theorem Chart_calls (v : Value) (c : Nat) (l : List Int) (y : Int) (w : World) (h : IS .i64 w v c l) (hy : 0 ≤ y ∧ y ≤ 255) : Calls Tryd.prog 12 #[v, .int .u8 y] w (RetCE w (chres l y) (cherr l y)) := by
  by_cases he : cherr l y = 0
  · have h1 : oerr l = 0 ∧ 1 ≤ y ∧ y ≤ 6 := by
      unfold cherr at he
      by_cases a : oerr l ≠ 0
      · rw [if_pos a] at he; exact absurd he a
      · rw [if_neg a] at he
        by_cases b : y < 1 ∨ 6 < y
        · rw [if_pos b] at he; omega
        · exact ⟨by omega, by omega, by omega⟩
    have := Chart_ok v c l y w h h1.2 h1.1
    unfold chres; rw [if_pos he, he]; exact this
  · have := Chart_bad v c l y w h hy he
    unfold chres; rw [if_neg he]; exact this
end Go.Proofs.YtinijapkipeamaaDoor
