/- charts.Widths. -/
import Derived.Test.YtinijapkipeamaaDoorSh
namespace Go.Proofs.YtinijapkipeamaaDoor
set_option linter.unusedVariables false
set_option linter.unusedSimpArgs false
set_option maxRecDepth 8000
open Go Go.RowKit

/-- The numbers of slots. -/
def wds (rows : List (List St)) : List Int := if rows = [] then [] else rneed (sw rows 0) :: rows.map rmake
theorem wds_len {rows : List (List St)} (h : 0 < rows.length) : (wds rows).length = rows.length + 1 := by
  unfold wds; rw [if_neg (fun e => by rw [e] at h; simp at h)]; simp
theorem wds_zero {rows : List (List St)} (h : 0 < rows.length) : gi (wds rows) 0 = rneed (sw rows 0) := by
  unfold wds; rw [if_neg (fun e => by rw [e] at h; simp at h)]; rfl
theorem wds_succ {rows : List (List St)} {i : Nat} (h : i < rows.length) : gi (wds rows) (i + 1) = rmake (sw rows i) := by
  unfold wds; rw [if_neg (fun e => by rw [e] at h; simp at h), gi_cons_succ, gi_of_lt (by simpa using h), sw_of_lt h]; simp
/-- The first k + 1 numbers are laid. -/
def WL (w wr : World) (g n k : Nat) (rows : List (List St)) : Prop := Ext w wr ∧ w.heap.size ≤ g ∧ ∃ f, wr.rowIs g 3 n f ∧ ∀ i, i ≤ k → f i = .int .i64 (gi (wds rows) i)
set_option maxHeartbeats 2000000 in
theorem Widths_calls (v : Value) (c : Nat) (rows : List (List St)) (w : World) (h : RR w v c rows) (hb : ∀ i, i < rows.length → (sw rows i).length ≤ 1000) (hl : rows.length ≤ 1000) :
    Calls Tryd.prog 27 #[.agg #[v]] w (RetX .i64 w (wds rows)) := by
  obtain ⟨ao, n, rfl, hn, hc, hcm, hat⟩ := h.open
  obtain ⟨W, hW⟩ : ∃ W, W = w.alloc (.cells #[.slice ao n c] 26) := ⟨_, rfl⟩
  have xW : Ext w W := by rw [hW]; exact (Ext.refl w).alloc _
  have b0 : W.cell? ⟨w.heap.size, 0, none⟩ = some (.slice ao n c) := by rw [hW, World.cell?_alloc_at (hn := rfl)]; rfl
  have HBx := Lib.hid (fun w' (x : Ext W w') => x.cell b0); have XW := Lib.hid xW
  unfold maxLen at hcm
  by_cases hn0 : n = 0
  · have hr : rows = [] := List.eq_nil_of_length_eq_zero (by omega)
    have hw : wds rows = [] := by unfold wds; rw [if_pos hr]
    rw [hw]
    rw [hW] at b0
    clear hat hb hr hw hn h
    subst hn0
    go_enter Tryd.func27, Tryd.ntmps27
    go_wp2
    go_ret
    exact ⟨_, 0, rfl, IS.nil _ _, (Ext.refl w).alloc _⟩
  have hnz : ((n : Int) == 0) = false := beq_eq_false_iff_ne.2 (by omega)
  have hwl := wds_len (rows := rows) (by omega)
  have hw0 := wds_zero (rows := rows) (by omega)
  have hws := fun i (hi : i < n) => wds_succ (rows := rows) (i := i) (by omega)
  have hN := fun w' v c (h : RS w' v c (sw rows 0)) => CNeeds_calls v c (sw rows 0) w' h (by have := hb 0 (by omega); omega)
  have hM := fun i (hi : i < n) w' v c (h : RS w' v c (sw rows i)) => CMakes_calls v c (sw rows i) w' h (by have := hb i (by omega); omega)
  have hmk := fun w' => run_make_lc (P := Tryd.prog) eiInt .i64 .i64 (n + 1) (n + 1) (by omega) (by omega) (by omega) w'
  rw [show ((n + 1 : Nat) : Int) = 1 + (n : Int) by omega] at hmk
  have wz : IntKind.i64.wrap (1 + (n : Int)) = 1 + (n : Int) := IntWalk.i64_in _ ⟨by omega, by omega⟩
  have HA := Lib.hid hat; have HWl := Lib.hid hwl; have HW0 := Lib.hid hw0; have HWs := Lib.hid hws; have HNe := Lib.hid hN; have HMa := Lib.hid hM; have HMk := Lib.hid (hmk W); have Hn := Lib.hid hn
  obtain ⟨b, o, a, m, d, rfl, hc0, hr0⟩ := hat 0 (by omega)
  have hc0W := xW.cell hc0
  rw [Nat.add_zero] at hc0W
  have hcl := hN (W.alloc (.cells (madeCells #[.int .i64 0] (n + 1)) 3)) _ _ (hr0.ext (xW.alloc _))
  have HCl := Lib.hid hcl
  have hn1 : (0 : Int) < n := by omega
  have hmW := hmk W
  have hn2 : n ≤ 1000 := by omega
  clear hb hwl hw0 hws hN hM hmk hcl h hat hn hr0 hl hn0
  have b0' := b0
  rw [hW] at b0' hmW
  obtain ⟨Wm, hWm⟩ : ∃ Wm, Wm = W.alloc (.cells (madeCells #[.int .i64 0] (n + 1)) 3) := ⟨_, rfl⟩
  have xm : Ext W Wm := by rw [hWm]; exact (Ext.refl W).alloc _
  have hcc := xm.cell hc0W
  have hbb := xm.cell b0
  have hst : WL W Wm W.heap.size (n + 1) 0 rows → True := fun _ => trivial
  have hrow : Wm.rowIs W.heap.size 3 (n + 1) (fun _ => .int .i64 0) := by rw [hWm]; exact World.rowIs_made W (.int .i64 0) (n + 1) _
  rw [← hWm] at HCl
  have hWs : W.heap.size = w.heap.size + 1 := by rw [hW]; simp
  have HRow := Lib.hid hrow; have HWm := Lib.hid hWm; have HW := Lib.hid hW; have Xm := Lib.hid xm; have HWs2 := Lib.hid hWs
  rw [hWm, hW] at hcc hbb
  clear hst hrow hWm hW xm xW b0 hc0W hc0 hWs
  go_enter Tryd.func27, Tryd.ntmps27
  go_wp2_with fail
  rw [← HW.out, ← HWm.out]
  refine HCl.out.mono ?_
  rintro e w1 ⟨rfl, x1⟩
  have X1 := Lib.hid (Xm.out.trans x1)
  have hr1 := x1.row HRow.out
  obtain ⟨g, hg⟩ : ∃ g, g = w.heap.size + 1 := ⟨_, rfl⟩
  rw [HWs2.out, ← hg] at hr1
  have hc1 := hr1.cell (i := 0) (by omega)
  have hf1 := hr1.frozen 0
  have hwg : W.heap.size ≤ g := by rw [hg, HWs2.out]; omega
  have hb1 := HBx.out _ X1.out
  have HN0 := Lib.hid (show WL W (w1.setCell ⟨g, 0, none⟩ (.int .i64 (rneed (sw rows 0)))) g (n + 1) 0 rows from ⟨X1.out.setCell hwg _, hwg, _, hr1.set 0 _, fun i hi => by
    obtain rfl : i = 0 := by omega
    rw [HW0.out]; exact if_pos rfl⟩)
  have hb2 := HBx.out _ HN0.out.1
  have tn : (0 : Int) < (n : Int) + 1 := by omega
  rw [← hg]
  clear hr1 x1 HCl hbb hcc hmW HRow b0' hg
  go_wp2
  clear hc1 hf1 hb1 hb2
  go_loopw [4, 5, 25] (fun _ _ i wr => ∃ k : Nat, k ≤ n ∧ i = .int .i64 k ∧ Hid (WL W wr g (n + 1) k rows)) (fun _ _ i _ => n - (intOf i).toNat)
  case atStart => exact ⟨0, Nat.zero_le _, rfl, HN0⟩
  case round =>
    obtain ⟨k, hk, rfl, H⟩ := hrel
    by_cases hlt : k < n
    · obtain ⟨b', o', a', m', d', hbo, hc0, hr0⟩ := HA.out k hlt
      obtain ⟨rfl, rfl⟩ : b = b' ∧ o = o' := by simpa using hbo
      replace hc0 := (XW.out.trans H.out.1).cell hc0
      have hcl := HMa.out k hlt wr _ _ (hr0.ext (XW.out.trans H.out.1))
      have HCl := Lib.hid hcl
      have hws := HWs.out k hlt
      have w1' : IntKind.i64.wrap ((k : Int) + 1) = (k : Int) + 1 := IntWalk.i64_in _ ⟨by omega, by omega⟩
      have k1 : (k : Int) + 1 < (n : Int) + 1 := by omega
      have k2 : (0 : Int) ≤ (k : Int) + 1 := by omega
      have k3 : ((k : Int) + 1).toNat = k + 1 := by omega
      have HWk := Lib.hid hws
      generalize rmake (sw rows k) = R at HCl HWk
      clear hcl hws hr0 hbo
      go_wp2_with fail
      refine HCl.out.mono ?_
      rintro e w2 ⟨rfl, x2⟩
      obtain ⟨h1, h2, f, h3, h4⟩ := H.out
      have h5 := x2.row h3
      have hc1 := h5.cell (i := k + 1) (by omega)
      have hf1 := h5.frozen (k + 1)
      have HN := Lib.hid (show WL W (w2.setCell ⟨g, k + 1, none⟩ (.int .i64 R)) g (n + 1) (k + 1) rows from ⟨(h1.trans x2).setCell h2 _, h2, _, h5.set (k + 1) _, fun i hi => by
        by_cases e : i = k + 1
        · subst e; rw [HWk.out]; exact if_pos rfl
        · rw [← h4 i (by omega)]; exact if_neg e⟩)
      clear h1 h2 h3 h4 h5 x2 hc0 HCl
      go_wp2
      go_roundw
      case rel => exact ⟨k + 1, by omega, by go_num, HN⟩
      case measure => simp [intOf]; omega
    · obtain rfl : n = k := by omega
      obtain ⟨h1, h2, f, h3, h4⟩ := H.out
      have hi := IS.of_row (k := .i64) (xs := wds rows) h3 (by rw [HWl.out, ← Hn.out]) (by unfold maxLen; omega) (fun i hi => h4 i (by omega))
      have HF := Lib.hid (show RetX .i64 w (wds rows) (.returned (.slice (some ⟨g, 0, none⟩) (n + 1) (n + 1))) wr from ⟨_, _, rfl, hi, XW.out.trans h1⟩)
      clear h1 h2 h3 h4 hi hlt
      go_wp2
      go_ret
      exact HF.out
end Go.Proofs.YtinijapkipeamaaDoor
