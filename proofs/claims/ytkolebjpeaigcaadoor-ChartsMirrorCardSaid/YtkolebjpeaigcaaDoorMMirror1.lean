/- Texts of this claim in one file: libraries and walks. -/
import Derived.Test.YtkolebjpeaigcaaDoorMMirror0
/- The law ChartsMirror, walked. -/
namespace Go.Proofs.YtkolebjpeaigcaaDoor
set_option linter.unusedVariables false
set_option linter.unusedSimpArgs false
set_option maxRecDepth 8000
open Go Go.RowKit

/-- The mirror image, with a chosen length. -/
theorem CMirror2_calls (v : Value) (c n : Nat) (rows : List (List St)) (w : World) (h : RR w v c rows) (hn : n = rows.length) (hl : rows.length ≤ 1000) (hb : ∀ i, i < rows.length → (sw rows i).length ≤ 1000) :
    Calls Tryd.prog 30 #[.agg #[v]] w fun e w' => ∃ a, e = .returned (.agg #[.slice a n n]) ∧ RR w' (.slice a n n) n (mirC rows) ∧ Ext w w' :=
  (CMirror_calls v c rows w h hl hb).mono fun e w' ⟨v', h1, h2, h3⟩ => by
    subst hn
    obtain ⟨a, n', rfl, hn', _⟩ := h2.open
    rw [mirC_len] at hn' h1 h2
    subst hn'
    exact ⟨a, h1, h2, h3⟩
theorem At5c {w : World} {b o : Nat} {s : St} (h : At5 w b o s) : w.cell? ⟨b, o, none⟩ = some (.int .u8 s.k) ∧ w.cell? ⟨b, o + 1, none⟩ = some (.int .u8 s.y) ∧ w.cell? ⟨b, o + 2, none⟩ = some (.int .i64 s.a) ∧ w.cell? ⟨b, o + 3, none⟩ = some (.int .i64 s.b) ∧ w.cell? ⟨b, o + 4, none⟩ = some (.bool s.f) := h

set_option maxHeartbeats 8000000 in
theorem ChartsMirror_walk (v : Value) (c : Nat) (rows : List (List St)) (w : World) (h : RR w v c rows) (hy : Sy w) (hm : Mx w) :
    Calls Tryd.prog 8 #[.agg #[v]] w fun e w' => e = .returned (.bool true) ∧ Ext w w' := by
  have k1 := fun w' (x : Ext w w') => small_calls v c rows w' (h.ext x)
  have k3 := fun w' (x : Ext w w') => CCheck_calls v c rows w' (h.ext x)
  have k4 := fun w' v2 c2 m (x : Ext w w') (r : RR w' v2 c2 m) => CCheck_calls v2 c2 m w' r
  have k6 := fun w' (x : Ext w w') => lives13_calls w' (hy.ext x) (hm.ext x)
  have k7 := fun w' v2 c2 (x : Ext w w') (r : RR w' v2 c2 rows) => Differ_calls v2 v c2 c rows rows w' r (h.ext x)
  have k8 := fun w' v2 c2 (x : Ext w w') (r : RR w' v2 c2 rows) => CSame_calls v2 v c2 c rows rows w' r (h.ext x)
  rw [decide_eq_true (rfl : rows = rows)] at k8
  rw [show dif rows rows = 0 from if_pos rfl] at k7
  have hs1 := sml_cases rows
  have hsb := sml_one (rows := rows)
  have k2 := fun (hs : sml rows ≠ 0) (n : Nat) (hn : n = rows.length) w' (x : Ext w w') => CMirror2_calls v c n rows w' (h.ext x) hn (by have := (hsb hs).1; omega) (fun i hi => by have := (hsb hs).2 i hi; omega)
  have k9 := fun (hs : sml rows ≠ 0) (n : Nat) (hn : n = rows.length) w' v2 c2 (r : RR w' v2 c2 (mirC rows)) => CMirror2_calls v2 c2 n (mirC rows) w' r (by rw [mirC_len]; exact hn) (by rw [mirC_len]; have := (hsb hs).1; omega) (fun i hi => by rw [mirC_len] at hi; rw [mirC_sw hi, mirR_len]; have := (hsb hs).2 i hi; omega)
  rw [mirC_mirC] at k9
  have k5 := fun w' v2 c2 (r : RR w' v2 c2 (mirC rows)) => CCheck_calls v2 c2 (mirC rows) w' r
  rw [mir_err] at k5
  obtain ⟨a1, n, rfl, hn, hc, hcm, hat⟩ := h.open
  unfold maxLen at hcm
  obtain ⟨W, hW⟩ : ∃ W, W = w.alloc (.cells #[.slice a1 n c] 27) := ⟨_, rfl⟩
  have xW : Ext w W := by rw [hW]; exact (Ext.refl w).alloc _
  have b1 : W.heap[w.heap.size]? = some (.cells #[.slice a1 n c] 27 (0, 0)) := by rw [hW]; exact blk_at rfl
  have d1 : W.cell? ⟨w.heap.size, 0, none⟩ = some (.slice a1 n c) := by simp [World.cell?, b1]
  have HD1 := Lib.hid (fun w' (x : Ext W w') => x.cell d1)
  have XW := Lib.hid xW; have HW := Lib.hid hW; have Hn := Lib.hid hn; have HA := Lib.hid hat; have HR := Lib.hid h
  have K1 := Lib.hid k1; have K3 := Lib.hid k3; have K6 := Lib.hid k6; have K7 := Lib.hid k7; have K8 := Lib.hid k8; have K5 := Lib.hid k5
  have HS := Lib.hid hsb; have K2 := Lib.hid k2; have K9 := Lib.hid k9
  rw [hW] at d1
  clear k1 k2 k3 k4 k5 k6 k7 k8 k9 h hy hm xW hW b1 hat hsb hn
  generalize (cloads rows).1 = E at *
  obtain ⟨S1, hS1⟩ : ∃ S1, S1 = sml rows := ⟨_, rfl⟩
  rw [← hS1] at hs1 K1
  have HS1 := Lib.hid hS1
  clear hS1
  go_enter Tryd.func8, Tryd.ntmps8
  go_wp2_with fail
  rw [← HW.out]
  refine (K1.out _ XW.out).mono ?_
  rintro e w1 ⟨rfl, x1⟩
  have X1 := Lib.hid x1
  have e1 := HD1.out _ x1
  clear x1 d1 HW
  rcases hs1 with rfl | rfl
  · go_wp2
    go_ret
    exact ⟨rfl, XW.out.trans X1.out⟩
  · have hz : sml rows ≠ 0 := by rw [← HS1.out]; decide
    have K2b := Lib.hid (K2.out hz n Hn.out); have K9b := Lib.hid (K9.out hz n Hn.out)
    have hn40 : n ≤ 40 := by have := (HS.out hz).1; have := Hn.out; omega
    have HB := Lib.hid (fun i (hi : i < n) => (HS.out hz).2 i (by have := Hn.out; omega))
    clear hz K2 K9 HS HS1
    go_wp2_with fail
    refine (K2b.out _ (XW.out.trans X1.out)).mono ?_
    rintro e w2 ⟨a2, rfl, r2, x2⟩
    have X2 := Lib.hid (X1.out.trans x2)
    have e2 := HD1.out _ X2.out
    obtain ⟨_, _, z1, z2, _, _, hat2⟩ := r2.open
    simp only [Value.slice.injEq] at z1
    obtain ⟨rfl, rfl, _⟩ := z1
    have HR2 := Lib.hid r2; have HA2 := Lib.hid hat2
    clear r2 x2 z2 hat2 e1
    obtain ⟨w3, hw3⟩ : ∃ w3, w3 = w2.alloc (.cells #[.slice a2 n n] 27) := ⟨_, rfl⟩
    have x3 : Ext w2 w3 := by rw [hw3]; exact (Ext.refl w2).alloc _
    have bM : w3.heap[w2.heap.size]? = some (.cells #[.slice a2 n n] 27 (0, 0)) := by rw [hw3]; exact blk_at rfl
    have q0_1 := x3.cell e2
    have q0_2 : w3.cell? ⟨w2.heap.size, 0, none⟩ = some (.slice a2 n n) := by simp [World.cell?, bM]
    have HD2 := Lib.hid (fun w' (x : Ext w3 w') => x.cell q0_2)
    have X23 := Lib.hid x3; have X3 := Lib.hid (X2.out.trans x3); have HW3 := Lib.hid hw3
    have K5m := Lib.hid (fun w' (x : Ext w3 w') => K5.out w' _ _ ((HR2.out.ext X23.out).ext x))
    clear x3 hw3 bM
    go_wp2
    rw [← HW3.out]
    clear e2 HW3
    refine wp_region_held_drew (S := fun w' => w'.cell? ⟨w.heap.size, 0, Option.none⟩ = some (.slice a1 n c) ∧ w'.cell? ⟨w2.heap.size, 0, Option.none⟩ = some (.slice a2 n n)) (by kernel_rfl) ?_ (fun hHeld => ?_)
    · exact ⟨q0_1, q0_2⟩
    refine wpAnyH_take (i := 0) (v := ?va97_0) rfl (by kernel_rfl) (by kernel_rfl) (by kernel_rfl) (fun _ _ _ h => h) (Or.inl ⟨by rfl, fun w hSw => ?ti97_0⟩) (by assumption) ?rest97_0
    case ti97_0 => ((try dsimp only at hSw); go_simp; (first | done | with_reducible rfl))
    try simp only [Act.put, List.getElem_toArray, List.getElem_cons_zero, List.getElem_cons_succ, List.setIfInBounds_toArray, List.set_cons_zero, List.set_cons_succ]
    refine wpAnyH_take (i := 1) (v := ?va100_1) rfl (by kernel_rfl) (by kernel_rfl) (by kernel_rfl) (fun _ _ _ h => h) (Or.inl ⟨by rfl, fun w hSw => ?ti100_1⟩) (by assumption) ?rest100_1
    case ti100_1 => ((try dsimp only at hSw); go_simp; (first | done | with_reducible rfl))
    try simp only [Act.put, List.getElem_toArray, List.getElem_cons_zero, List.getElem_cons_succ, List.setIfInBounds_toArray, List.set_cons_zero, List.set_cons_succ]
    refine wpAnyH_take (i := 2) (v := ?va103_2) rfl (by kernel_rfl) (by kernel_rfl) (by kernel_rfl) (fun _ _ _ h => h) (Or.inl ⟨by rfl, fun w hSw => ?ti103_2⟩) (by assumption) ?rest103_2
    case ti103_2 => ((try dsimp only at hSw); go_simp; (first | done | with_reducible rfl))
    try simp only [Act.put, List.getElem_toArray, List.getElem_cons_zero, List.getElem_cons_succ, List.setIfInBounds_toArray, List.set_cons_zero, List.set_cons_succ]
    refine wpAnyH_take (i := 3) (v := ?va106_3) rfl (by kernel_rfl) (by kernel_rfl) (by kernel_rfl) (fun _ _ _ h => h) (Or.inl ⟨by rfl, fun w hSw => ?ti106_3⟩) (by assumption) ?rest106_3
    case ti106_3 => ((try dsimp only at hSw); go_simp; (first | done | with_reducible rfl))
    try simp only [Act.put, List.getElem_toArray, List.getElem_cons_zero, List.getElem_cons_succ, List.setIfInBounds_toArray, List.set_cons_zero, List.set_cons_succ]
    refine wpAnyH_take (i := 4) (v := ?va109_4) rfl (by kernel_rfl) (by kernel_rfl) (by kernel_rfl) (fun _ _ _ h => h) (Or.inl ⟨by rfl, fun w hSw => ?ti109_4⟩) (by assumption) ?rest109_4
    case ti109_4 => ((try dsimp only at hSw); go_simp; (first | done | with_reducible rfl))
    try simp only [Act.put, List.getElem_toArray, List.getElem_cons_zero, List.getElem_cons_succ, List.setIfInBounds_toArray, List.set_cons_zero, List.set_cons_succ]
    refine wpAnyH_take (i := 5) (v := ?va112_5) rfl (by kernel_rfl) (by kernel_rfl) (by kernel_rfl) (fun _ _ _ h => h) (Or.inl ⟨by rfl, fun w hSw => ?ti112_5⟩) (by assumption) ?rest112_5
    case ti112_5 => ((try dsimp only at hSw); go_simp; (first | done | with_reducible rfl))
    try simp only [Act.put, List.getElem_toArray, List.getElem_cons_zero, List.getElem_cons_succ, List.setIfInBounds_toArray, List.set_cons_zero, List.set_cons_succ]
    refine wpAnyH_take (i := 6) (v := ?va115_6) rfl (by kernel_rfl) (by kernel_rfl) (by kernel_rfl) (fun _ _ _ h => h) (Or.inl ⟨by rfl, fun w hSw => ?ti115_6⟩) (by assumption) ?rest115_6
    case ti115_6 => ((try dsimp only at hSw); go_simp; (first | done | with_reducible rfl))
    try simp only [Act.put, List.getElem_toArray, List.getElem_cons_zero, List.getElem_cons_succ, List.setIfInBounds_toArray, List.set_cons_zero, List.set_cons_succ]
    refine wpAnyH_take (i := 7) (v := ?va118_7) rfl (by kernel_rfl) (by kernel_rfl) (by kernel_rfl) (fun _ _ _ h => h) (Or.inl ⟨by rfl, fun w hSw => ?ti118_7⟩) (by assumption) ?rest118_7
    case ti118_7 => ((try dsimp only at hSw); go_simp; (first | done | with_reducible rfl))
    try simp only [Act.put, List.getElem_toArray, List.getElem_cons_zero, List.getElem_cons_succ, List.setIfInBounds_toArray, List.set_cons_zero, List.set_cons_succ]
    refine wpAnyH_take (i := 8) (v := ?va121_8) rfl (by kernel_rfl) (by kernel_rfl) (by kernel_rfl) (fun _ _ _ h => h) (Or.inl ⟨by rfl, fun w hSw => ?ti121_8⟩) (by assumption) ?rest121_8
    case ti121_8 => ((try dsimp only at hSw); go_simp; (first | done | with_reducible rfl))
    try simp only [Act.put, List.getElem_toArray, List.getElem_cons_zero, List.getElem_cons_succ, List.setIfInBounds_toArray, List.set_cons_zero, List.set_cons_succ]
    refine wpAnyH_take (i := 10) (v := ?va124_10) rfl (by kernel_rfl) (by kernel_rfl) (by kernel_rfl) (fun _ _ _ h => h) (Or.inl ⟨by rfl, fun w hSw => ?ti124_10⟩) (by assumption) ?rest124_10
    case ti124_10 => ((try dsimp only at hSw); go_simp; (first | done | with_reducible rfl))
    try simp only [Act.put, List.getElem_toArray, List.getElem_cons_zero, List.getElem_cons_succ, List.setIfInBounds_toArray, List.set_cons_zero, List.set_cons_succ]
    refine wpAnyH_ready (rs := [9]) (by kernel_rfl) (by simp) ?_
    refine AllReadyH.cons rfl (fun K hK => ?_) AllReadyH.nil
    go_simp
    refine (K5m.out _ ?_).mono ?_
    · (repeat (first | (with_reducible exact Ext.refl _) | (with_reducible apply Ext.drew) | (with_reducible apply Ext.drewN) | (with_reducible apply Ext.alloc)))
    intro e wa hh
    obtain ⟨rfl, x⟩ := hh
    have Xa : Hid (Ext w3 wa) := Lib.hid (Ext.trans (by (repeat (first | (with_reducible exact Ext.refl _) | (with_reducible apply Ext.drew) | (with_reducible apply Ext.drewN) | (with_reducible apply Ext.alloc)))) x)
    have q1_1 := Xa.out.cell q0_1
    have q1_2 := Xa.out.cell q0_2
    go_simp
    refine hK.out _ _ ?_ (fun hHeld => ?_)
    · exact ⟨q1_1, q1_2⟩
    clear hK K x
    try simp only [Act.put, List.getElem_toArray, List.getElem_cons_zero, List.getElem_cons_succ, List.setIfInBounds_toArray, List.set_cons_zero, List.set_cons_succ]
    refine wpAnyH_ready (rs := [11]) (by kernel_rfl) (by simp) ?_
    refine AllReadyH.cons rfl (fun K hK => ?_) AllReadyH.nil
    go_simp
    refine (K3.out _ ?_).mono ?_
    · (refine Ext.trans ((XW.out.trans X3.out).trans Xa.out) ?_; (repeat (first | (with_reducible exact Ext.refl _) | (with_reducible apply Ext.drew) | (with_reducible apply Ext.drewN) | (with_reducible apply Ext.alloc))))
    intro e wb hh
    obtain ⟨rfl, x⟩ := hh
    have Xb : Hid (Ext w3 wb) := Lib.hid (Ext.trans Xa.out (Ext.trans (by (repeat (first | (with_reducible exact Ext.refl _) | (with_reducible apply Ext.drew) | (with_reducible apply Ext.drewN) | (with_reducible apply Ext.alloc)))) x))
    have q2_1 := Xb.out.cell q0_1
    have q2_2 := Xb.out.cell q0_2
    go_simp
    refine hK.out _ _ ?_ (fun hHeld => ?_)
    · exact ⟨q2_1, q2_2⟩
    clear hK K x
    try simp only [Act.put, List.getElem_toArray, List.getElem_cons_zero, List.getElem_cons_succ, List.setIfInBounds_toArray, List.set_cons_zero, List.set_cons_succ]
    refine wpAnyH_take (i := 12) (v := ?va157_12) rfl (by kernel_rfl) (by kernel_rfl) (by kernel_rfl) (fun _ _ _ h => h) (Or.inl ⟨by rfl, fun w hSw => ?ti157_12⟩) (by assumption) ?rest157_12
    case ti157_12 => ((try dsimp only at hSw); go_simp; (first | done | with_reducible rfl))
    try simp only [Act.put, List.getElem_toArray, List.getElem_cons_zero, List.getElem_cons_succ, List.setIfInBounds_toArray, List.set_cons_zero, List.set_cons_succ]
    refine wpAnyH_take (i := 13) (v := ?va160_13) rfl (by kernel_rfl) (by kernel_rfl) (by kernel_rfl) (fun _ _ _ h => h) (Or.inl ⟨by rfl, fun w hSw => ?ti160_13⟩) (by assumption) ?rest160_13
    case ti160_13 => ((try dsimp only at hSw); go_simp; (first | done | with_reducible rfl))
    try simp only [Act.put, List.getElem_toArray, List.getElem_cons_zero, List.getElem_cons_succ, List.setIfInBounds_toArray, List.set_cons_zero, List.set_cons_succ]
    refine wpAnyH_take (i := 14) (v := undef) rfl (by kernel_rfl) (by kernel_rfl) (by kernel_rfl) (fun _ _ _ h => h) (Or.inr ⟨by rfl, rfl⟩) (by assumption) ?_
    try simp only [Act.put, List.getElem_toArray, List.getElem_cons_zero, List.getElem_cons_succ, List.setIfInBounds_toArray, List.set_cons_zero, List.set_cons_succ]
    refine wpAnyH_take (i := 15) (v := undef) rfl (by kernel_rfl) (by kernel_rfl) (by kernel_rfl) (fun _ _ _ h => h) (Or.inr ⟨by rfl, rfl⟩) (by assumption) ?_
    try simp only [Act.put, List.getElem_toArray, List.getElem_cons_zero, List.getElem_cons_succ, List.setIfInBounds_toArray, List.set_cons_zero, List.set_cons_succ]
    refine wpAnyH_take (i := 16) (v := undef) rfl (by kernel_rfl) (by kernel_rfl) (by kernel_rfl) (fun _ _ _ h => h) (Or.inr ⟨by rfl, rfl⟩) (by assumption) ?_
    try simp only [Act.put, List.getElem_toArray, List.getElem_cons_zero, List.getElem_cons_succ, List.setIfInBounds_toArray, List.set_cons_zero, List.set_cons_succ]
    refine wpAnyH_take (i := 17) (v := ?va169_17) rfl (by kernel_rfl) (by kernel_rfl) (by kernel_rfl) (fun _ _ _ h => h) (Or.inl ⟨by rfl, fun w hSw => ?ti169_17⟩) (by assumption) ?rest169_17
    case ti169_17 => ((try dsimp only at hSw); go_simp; (first | done | with_reducible rfl))
    try simp only [Act.put, List.getElem_toArray, List.getElem_cons_zero, List.getElem_cons_succ, List.setIfInBounds_toArray, List.set_cons_zero, List.set_cons_succ]
    refine wpAnyH_take (i := 18) (v := ?va172_18) rfl (by kernel_rfl) (by kernel_rfl) (by kernel_rfl) (fun _ _ _ h => h) (Or.inl ⟨by rfl, fun w hSw => ?ti172_18⟩) (by assumption) ?rest172_18
    case ti172_18 => ((try dsimp only at hSw); go_simp; (first | done | with_reducible rfl))
    try simp only [Act.put, List.getElem_toArray, List.getElem_cons_zero, List.getElem_cons_succ, List.setIfInBounds_toArray, List.set_cons_zero, List.set_cons_succ]
    refine wpAnyH_take (i := 19) (v := undef) rfl (by kernel_rfl) (by kernel_rfl) (by kernel_rfl) (fun _ _ _ h => h) (Or.inr ⟨by rfl, rfl⟩) (by assumption) ?_
    try simp only [Act.put, List.getElem_toArray, List.getElem_cons_zero, List.getElem_cons_succ, List.setIfInBounds_toArray, List.set_cons_zero, List.set_cons_succ]
    refine wpAnyH_take (i := 20) (v := undef) rfl (by kernel_rfl) (by kernel_rfl) (by kernel_rfl) (fun _ _ _ h => h) (Or.inr ⟨by rfl, rfl⟩) (by assumption) ?_
    try simp only [Act.put, List.getElem_toArray, List.getElem_cons_zero, List.getElem_cons_succ, List.setIfInBounds_toArray, List.set_cons_zero, List.set_cons_succ]
    refine wpAnyH_take (i := 21) (v := undef) rfl (by kernel_rfl) (by kernel_rfl) (by kernel_rfl) (fun _ _ _ h => h) (Or.inr ⟨by rfl, rfl⟩) (by assumption) ?_
    try simp only [Act.put, List.getElem_toArray, List.getElem_cons_zero, List.getElem_cons_succ, List.setIfInBounds_toArray, List.set_cons_zero, List.set_cons_succ]
    refine wpAnyH_take (i := 22) (v := ?va181_22) rfl (by kernel_rfl) (by kernel_rfl) (by kernel_rfl) (fun _ _ _ h => h) (Or.inl ⟨by rfl, fun w hSw => ?ti181_22⟩) (by assumption) ?rest181_22
    case ti181_22 => ((try dsimp only at hSw); go_simp; (first | done | with_reducible rfl))
    try simp only [Act.put, List.getElem_toArray, List.getElem_cons_zero, List.getElem_cons_succ, List.setIfInBounds_toArray, List.set_cons_zero, List.set_cons_succ]
    refine wpAnyH_take (i := 23) (v := ?va184_23) rfl (by kernel_rfl) (by kernel_rfl) (by kernel_rfl) (fun _ _ _ h => h) (Or.inl ⟨by rfl, fun w hSw => ?ti184_23⟩) (by assumption) ?rest184_23
    case ti184_23 => ((try dsimp only at hSw); go_simp; (first | done | with_reducible rfl))
    try simp only [Act.put, List.getElem_toArray, List.getElem_cons_zero, List.getElem_cons_succ, List.setIfInBounds_toArray, List.set_cons_zero, List.set_cons_succ]
    refine wpAnyH_done (by kernel_rfl) ?_ _
    have X4 := Lib.hid Xb.out
    clear q0_1 q0_2 q1_1 q1_2
    have hs0 : Hid (Ext w3 wb) := Xb
    clear Xa Xb
    go_wp2
    go_loopw [4, 5, 6] (fun i _ _ wr => ∃ k : Nat, k ≤ n ∧ i = .int .i64 k ∧ Hid (Ext w3 wr)) (fun i _ _ _ => n - (intOf i).toNat)
    case atStart => exact ⟨0, Nat.zero_le _, rfl, hs0⟩
    case round =>
      obtain ⟨k, hk, rfl, HX⟩ := hrel
      clear q2_1 q2_2 X4 hs0
      have b1 := HD1.out _ (X3.out.trans HX.out)
      have b2 := HD2.out _ HX.out
      by_cases hlt : k < n
      · have hlt' : (k : Int) < (n : Int) := by omega
        obtain ⟨b, o, a, m, d, rfl, c1, r1⟩ := HA.out k hlt
        obtain ⟨b', o', a', m', d', rfl, c2, r2⟩ := HA2.out k hlt
        have HC1 := Lib.hid (fun w' (x : Ext W w') => (XW.out.trans x).cell c1); have HC2 := Lib.hid (fun w' (x : Ext w2 w') => x.cell c2)
        replace c1 := (XW.out.trans (X3.out.trans HX.out)).cell c1
        replace c2 := (X23.out.trans HX.out).cell c2
        rw [mirC_sw (by have := Hn.out; omega)] at r2
        obtain ⟨_, _, z1, z2, _, _, g1⟩ := r1.open
        simp only [Value.slice.injEq] at z1
        obtain ⟨rfl, rfl, _⟩ := z1
        obtain ⟨_, _, z3, z4, _, _, g2⟩ := r2.open
        simp only [Value.slice.injEq] at z3
        obtain ⟨rfl, rfl, _⟩ := z3
        have hml := HB.out k hlt
        have hmm : m' = m := by rw [z4, z2, mirR_len]
        subst hmm
        have hm40 : m' ≤ 40 := by omega
        have hN1 := fun w' (x : Ext w w') => CNeeds_calls _ _ _ w' (r1.ext x) (by omega)
        have hN2 := fun w' (x : Ext w2 w') => CNeeds_calls _ _ _ w' (r2.ext x) (by rw [mirR_len]; omega)
        have hM1 := fun w' (x : Ext w w') => CMakes_calls _ _ _ w' (r1.ext x) (by omega)
        have hM2 := fun w' (x : Ext w2 w') => CMakes_calls _ _ _ w' (r2.ext x) (by rw [mirR_len]; omega)
        rw [mirR_need] at hN2
        rw [mirR_make] at hM2
        have HG1 := Lib.hid g1; have HG2 := Lib.hid g2; have Hz := Lib.hid z2
        clear z2 z4 hml r1 r2 g1 g2
        generalize rneed (sw rows k) = N1 at *
        generalize rmake (sw rows k) = M1 at *
        have HN1 := Lib.hid hN1; have HN2 := Lib.hid hN2; have HM1 := Lib.hid hM1; have HM2 := Lib.hid hM2
        clear hN1 hN2 hM1 hM2
        have XA := Lib.hid (XW.out.trans (X3.out.trans HX.out)); have XB := Lib.hid (X23.out.trans HX.out)
        obtain ⟨ws, hws⟩ : ∃ ws : World, ws = wr := ⟨_, rfl⟩
        have q0_1 := b1; have q0_2 := b2; have q0_3 := c1; have q0_4 := c2
        rw [← hws] at q0_1 q0_2 q0_3 q0_4 XA XB HX b1 b2 c1 c2 ⊢
        clear hws
        go_wp2
        clear b1 b2 c1 c2
        refine wp_region_held_drew (S := fun w' => w'.cell? ⟨w.heap.size, 0, Option.none⟩ = some (.slice (some ⟨b, o, Option.none⟩) n c) ∧ w'.cell? ⟨w2.heap.size, 0, Option.none⟩ = some (.slice (some ⟨b', o', Option.none⟩) n n) ∧ w'.cell? ⟨b, o + k, Option.none⟩ = some (.slice a m' d) ∧ w'.cell? ⟨b', o' + k, Option.none⟩ = some (.slice a' m' d')) (by kernel_rfl) ?_ (fun hHeld => ?_)
        · exact ⟨q0_1, q0_2, q0_3, q0_4⟩
        refine wpAnyH_take (i := 0) (v := ?va239_0) rfl (by kernel_rfl) (by kernel_rfl) (by kernel_rfl) (fun _ _ _ h => h) (Or.inl ⟨by rfl, fun w hSw => ?ti239_0⟩) (by assumption) ?rest239_0
        case ti239_0 => ((try dsimp only at hSw); go_simp; (first | done | with_reducible rfl))
        try simp only [Act.put, List.getElem_toArray, List.getElem_cons_zero, List.getElem_cons_succ, List.setIfInBounds_toArray, List.set_cons_zero, List.set_cons_succ]
        refine wpAnyH_take (i := 1) (v := ?va242_1) rfl (by kernel_rfl) (by kernel_rfl) (by kernel_rfl) (fun _ _ _ h => h) (Or.inl ⟨by rfl, fun w hSw => ?ti242_1⟩) (by assumption) ?rest242_1
        case ti242_1 => ((try dsimp only at hSw); go_simp; (first | done | with_reducible rfl))
        try simp only [Act.put, List.getElem_toArray, List.getElem_cons_zero, List.getElem_cons_succ, List.setIfInBounds_toArray, List.set_cons_zero, List.set_cons_succ]
        refine wpAnyH_take (i := 2) (v := ?va245_2) rfl (by kernel_rfl) (by kernel_rfl) (by kernel_rfl) (fun _ _ _ h => h) (Or.inl ⟨by rfl, fun w hSw => ?ti245_2⟩) (by assumption) ?rest245_2
        case ti245_2 => ((try dsimp only at hSw); go_simp; (first | done | with_reducible rfl))
        try simp only [Act.put, List.getElem_toArray, List.getElem_cons_zero, List.getElem_cons_succ, List.setIfInBounds_toArray, List.set_cons_zero, List.set_cons_succ]
        refine wpAnyH_take (i := 3) (v := ?va248_3) rfl (by kernel_rfl) (by kernel_rfl) (by kernel_rfl) (fun _ _ _ h => h) (Or.inl ⟨by rfl, fun w hSw => ?ti248_3⟩) (by assumption) ?rest248_3
        case ti248_3 => ((try dsimp only at hSw); go_simp; (first | done | with_reducible rfl))
        try simp only [Act.put, List.getElem_toArray, List.getElem_cons_zero, List.getElem_cons_succ, List.setIfInBounds_toArray, List.set_cons_zero, List.set_cons_succ]
        refine wpAnyH_take (i := 4) (v := ?va251_4) rfl (by kernel_rfl) (by kernel_rfl) (by kernel_rfl) (fun _ _ _ h => h) (Or.inl ⟨by rfl, fun w hSw => ?ti251_4⟩) (by assumption) ?rest251_4
        case ti251_4 => ((try dsimp only at hSw); go_simp; (first | done | with_reducible rfl))
        try simp only [Act.put, List.getElem_toArray, List.getElem_cons_zero, List.getElem_cons_succ, List.setIfInBounds_toArray, List.set_cons_zero, List.set_cons_succ]
        refine wpAnyH_take (i := 5) (v := ?va254_5) rfl (by kernel_rfl) (by kernel_rfl) (by kernel_rfl) (fun _ _ _ h => h) (Or.inl ⟨by rfl, fun w hSw => ?ti254_5⟩) (by assumption) ?rest254_5
        case ti254_5 => ((try dsimp only at hSw); go_simp; (first | done | with_reducible rfl))
        try simp only [Act.put, List.getElem_toArray, List.getElem_cons_zero, List.getElem_cons_succ, List.setIfInBounds_toArray, List.set_cons_zero, List.set_cons_succ]
        refine wpAnyH_take (i := 6) (v := ?va257_6) rfl (by kernel_rfl) (by kernel_rfl) (by kernel_rfl) (fun _ _ _ h => h) (Or.inl ⟨by rfl, fun w hSw => ?ti257_6⟩) (by assumption) ?rest257_6
        case ti257_6 => ((try dsimp only at hSw); go_simp; (first | done | with_reducible rfl))
        try simp only [Act.put, List.getElem_toArray, List.getElem_cons_zero, List.getElem_cons_succ, List.setIfInBounds_toArray, List.set_cons_zero, List.set_cons_succ]
        refine wpAnyH_take (i := 7) (v := ?va260_7) rfl (by kernel_rfl) (by kernel_rfl) (by kernel_rfl) (fun _ _ _ h => h) (Or.inl ⟨by rfl, fun w hSw => ?ti260_7⟩) (by assumption) ?rest260_7
        case ti260_7 => ((try dsimp only at hSw); go_simp; (first | done | with_reducible rfl))
        try simp only [Act.put, List.getElem_toArray, List.getElem_cons_zero, List.getElem_cons_succ, List.setIfInBounds_toArray, List.set_cons_zero, List.set_cons_succ]
        refine wpAnyH_take (i := 8) (v := ?va263_8) rfl (by kernel_rfl) (by kernel_rfl) (by kernel_rfl) (fun _ _ _ h => h) (Or.inl ⟨by rfl, fun w hSw => ?ti263_8⟩) (by assumption) ?rest263_8
        case ti263_8 => ((try dsimp only at hSw); go_simp; (first | done | with_reducible rfl))
        try simp only [Act.put, List.getElem_toArray, List.getElem_cons_zero, List.getElem_cons_succ, List.setIfInBounds_toArray, List.set_cons_zero, List.set_cons_succ]
        refine wpAnyH_take (i := 9) (v := ?va266_9) rfl (by kernel_rfl) (by kernel_rfl) (by kernel_rfl) (fun _ _ _ h => h) (Or.inl ⟨by rfl, fun w hSw => ?ti266_9⟩) (by assumption) ?rest266_9
        case ti266_9 => ((try dsimp only at hSw); go_simp; (first | done | with_reducible rfl))
        try simp only [Act.put, List.getElem_toArray, List.getElem_cons_zero, List.getElem_cons_succ, List.setIfInBounds_toArray, List.set_cons_zero, List.set_cons_succ]
        refine wpAnyH_take (i := 10) (v := ?va269_10) rfl (by kernel_rfl) (by kernel_rfl) (by kernel_rfl) (fun _ _ _ h => h) (Or.inl ⟨by rfl, fun w hSw => ?ti269_10⟩) (by assumption) ?rest269_10
        case ti269_10 => ((try dsimp only at hSw); go_simp; (first | done | with_reducible rfl))
        try simp only [Act.put, List.getElem_toArray, List.getElem_cons_zero, List.getElem_cons_succ, List.setIfInBounds_toArray, List.set_cons_zero, List.set_cons_succ]
        refine wpAnyH_take (i := 11) (v := ?va272_11) rfl (by kernel_rfl) (by kernel_rfl) (by kernel_rfl) (fun _ _ _ h => h) (Or.inl ⟨by rfl, fun w hSw => ?ti272_11⟩) (by assumption) ?rest272_11
        case ti272_11 => ((try dsimp only at hSw); go_simp; (first | done | with_reducible rfl))
        try simp only [Act.put, List.getElem_toArray, List.getElem_cons_zero, List.getElem_cons_succ, List.setIfInBounds_toArray, List.set_cons_zero, List.set_cons_succ]
        refine wpAnyH_take (i := 12) (v := ?va275_12) rfl (by kernel_rfl) (by kernel_rfl) (by kernel_rfl) (fun _ _ _ h => h) (Or.inl ⟨by rfl, fun w hSw => ?ti275_12⟩) (by assumption) ?rest275_12
        case ti275_12 => ((try dsimp only at hSw); go_simp; (first | done | with_reducible rfl))
        try simp only [Act.put, List.getElem_toArray, List.getElem_cons_zero, List.getElem_cons_succ, List.setIfInBounds_toArray, List.set_cons_zero, List.set_cons_succ]
        refine wpAnyH_take (i := 13) (v := ?va278_13) rfl (by kernel_rfl) (by kernel_rfl) (by kernel_rfl) (fun _ _ _ h => h) (Or.inl ⟨by rfl, fun w hSw => ?ti278_13⟩) (by assumption) ?rest278_13
        case ti278_13 => ((try dsimp only at hSw); go_simp; (first | done | with_reducible rfl))
        try simp only [Act.put, List.getElem_toArray, List.getElem_cons_zero, List.getElem_cons_succ, List.setIfInBounds_toArray, List.set_cons_zero, List.set_cons_succ]
        refine wpAnyH_take (i := 15) (v := ?va281_15) rfl (by kernel_rfl) (by kernel_rfl) (by kernel_rfl) (fun _ _ _ h => h) (Or.inl ⟨by rfl, fun w hSw => ?ti281_15⟩) (by assumption) ?rest281_15
        case ti281_15 => ((try dsimp only at hSw); go_simp; (first | done | with_reducible rfl))
        try simp only [Act.put, List.getElem_toArray, List.getElem_cons_zero, List.getElem_cons_succ, List.setIfInBounds_toArray, List.set_cons_zero, List.set_cons_succ]
        refine wpAnyH_take (i := 16) (v := ?va284_16) rfl (by kernel_rfl) (by kernel_rfl) (by kernel_rfl) (fun _ _ _ h => h) (Or.inl ⟨by rfl, fun w hSw => ?ti284_16⟩) (by assumption) ?rest284_16
        case ti284_16 => ((try dsimp only at hSw); go_simp; (first | done | with_reducible rfl))
        try simp only [Act.put, List.getElem_toArray, List.getElem_cons_zero, List.getElem_cons_succ, List.setIfInBounds_toArray, List.set_cons_zero, List.set_cons_succ]
        refine wpAnyH_take (i := 17) (v := ?va287_17) rfl (by kernel_rfl) (by kernel_rfl) (by kernel_rfl) (fun _ _ _ h => h) (Or.inl ⟨by rfl, fun w hSw => ?ti287_17⟩) (by assumption) ?rest287_17
        case ti287_17 => ((try dsimp only at hSw); go_simp; (first | done | with_reducible rfl))
        try simp only [Act.put, List.getElem_toArray, List.getElem_cons_zero, List.getElem_cons_succ, List.setIfInBounds_toArray, List.set_cons_zero, List.set_cons_succ]
        refine wpAnyH_take (i := 18) (v := ?va290_18) rfl (by kernel_rfl) (by kernel_rfl) (by kernel_rfl) (fun _ _ _ h => h) (Or.inl ⟨by rfl, fun w hSw => ?ti290_18⟩) (by assumption) ?rest290_18
        case ti290_18 => ((try dsimp only at hSw); go_simp; (first | done | with_reducible rfl))
        try simp only [Act.put, List.getElem_toArray, List.getElem_cons_zero, List.getElem_cons_succ, List.setIfInBounds_toArray, List.set_cons_zero, List.set_cons_succ]
        refine wpAnyH_take (i := 19) (v := ?va293_19) rfl (by kernel_rfl) (by kernel_rfl) (by kernel_rfl) (fun _ _ _ h => h) (Or.inl ⟨by rfl, fun w hSw => ?ti293_19⟩) (by assumption) ?rest293_19
        case ti293_19 => ((try dsimp only at hSw); go_simp; (first | done | with_reducible rfl))
        try simp only [Act.put, List.getElem_toArray, List.getElem_cons_zero, List.getElem_cons_succ, List.setIfInBounds_toArray, List.set_cons_zero, List.set_cons_succ]
        refine wpAnyH_ready (rs := [14]) (by kernel_rfl) (by simp) ?_
        refine AllReadyH.cons rfl (fun K hK => ?_) AllReadyH.nil
        go_simp
        refine (HN2.out _ ?_).mono ?_
        · (refine Ext.trans XB.out ?_; (repeat (first | (with_reducible exact Ext.refl _) | (with_reducible apply Ext.drew) | (with_reducible apply Ext.drewN) | (with_reducible apply Ext.alloc))))
        intro e wc hh
        obtain ⟨rfl, x⟩ := hh
        have Xc : Hid (Ext ws wc) := Lib.hid (Ext.trans (by (repeat (first | (with_reducible exact Ext.refl _) | (with_reducible apply Ext.drew) | (with_reducible apply Ext.drewN) | (with_reducible apply Ext.alloc)))) x)
        have q1_1 := Xc.out.cell q0_1
        have q1_2 := Xc.out.cell q0_2
        have q1_3 := Xc.out.cell q0_3
        have q1_4 := Xc.out.cell q0_4
        go_simp
        refine hK.out _ _ ?_ (fun hHeld => ?_)
        · exact ⟨q1_1, q1_2, q1_3, q1_4⟩
        clear hK K x
        try simp only [Act.put, List.getElem_toArray, List.getElem_cons_zero, List.getElem_cons_succ, List.setIfInBounds_toArray, List.set_cons_zero, List.set_cons_succ]
        refine wpAnyH_ready (rs := [20]) (by kernel_rfl) (by simp) ?_
        refine AllReadyH.cons rfl (fun K hK => ?_) AllReadyH.nil
        go_simp
        refine (HN1.out _ ?_).mono ?_
        · (refine Ext.trans (XA.out.trans Xc.out) ?_; (repeat (first | (with_reducible exact Ext.refl _) | (with_reducible apply Ext.drew) | (with_reducible apply Ext.drewN) | (with_reducible apply Ext.alloc))))
        intro e wd hh
        obtain ⟨rfl, x⟩ := hh
        have Xd : Hid (Ext ws wd) := Lib.hid (Ext.trans Xc.out (Ext.trans (by (repeat (first | (with_reducible exact Ext.refl _) | (with_reducible apply Ext.drew) | (with_reducible apply Ext.drewN) | (with_reducible apply Ext.alloc)))) x))
        have q2_1 := Xd.out.cell q0_1
        have q2_2 := Xd.out.cell q0_2
        have q2_3 := Xd.out.cell q0_3
        have q2_4 := Xd.out.cell q0_4
        go_simp
        refine hK.out _ _ ?_ (fun hHeld => ?_)
        · exact ⟨q2_1, q2_2, q2_3, q2_4⟩
        clear hK K x
        try simp only [Act.put, List.getElem_toArray, List.getElem_cons_zero, List.getElem_cons_succ, List.setIfInBounds_toArray, List.set_cons_zero, List.set_cons_succ]
        refine wpAnyH_take (i := 21) (v := ?va330_21) rfl (by kernel_rfl) (by kernel_rfl) (by kernel_rfl) (fun _ _ _ h => h) (Or.inl ⟨by rfl, fun w hSw => ?ti330_21⟩) (by assumption) ?rest330_21
        case ti330_21 => ((try dsimp only at hSw); go_simp; (first | done | with_reducible rfl))
        try simp only [Act.put, List.getElem_toArray, List.getElem_cons_zero, List.getElem_cons_succ, List.setIfInBounds_toArray, List.set_cons_zero, List.set_cons_succ]
        refine wpAnyH_take (i := 22) (v := ?va333_22) rfl (by kernel_rfl) (by kernel_rfl) (by kernel_rfl) (fun _ _ _ h => h) (Or.inl ⟨by rfl, fun w hSw => ?ti333_22⟩) (by assumption) ?rest333_22
        case ti333_22 => ((try dsimp only at hSw); go_simp; (first | done | with_reducible rfl))
        try simp only [Act.put, List.getElem_toArray, List.getElem_cons_zero, List.getElem_cons_succ, List.setIfInBounds_toArray, List.set_cons_zero, List.set_cons_succ]
        refine wpAnyH_take (i := 23) (v := ?va336_23) rfl (by kernel_rfl) (by kernel_rfl) (by kernel_rfl) (fun _ _ _ h => h) (Or.inl ⟨by rfl, fun w hSw => ?ti336_23⟩) (by assumption) ?rest336_23
        case ti336_23 => ((try dsimp only at hSw); go_simp; (first | done | with_reducible rfl))
        try simp only [Act.put, List.getElem_toArray, List.getElem_cons_zero, List.getElem_cons_succ, List.setIfInBounds_toArray, List.set_cons_zero, List.set_cons_succ]
        refine wpAnyH_take (i := 24) (v := ?va339_24) rfl (by kernel_rfl) (by kernel_rfl) (by kernel_rfl) (fun _ _ _ h => h) (Or.inl ⟨by rfl, fun w hSw => ?ti339_24⟩) (by assumption) ?rest339_24
        case ti339_24 => ((try dsimp only at hSw); go_simp; (first | done | with_reducible rfl))
        try simp only [Act.put, List.getElem_toArray, List.getElem_cons_zero, List.getElem_cons_succ, List.setIfInBounds_toArray, List.set_cons_zero, List.set_cons_succ]
        refine wpAnyH_take (i := 25) (v := ?va342_25) rfl (by kernel_rfl) (by kernel_rfl) (by kernel_rfl) (fun _ _ _ h => h) (Or.inl ⟨by rfl, fun w hSw => ?ti342_25⟩) (by assumption) ?rest342_25
        case ti342_25 => ((try dsimp only at hSw); go_simp; (first | done | with_reducible rfl))
        try simp only [Act.put, List.getElem_toArray, List.getElem_cons_zero, List.getElem_cons_succ, List.setIfInBounds_toArray, List.set_cons_zero, List.set_cons_succ]
        refine wpAnyH_take (i := 26) (v := ?va345_26) rfl (by kernel_rfl) (by kernel_rfl) (by kernel_rfl) (fun _ _ _ h => h) (Or.inl ⟨by rfl, fun w hSw => ?ti345_26⟩) (by assumption) ?rest345_26
        case ti345_26 => ((try dsimp only at hSw); go_simp; (first | done | with_reducible rfl))
        try simp only [Act.put, List.getElem_toArray, List.getElem_cons_zero, List.getElem_cons_succ, List.setIfInBounds_toArray, List.set_cons_zero, List.set_cons_succ]
        refine wpAnyH_take (i := 27) (v := ?va348_27) rfl (by kernel_rfl) (by kernel_rfl) (by kernel_rfl) (fun _ _ _ h => h) (Or.inl ⟨by rfl, fun w hSw => ?ti348_27⟩) (by assumption) ?rest348_27
        case ti348_27 => ((try dsimp only at hSw); go_simp; (first | done | with_reducible rfl))
        try simp only [Act.put, List.getElem_toArray, List.getElem_cons_zero, List.getElem_cons_succ, List.setIfInBounds_toArray, List.set_cons_zero, List.set_cons_succ]
        refine wpAnyH_take (i := 28) (v := ?va351_28) rfl (by kernel_rfl) (by kernel_rfl) (by kernel_rfl) (fun _ _ _ h => h) (Or.inl ⟨by rfl, fun w hSw => ?ti351_28⟩) (by assumption) ?rest351_28
        case ti351_28 => ((try dsimp only at hSw); go_simp; (first | done | with_reducible rfl))
        try simp only [Act.put, List.getElem_toArray, List.getElem_cons_zero, List.getElem_cons_succ, List.setIfInBounds_toArray, List.set_cons_zero, List.set_cons_succ]
        refine wpAnyH_take (i := 30) (v := ?va354_30) rfl (by kernel_rfl) (by kernel_rfl) (by kernel_rfl) (fun _ _ _ h => h) (Or.inl ⟨by rfl, fun w hSw => ?ti354_30⟩) (by assumption) ?rest354_30
        case ti354_30 => ((try dsimp only at hSw); go_simp; (first | done | with_reducible rfl))
        try simp only [Act.put, List.getElem_toArray, List.getElem_cons_zero, List.getElem_cons_succ, List.setIfInBounds_toArray, List.set_cons_zero, List.set_cons_succ]
        refine wpAnyH_take (i := 31) (v := ?va357_31) rfl (by kernel_rfl) (by kernel_rfl) (by kernel_rfl) (fun _ _ _ h => h) (Or.inl ⟨by rfl, fun w hSw => ?ti357_31⟩) (by assumption) ?rest357_31
        case ti357_31 => ((try dsimp only at hSw); go_simp; (first | done | with_reducible rfl))
        try simp only [Act.put, List.getElem_toArray, List.getElem_cons_zero, List.getElem_cons_succ, List.setIfInBounds_toArray, List.set_cons_zero, List.set_cons_succ]
        refine wpAnyH_take (i := 32) (v := ?va360_32) rfl (by kernel_rfl) (by kernel_rfl) (by kernel_rfl) (fun _ _ _ h => h) (Or.inl ⟨by rfl, fun w hSw => ?ti360_32⟩) (by assumption) ?rest360_32
        case ti360_32 => ((try dsimp only at hSw); go_simp; (first | done | with_reducible rfl))
        try simp only [Act.put, List.getElem_toArray, List.getElem_cons_zero, List.getElem_cons_succ, List.setIfInBounds_toArray, List.set_cons_zero, List.set_cons_succ]
        refine wpAnyH_take (i := 33) (v := ?va363_33) rfl (by kernel_rfl) (by kernel_rfl) (by kernel_rfl) (fun _ _ _ h => h) (Or.inl ⟨by rfl, fun w hSw => ?ti363_33⟩) (by assumption) ?rest363_33
        case ti363_33 => ((try dsimp only at hSw); go_simp; (first | done | with_reducible rfl))
        try simp only [Act.put, List.getElem_toArray, List.getElem_cons_zero, List.getElem_cons_succ, List.setIfInBounds_toArray, List.set_cons_zero, List.set_cons_succ]
        refine wpAnyH_take (i := 34) (v := ?va366_34) rfl (by kernel_rfl) (by kernel_rfl) (by kernel_rfl) (fun _ _ _ h => h) (Or.inl ⟨by rfl, fun w hSw => ?ti366_34⟩) (by assumption) ?rest366_34
        case ti366_34 => ((try dsimp only at hSw); go_simp; (first | done | with_reducible rfl))
        try simp only [Act.put, List.getElem_toArray, List.getElem_cons_zero, List.getElem_cons_succ, List.setIfInBounds_toArray, List.set_cons_zero, List.set_cons_succ]
        refine wpAnyH_ready (rs := [29]) (by kernel_rfl) (by simp) ?_
        refine AllReadyH.cons rfl (fun K hK => ?_) AllReadyH.nil
        go_simp
        refine (HM2.out _ ?_).mono ?_
        · (refine Ext.trans (XB.out.trans Xd.out) ?_; (repeat (first | (with_reducible exact Ext.refl _) | (with_reducible apply Ext.drew) | (with_reducible apply Ext.drewN) | (with_reducible apply Ext.alloc))))
        intro e we hh
        obtain ⟨rfl, x⟩ := hh
        have Xe : Hid (Ext ws we) := Lib.hid (Ext.trans Xd.out (Ext.trans (by (repeat (first | (with_reducible exact Ext.refl _) | (with_reducible apply Ext.drew) | (with_reducible apply Ext.drewN) | (with_reducible apply Ext.alloc)))) x))
        have q3_1 := Xe.out.cell q0_1
        have q3_2 := Xe.out.cell q0_2
        have q3_3 := Xe.out.cell q0_3
        have q3_4 := Xe.out.cell q0_4
        go_simp
        refine hK.out _ _ ?_ (fun hHeld => ?_)
        · exact ⟨q3_1, q3_2, q3_3, q3_4⟩
        clear hK K x
        try simp only [Act.put, List.getElem_toArray, List.getElem_cons_zero, List.getElem_cons_succ, List.setIfInBounds_toArray, List.set_cons_zero, List.set_cons_succ]
        refine wpAnyH_ready (rs := [35]) (by kernel_rfl) (by simp) ?_
        refine AllReadyH.cons rfl (fun K hK => ?_) AllReadyH.nil
        go_simp
        refine (HM1.out _ ?_).mono ?_
        · (refine Ext.trans (XA.out.trans Xe.out) ?_; (repeat (first | (with_reducible exact Ext.refl _) | (with_reducible apply Ext.drew) | (with_reducible apply Ext.drewN) | (with_reducible apply Ext.alloc))))
        intro e wf hh
        obtain ⟨rfl, x⟩ := hh
        have Xf : Hid (Ext ws wf) := Lib.hid (Ext.trans Xe.out (Ext.trans (by (repeat (first | (with_reducible exact Ext.refl _) | (with_reducible apply Ext.drew) | (with_reducible apply Ext.drewN) | (with_reducible apply Ext.alloc)))) x))
        have q4_1 := Xf.out.cell q0_1
        have q4_2 := Xf.out.cell q0_2
        have q4_3 := Xf.out.cell q0_3
        have q4_4 := Xf.out.cell q0_4
        go_simp
        refine hK.out _ _ ?_ (fun hHeld => ?_)
        · exact ⟨q4_1, q4_2, q4_3, q4_4⟩
        clear hK K x
        try simp only [Act.put, List.getElem_toArray, List.getElem_cons_zero, List.getElem_cons_succ, List.setIfInBounds_toArray, List.set_cons_zero, List.set_cons_succ]
        refine wpAnyH_take (i := 36) (v := ?va403_36) rfl (by kernel_rfl) (by kernel_rfl) (by kernel_rfl) (fun _ _ _ h => h) (Or.inl ⟨by rfl, fun w hSw => ?ti403_36⟩) (by assumption) ?rest403_36
        case ti403_36 => ((try dsimp only at hSw); go_simp; (first | done | with_reducible rfl))
        try simp only [Act.put, List.getElem_toArray, List.getElem_cons_zero, List.getElem_cons_succ, List.setIfInBounds_toArray, List.set_cons_zero, List.set_cons_succ]
        refine wpAnyH_take (i := 37) (v := ?va406_37) rfl (by kernel_rfl) (by kernel_rfl) (by kernel_rfl) (fun _ _ _ h => h) (Or.inl ⟨by rfl, fun w hSw => ?ti406_37⟩) (by assumption) ?rest406_37
        case ti406_37 => ((try dsimp only at hSw); go_simp; (first | done | with_reducible rfl))
        try simp only [Act.put, List.getElem_toArray, List.getElem_cons_zero, List.getElem_cons_succ, List.setIfInBounds_toArray, List.set_cons_zero, List.set_cons_succ]
        refine wpAnyH_done (by kernel_rfl) ?_ _
        have XF := Lib.hid (HX.out.trans Xf.out)
        clear q0_1 q0_2 q0_3 q0_4 q1_1 q1_2 q1_3 q1_4 q2_1 q2_2 q2_3 q2_4 q3_1 q3_2 q3_3 q3_4 Xc Xd Xe HN1 HN2 HM1 HM2 XA XB HX
        go_wp2
        go_loopw [6] (fun i wt => ∃ j : Nat, j ≤ m' ∧ i = .int .i64 j ∧ Hid (Ext w3 wt)) (fun i _ => m' - (intOf i).toNat)
        case atStart => exact ⟨0, Nat.zero_le _, rfl, XF⟩
        case round =>
          obtain ⟨j, hj, rfl, HY⟩ := hrel
          clear XF Xf
          obtain ⟨wt, hwt⟩ : ∃ wt : World, wt = wr := ⟨_, rfl⟩
          rw [← hwt] at HY ⊢
          clear hwt
          by_cases hjl : j < m'
          · have hjl' : (j : Int) < (m' : Int) := by omega
            have q0_1 := HD1.out _ (X3.out.trans HY.out)
            have q0_2 := HD2.out _ HY.out
            have q0_3 := HC1.out _ (X3.out.trans HY.out)
            have q0_4 := HC2.out _ (X23.out.trans HY.out)
            obtain ⟨p, hp⟩ : ∃ p, p = m' - 1 - j := ⟨_, rfl⟩
            have hpm : p < m' := by omega
            have wz1 : IntKind.i64.wrap ((m' : Int) - 1) = (m' : Int) - 1 := IntWalk.i64_in _ ⟨by omega, by omega⟩
            have wz2 : IntKind.i64.wrap ((m' : Int) - 1 - (j : Int)) = (p : Int) := by rw [show (m' : Int) - 1 - (j : Int) = (p : Int) by omega]; exact IntWalk.i64_in _ ⟨by omega, by omega⟩
            have hpi : (p : Int) < (m' : Int) := by omega
            obtain ⟨b3, o3, rfl, e3⟩ := HG1.out p hpm
            obtain ⟨b4, o4, rfl, e4⟩ := HG2.out j hjl
            have hmi := mirR_si (l := sw rows k) (i := p) (by have := Hz.out; omega)
            rw [← Hz.out, show m' - 1 - p = j by omega] at hmi
            rw [hmi] at e4
            obtain ⟨S, hS⟩ : ∃ S, S = si (sw rows k) p := ⟨_, rfl⟩
            rw [← hS] at e3 e4
            have hcl := fun w' => SMirror_calls S w'
            obtain ⟨T, hT⟩ : ∃ T, T = S.mir := ⟨_, rfl⟩
            rw [← hT] at hcl e4
            obtain ⟨tk, ty, ta, tb, tf⟩ := T
            obtain ⟨sk, sy, sa, sb, sf⟩ := S
            unfold St.val at hcl
            simp only [] at hcl
            obtain ⟨q0_5, q0_6, q0_7, q0_8, q0_9⟩ := At5c (e4.ext (X23.out.trans HY.out))
            obtain ⟨q0_10, q0_11, q0_12, q0_13, q0_14⟩ := At5c (e3.ext (XW.out.trans (X3.out.trans HY.out)))
            simp only [] at q0_5 q0_6 q0_7 q0_8 q0_9 q0_10 q0_11 q0_12 q0_13 q0_14
            have HCl := Lib.hid hcl
            clear e3 e4 hmi hS hT hcl hp
            go_wp2
            refine wp_region_held_drew (S := fun w' => w'.cell? ⟨w.heap.size, 0, Option.none⟩ = some (.slice (some ⟨b, o, Option.none⟩) n c) ∧ w'.cell? ⟨w2.heap.size, 0, Option.none⟩ = some (.slice (some ⟨b', o', Option.none⟩) n n) ∧ w'.cell? ⟨b, o + k, Option.none⟩ = some (.slice (some ⟨b3, o3, Option.none⟩) m' d) ∧ w'.cell? ⟨b', o' + k, Option.none⟩ = some (.slice (some ⟨b4, o4, Option.none⟩) m' d') ∧ w'.cell? ⟨b4, o4 + j * 5, Option.none⟩ = some (.int .u8 tk) ∧ w'.cell? ⟨b4, o4 + j * 5 + 1, Option.none⟩ = some (.int .u8 ty) ∧ w'.cell? ⟨b4, o4 + j * 5 + 2, Option.none⟩ = some (.int .i64 ta) ∧ w'.cell? ⟨b4, o4 + j * 5 + 3, Option.none⟩ = some (.int .i64 tb) ∧ w'.cell? ⟨b4, o4 + j * 5 + 4, Option.none⟩ = some (.bool tf) ∧ w'.cell? ⟨b3, o3 + p * 5, Option.none⟩ = some (.int .u8 sk) ∧ w'.cell? ⟨b3, o3 + p * 5 + 1, Option.none⟩ = some (.int .u8 sy) ∧ w'.cell? ⟨b3, o3 + p * 5 + 2, Option.none⟩ = some (.int .i64 sa) ∧ w'.cell? ⟨b3, o3 + p * 5 + 3, Option.none⟩ = some (.int .i64 sb) ∧ w'.cell? ⟨b3, o3 + p * 5 + 4, Option.none⟩ = some (.bool sf)) (by kernel_rfl) ?_ (fun hHeld => ?_)
            · exact ⟨q0_1, q0_2, q0_3, q0_4, q0_5, q0_6, q0_7, q0_8, q0_9, q0_10, q0_11, q0_12, q0_13, q0_14⟩
            refine wpAnyH_take (i := 0) (v := ?va454_0) rfl (by kernel_rfl) (by kernel_rfl) (by kernel_rfl) (fun _ _ _ h => h) (Or.inl ⟨by rfl, fun w hSw => ?ti454_0⟩) (by assumption) ?rest454_0
            case ti454_0 => ((try dsimp only at hSw); go_simp; (first | done | with_reducible rfl))
            try simp only [Act.put, List.getElem_toArray, List.getElem_cons_zero, List.getElem_cons_succ, List.setIfInBounds_toArray, List.set_cons_zero, List.set_cons_succ]
            refine wpAnyH_take (i := 1) (v := ?va457_1) rfl (by kernel_rfl) (by kernel_rfl) (by kernel_rfl) (fun _ _ _ h => h) (Or.inl ⟨by rfl, fun w hSw => ?ti457_1⟩) (by assumption) ?rest457_1
            case ti457_1 => ((try dsimp only at hSw); go_simp; (first | done | with_reducible rfl))
            try simp only [Act.put, List.getElem_toArray, List.getElem_cons_zero, List.getElem_cons_succ, List.setIfInBounds_toArray, List.set_cons_zero, List.set_cons_succ]
            refine wpAnyH_take (i := 2) (v := ?va460_2) rfl (by kernel_rfl) (by kernel_rfl) (by kernel_rfl) (fun _ _ _ h => h) (Or.inl ⟨by rfl, fun w hSw => ?ti460_2⟩) (by assumption) ?rest460_2
            case ti460_2 => ((try dsimp only at hSw); go_simp; (first | done | with_reducible rfl))
            try simp only [Act.put, List.getElem_toArray, List.getElem_cons_zero, List.getElem_cons_succ, List.setIfInBounds_toArray, List.set_cons_zero, List.set_cons_succ]
            refine wpAnyH_take (i := 3) (v := ?va463_3) rfl (by kernel_rfl) (by kernel_rfl) (by kernel_rfl) (fun _ _ _ h => h) (Or.inl ⟨by rfl, fun w hSw => ?ti463_3⟩) (by assumption) ?rest463_3
            case ti463_3 => ((try dsimp only at hSw); go_simp; (first | done | with_reducible rfl))
            try simp only [Act.put, List.getElem_toArray, List.getElem_cons_zero, List.getElem_cons_succ, List.setIfInBounds_toArray, List.set_cons_zero, List.set_cons_succ]
            refine wpAnyH_take (i := 4) (v := ?va466_4) rfl (by kernel_rfl) (by kernel_rfl) (by kernel_rfl) (fun _ _ _ h => h) (Or.inl ⟨by rfl, fun w hSw => ?ti466_4⟩) (by assumption) ?rest466_4
            case ti466_4 => ((try dsimp only at hSw); go_simp; (first | done | with_reducible rfl))
            try simp only [Act.put, List.getElem_toArray, List.getElem_cons_zero, List.getElem_cons_succ, List.setIfInBounds_toArray, List.set_cons_zero, List.set_cons_succ]
            refine wpAnyH_take (i := 5) (v := ?va469_5) rfl (by kernel_rfl) (by kernel_rfl) (by kernel_rfl) (fun _ _ _ h => h) (Or.inl ⟨by rfl, fun w hSw => ?ti469_5⟩) (by assumption) ?rest469_5
            case ti469_5 => ((try dsimp only at hSw); go_simp; (first | done | with_reducible rfl))
            try simp only [Act.put, List.getElem_toArray, List.getElem_cons_zero, List.getElem_cons_succ, List.setIfInBounds_toArray, List.set_cons_zero, List.set_cons_succ]
            refine wpAnyH_take (i := 6) (v := ?va472_6) rfl (by kernel_rfl) (by kernel_rfl) (by kernel_rfl) (fun _ _ _ h => h) (Or.inl ⟨by rfl, fun w hSw => ?ti472_6⟩) (by assumption) ?rest472_6
            case ti472_6 => ((try dsimp only at hSw); go_simp; (first | done | with_reducible rfl))
            try simp only [Act.put, List.getElem_toArray, List.getElem_cons_zero, List.getElem_cons_succ, List.setIfInBounds_toArray, List.set_cons_zero, List.set_cons_succ]
            refine wpAnyH_take (i := 7) (v := ?va475_7) rfl (by kernel_rfl) (by kernel_rfl) (by kernel_rfl) (fun _ _ _ h => h) (Or.inl ⟨by rfl, fun w hSw => ?ti475_7⟩) (by assumption) ?rest475_7
            case ti475_7 => ((try dsimp only at hSw); go_simp; (first | done | with_reducible rfl))
            try simp only [Act.put, List.getElem_toArray, List.getElem_cons_zero, List.getElem_cons_succ, List.setIfInBounds_toArray, List.set_cons_zero, List.set_cons_succ]
            refine wpAnyH_take (i := 8) (v := ?va478_8) rfl (by kernel_rfl) (by kernel_rfl) (by kernel_rfl) (fun _ _ _ h => h) (Or.inl ⟨by rfl, fun w hSw => ?ti478_8⟩) (by assumption) ?rest478_8
            case ti478_8 => ((try dsimp only at hSw); go_simp; (first | done | with_reducible rfl))
            try simp only [Act.put, List.getElem_toArray, List.getElem_cons_zero, List.getElem_cons_succ, List.setIfInBounds_toArray, List.set_cons_zero, List.set_cons_succ]
            refine wpAnyH_take (i := 9) (v := ?va481_9) rfl (by kernel_rfl) (by kernel_rfl) (by kernel_rfl) (fun _ _ _ h => h) (Or.inl ⟨by rfl, fun w hSw => ?ti481_9⟩) (by assumption) ?rest481_9
            case ti481_9 => ((try dsimp only at hSw); go_simp; (first | done | with_reducible rfl))
            try simp only [Act.put, List.getElem_toArray, List.getElem_cons_zero, List.getElem_cons_succ, List.setIfInBounds_toArray, List.set_cons_zero, List.set_cons_succ]
            refine wpAnyH_take (i := 10) (v := ?va484_10) rfl (by kernel_rfl) (by kernel_rfl) (by kernel_rfl) (fun _ _ _ h => h) (Or.inl ⟨by rfl, fun w hSw => ?ti484_10⟩) (by assumption) ?rest484_10
            case ti484_10 => ((try dsimp only at hSw); go_simp; (first | done | with_reducible rfl))
            try simp only [Act.put, List.getElem_toArray, List.getElem_cons_zero, List.getElem_cons_succ, List.setIfInBounds_toArray, List.set_cons_zero, List.set_cons_succ]
            refine wpAnyH_take (i := 11) (v := ?va487_11) rfl (by kernel_rfl) (by kernel_rfl) (by kernel_rfl) (fun _ _ _ h => h) (Or.inl ⟨by rfl, fun w hSw => ?ti487_11⟩) (by assumption) ?rest487_11
            case ti487_11 => ((try dsimp only at hSw); go_simp; (first | done | with_reducible rfl))
            try simp only [Act.put, List.getElem_toArray, List.getElem_cons_zero, List.getElem_cons_succ, List.setIfInBounds_toArray, List.set_cons_zero, List.set_cons_succ]
            refine wpAnyH_take (i := 12) (v := ?va490_12) rfl (by kernel_rfl) (by kernel_rfl) (by kernel_rfl) (fun _ _ _ h => h) (Or.inl ⟨by rfl, fun w hSw => ?ti490_12⟩) (by assumption) ?rest490_12
            case ti490_12 => ((try dsimp only at hSw); go_simp; (first | done | with_reducible rfl))
            try simp only [Act.put, List.getElem_toArray, List.getElem_cons_zero, List.getElem_cons_succ, List.setIfInBounds_toArray, List.set_cons_zero, List.set_cons_succ]
            refine wpAnyH_take (i := 13) (v := ?va493_13) rfl (by kernel_rfl) (by kernel_rfl) (by kernel_rfl) (fun _ _ _ h => h) (Or.inl ⟨by rfl, fun w hSw => ?ti493_13⟩) (by assumption) ?rest493_13
            case ti493_13 => ((try dsimp only at hSw); go_simp; (first | done | with_reducible rfl))
            try simp only [Act.put, List.getElem_toArray, List.getElem_cons_zero, List.getElem_cons_succ, List.setIfInBounds_toArray, List.set_cons_zero, List.set_cons_succ]
            refine wpAnyH_take (i := 14) (v := ?va496_14) rfl (by kernel_rfl) (by kernel_rfl) (by kernel_rfl) (fun _ _ _ h => h) (Or.inl ⟨by rfl, fun w hSw => ?ti496_14⟩) (by assumption) ?rest496_14
            case ti496_14 => ((try dsimp only at hSw); go_simp; (first | done | with_reducible rfl))
            try simp only [Act.put, List.getElem_toArray, List.getElem_cons_zero, List.getElem_cons_succ, List.setIfInBounds_toArray, List.set_cons_zero, List.set_cons_succ]
            refine wpAnyH_take (i := 15) (v := ?va499_15) rfl (by kernel_rfl) (by kernel_rfl) (by kernel_rfl) (fun _ _ _ h => h) (Or.inl ⟨by rfl, fun w hSw => ?ti499_15⟩) (by assumption) ?rest499_15
            case ti499_15 => ((try dsimp only at hSw); go_simp; (first | done | with_reducible rfl))
            try simp only [Act.put, List.getElem_toArray, List.getElem_cons_zero, List.getElem_cons_succ, List.setIfInBounds_toArray, List.set_cons_zero, List.set_cons_succ]
            refine wpAnyH_take (i := 16) (v := ?va502_16) rfl (by kernel_rfl) (by kernel_rfl) (by kernel_rfl) (fun _ _ _ h => h) (Or.inl ⟨by rfl, fun w hSw => ?ti502_16⟩) (by assumption) ?rest502_16
            case ti502_16 => ((try dsimp only at hSw); go_simp; (first | done | with_reducible rfl))
            try simp only [Act.put, List.getElem_toArray, List.getElem_cons_zero, List.getElem_cons_succ, List.setIfInBounds_toArray, List.set_cons_zero, List.set_cons_succ]
            refine wpAnyH_take (i := 17) (v := ?va505_17) rfl (by kernel_rfl) (by kernel_rfl) (by kernel_rfl) (fun _ _ _ h => h) (Or.inl ⟨by rfl, fun w hSw => ?ti505_17⟩) (by assumption) ?rest505_17
            case ti505_17 => ((try dsimp only at hSw); go_simp; (first | done | with_reducible rfl))
            try simp only [Act.put, List.getElem_toArray, List.getElem_cons_zero, List.getElem_cons_succ, List.setIfInBounds_toArray, List.set_cons_zero, List.set_cons_succ]
            refine wpAnyH_take (i := 18) (v := ?va508_18) rfl (by kernel_rfl) (by kernel_rfl) (by kernel_rfl) (fun _ _ _ h => h) (Or.inl ⟨by rfl, fun w hSw => ?ti508_18⟩) (by assumption) ?rest508_18
            case ti508_18 => ((try dsimp only at hSw); go_simp; (first | done | with_reducible rfl))
            try simp only [Act.put, List.getElem_toArray, List.getElem_cons_zero, List.getElem_cons_succ, List.setIfInBounds_toArray, List.set_cons_zero, List.set_cons_succ]
            refine wpAnyH_ready (rs := [19]) (by kernel_rfl) (by simp) ?_
            refine AllReadyH.cons rfl (fun K hK => ?_) AllReadyH.nil
            go_simp
            refine (HCl.out _).mono ?_
            intro e wc hh
            obtain ⟨rfl, x⟩ := hh
            have Xc : Hid (Ext wt wc) := Lib.hid (Ext.trans (by (repeat (first | (with_reducible exact Ext.refl _) | (with_reducible apply Ext.drew) | (with_reducible apply Ext.drewN) | (with_reducible apply Ext.alloc)))) x)
            have q1_1 := Xc.out.cell q0_1
            have q1_2 := Xc.out.cell q0_2
            have q1_3 := Xc.out.cell q0_3
            have q1_4 := Xc.out.cell q0_4
            have q1_5 := Xc.out.cell q0_5
            have q1_6 := Xc.out.cell q0_6
            have q1_7 := Xc.out.cell q0_7
            have q1_8 := Xc.out.cell q0_8
            have q1_9 := Xc.out.cell q0_9
            have q1_10 := Xc.out.cell q0_10
            have q1_11 := Xc.out.cell q0_11
            have q1_12 := Xc.out.cell q0_12
            have q1_13 := Xc.out.cell q0_13
            have q1_14 := Xc.out.cell q0_14
            go_simp
            refine hK.out _ _ ?_ (fun hHeld => ?_)
            · exact ⟨q1_1, q1_2, q1_3, q1_4, q1_5, q1_6, q1_7, q1_8, q1_9, q1_10, q1_11, q1_12, q1_13, q1_14⟩
            clear hK K x
            try simp only [Act.put, List.getElem_toArray, List.getElem_cons_zero, List.getElem_cons_succ, List.setIfInBounds_toArray, List.set_cons_zero, List.set_cons_succ]
            refine wpAnyH_take (i := 20) (v := ?va537_20) rfl (by kernel_rfl) (by kernel_rfl) (by kernel_rfl) (fun _ _ _ h => h) (Or.inl ⟨by rfl, fun w hSw => ?ti537_20⟩) (by assumption) ?rest537_20
            case ti537_20 => ((try dsimp only at hSw); go_simp; (first | done | with_reducible rfl))
            try simp only [Act.put, List.getElem_toArray, List.getElem_cons_zero, List.getElem_cons_succ, List.setIfInBounds_toArray, List.set_cons_zero, List.set_cons_succ]
            refine wpAnyH_done (by kernel_rfl) ?_ _
            have XG := Lib.hid (HY.out.trans Xc.out)
            clear q0_1 q0_2 q0_3 q0_4 q0_5 q0_6 q0_7 q0_8 q0_9 q0_10 q0_11 q0_12 q0_13 q0_14 q1_1 q1_2 q1_3 q1_4 q1_5 q1_6 q1_7 q1_8 q1_9 q1_10 q1_11 q1_12 q1_13 q1_14 Xc HY HCl
            go_wp2
            go_roundw
            case rel => exact ⟨j + 1, by omega, by go_num, XG⟩
            case measure => simp [intOf]; omega
          · obtain rfl : m' = j := by omega
            have hjl' : ¬ (m' : Int) < (m' : Int) := by omega
            go_wp2
            go_roundw
            case rel => exact ⟨k + 1, by omega, by go_num, HY⟩
            case measure => simp [intOf]; omega
      · obtain rfl : n = k := by omega
        have hlt' : ¬ (n : Int) < (n : Int) := by omega
        go_wp2_with fail
        refine ((K9b.out _ _ _ (HR2.out.ext (X23.out.trans HX.out)))).mono ?_
        rintro e w4 ⟨a3, rfl, r3, x⟩
        have X4 := Lib.hid (HX.out.trans x)
        clear b1 b2
        clear x
        have e1 := HD1.out _ (X3.out.trans X4.out)
        have e2 := HD2.out _ X4.out
        obtain ⟨w5, hw5⟩ : ∃ w5, w5 = w4.alloc (.cells #[.slice a3 n n] 27) := ⟨_, rfl⟩
        have x5 : Ext w4 w5 := by rw [hw5]; exact (Ext.refl w4).alloc _
        have bB : w5.heap[w4.heap.size]? = some (.cells #[.slice a3 n n] 27 (0, 0)) := by rw [hw5]; exact blk_at rfl
        have q0_1 := x5.cell e1
        have q0_2 := x5.cell e2
        have q0_3 : w5.cell? ⟨w4.heap.size, 0, none⟩ = some (.slice a3 n n) := by simp [World.cell?, bB]
        have HR3 := Lib.hid (r3.ext x5); have X45 := Lib.hid (X4.out.trans x5); have HW5 := Lib.hid hw5
        have X5 := Lib.hid (XW.out.trans (X3.out.trans X45.out))
        have KA := Lib.hid (fun w' (x : Ext w5 w') => K7.out w' _ _ (X5.out.trans x) (HR3.out.ext x))
        have KB := Lib.hid (fun w' (x : Ext w5 w') => K8.out w' _ _ (X5.out.trans x) (HR3.out.ext x))
        have KC := Lib.hid (fun w' (x : Ext w5 w') => K5m.out w' (X45.out.trans x))
        have HQ1 := Lib.hid (fun w' (x : Ext w5 w') => x.cell q0_1); have HQ2 := Lib.hid (fun w' (x : Ext w5 w') => x.cell q0_2); have HQ3 := Lib.hid (fun w' (x : Ext w5 w') => x.cell q0_3)
        rw [hw5] at q0_1 q0_2 q0_3
        clear x5 bB hw5 r3 K7 K8 K5m e1 e2
        have y0 := Lib.hid (Ext.refl w5)
        go_wp2_with fail
        rw [← HW5.out]
        refine ((KA.out _ (Ext.refl _))).mono ?_
        rintro e wc ⟨rfl, x⟩
        have Xc := Lib.hid (y0.out.trans x)
        clear q0_1 q0_2 q0_3 HW5
        have q1 := HQ1.out _ Xc.out
        have q2 := HQ2.out _ Xc.out
        have q3 := HQ3.out _ Xc.out
        clear x
        go_wp2_with fail
        refine ((KB.out _ Xc.out)).mono ?_
        rintro e wd ⟨rfl, x⟩
        have Xd := Lib.hid (Xc.out.trans x)
        clear q1 q2 q3
        have q1 := HQ1.out _ Xd.out
        have q2 := HQ2.out _ Xd.out
        have q3 := HQ3.out _ Xd.out
        clear x
        go_wp2_with fail
        refine ((K3.out _ (X5.out.trans Xd.out))).mono ?_
        rintro e we ⟨rfl, x⟩
        have Xe := Lib.hid (Xd.out.trans x)
        clear q1 q2 q3
        have q1 := HQ1.out _ Xe.out
        have q2 := HQ2.out _ Xe.out
        have q3 := HQ3.out _ Xe.out
        clear x
        by_cases hE : E = 0
        · subst hE
          go_wp2_with fail
          refine ((KC.out _ Xe.out)).mono ?_
          rintro e wf ⟨rfl, x⟩
          have Xf := Lib.hid (Xe.out.trans x)
          clear q1 q2 q3
          clear x
          go_wp2_with fail
          refine ((K6.out _ (X5.out.trans Xf.out))).mono ?_
          rintro e wg ⟨rfl, x⟩
          have Xg := Lib.hid (Xf.out.trans x)
          clear x
          go_wp2
          go_ret
          exact ⟨rfl, X5.out.trans Xg.out⟩
        · have hE' : (E == 0) = false := beq_eq_false_iff_ne.2 hE
          have ho' : (E != 0) = true := by rw [bne, hE']; rfl
          clear hE
          go_wp2_with fail
          refine ((K6.out _ (X5.out.trans Xe.out))).mono ?_
          rintro e wg ⟨rfl, x⟩
          have Xg := Lib.hid (Xe.out.trans x)
          clear x
          go_wp2
          go_ret
          exact ⟨rfl, X5.out.trans Xg.out⟩
end Go.Proofs.YtkolebjpeaigcaaDoor
