/- Texts of this claim in one file: libraries and walks. -/
import Derived.Test.YtlhkehfplcclgaaDoorL9
/- Linking, fastened, Undone. -/
namespace Go.Proofs.YtlhkehfplcclgaaDoor
set_option linter.unusedVariables false
set_option linter.unusedSimpArgs false
set_option maxRecDepth 8000
open Go Go.RowKit

theorem lnk_first {x : Xg} : ∀ {cr : List Xg} {k : Nat}, k < cr.length → (∀ j, j < k → cmpX (xi cr j) x ≠ 0) → cmpX (xi cr k) x = 0 → lnk cr x.a x.b = (xi cr k).n
  | [], k, h, _, _ => by simp at h
  | c :: l, 0, _, _, h => by
    rw [xi_zero] at h ⊢
    unfold lnk; rw [if_pos (show cmpX c ⟨x.a, x.b, 0⟩ = 0 from h)]
  | c :: l, k + 1, hk, h0, h => by
    have h1 := h0 0 (by omega)
    rw [xi_zero] at h1
    rw [xi_succ] at h ⊢
    unfold lnk; rw [if_neg (show ¬ cmpX c ⟨x.a, x.b, 0⟩ = 0 from h1)]
    exact lnk_first (by simp at hk; omega) (fun j hj => by have := h0 (j + 1) (by omega); rwa [xi_succ] at this) h
set_option maxHeartbeats 8000000 in
theorem Linking_calls (tv cv hv fv : Value) (f : Fab) (a b : Nm) (w : World) (h : FB w tv cv hv fv f) (h9 : f.cr.length ≤ 100000) :
    Calls Tryd.prog 24 #[.agg #[tv, cv, hv, fv], a.val, b.val] w fun e w' => e = .returned (.int .i64 (lnk f.cr (pairX a b).a (pairX a b).b)) ∧ Ext w w' := by
  obtain ⟨cc, hC⟩ := h.c
  obtain ⟨ao, n, rfl, hn, hnc, hc9, hat⟩ := hC.open
  obtain ⟨P, hP⟩ : ∃ P, P = pairX a b := ⟨_, rfl⟩
  have hP0 : P.n = 0 := by rw [hP]; unfold pairX; split <;> rfl
  obtain ⟨R, hR⟩ : ∃ R, R = lnk f.cr (pairX a b).a (pairX a b).b := ⟨_, rfl⟩
  rw [← hR]
  have HNo := Lib.hid (show (∀ j, j < n → cmpX (xi f.cr j) P ≠ 0) → R = 0 from fun hh => by rw [hR, ← hP]; exact lnk_none fun j hj => hh j (by omega))
  have HHi := Lib.hid (show ∀ k, k < n → (∀ j, j < k → cmpX (xi f.cr j) P ≠ 0) → cmpX (xi f.cr k) P = 0 → R = (xi f.cr k).n from fun k hk hh h0 => by rw [hR, ← hP]; exact lnk_first (by omega) hh h0)
  obtain ⟨C, hCx⟩ : ∃ C, C = xi f.cr := ⟨_, rfl⟩
  rw [← hCx] at HNo HHi hat
  obtain ⟨W, hW⟩ : ∃ W, W = ((w.alloc (.cells #[tv, .slice ao n cc, hv, fv] 35)).alloc (.cells #[.int .u8 a.y, .int .i64 a.n] 41)).alloc (.cells #[.int .u8 b.y, .int .i64 b.n] 41) := ⟨_, rfl⟩
  have xW : Ext w W := by rw [hW]; exact (((Ext.refl _).alloc _).alloc _).alloc _
  have HB := Lib.hid (show B4 W w.heap.size tv (.slice ao n cc) hv fv 35 by rw [hW]; exact (B4.new _ _ _ _ _ _).ext (((Ext.refl _).alloc _).alloc _))
  have hA : BN W (w.heap.size + 1) a := by rw [hW]; have := (BN.new (w.alloc (.cells #[tv, .slice ao n cc, hv, fv] 35)) a).ext ((Ext.refl _).alloc (.cells #[.int .u8 b.y, .int .i64 b.n] 41)); simpa using this
  have hBb : BN W (w.heap.size + 1 + 1) b := by rw [hW]; have := BN.new ((w.alloc (.cells #[tv, .slice ao n cc, hv, fv] 35)).alloc (.cells #[.int .u8 a.y, .int .i64 a.n] 41)) b; simpa using this
  obtain ⟨a0, a1⟩ := hA.at
  obtain ⟨b0, b1⟩ := hBb.at
  simp only [Nat.zero_add] at a1 b1
  have Hat := Lib.hid (fun i (hi : i < n) => (by obtain ⟨b, o, e, ha⟩ := hat i hi; exact ⟨b, o, e, ha.ext xW⟩ : ∃ b o, ao = some ⟨b, o, none⟩ ∧ At5 W b (o + i * 5) (C i)))
  have XW := Lib.hid xW; have HW := Lib.hid hW
  have n9 : n ≤ 100000 := by omega
  have HP := Lib.hid hP
  clear h hC hat hn hCx hR xW hW hA hBb
  unfold Nm.val
  go_enter Tryd.func24, Tryd.ntmps24
  go_wp2_with fail
  rw [← HW.out]
  clear a0 a1 b0 b1
  refine (Pair_calls a b W).mono ?_
  rintro e w1 ⟨rfl, x1⟩
  rw [← HP.out]
  obtain ⟨Pa, Pb, Pn⟩ := P
  dsimp only at hP0
  subst hP0
  unfold Xg.val
  dsimp only
  obtain ⟨W2, hW2⟩ : ∃ W2, W2 = w1.alloc (.cells #[.int .u8 Pa.y, .int .i64 Pa.n, .int .u8 Pb.y, .int .i64 Pb.n, .int .i64 0] 52) := ⟨_, rfl⟩
  obtain ⟨pb, hpb⟩ : ∃ pb, pb = w1.heap.size := ⟨_, rfl⟩
  have z2 : Ext w1 W2 := by rw [hW2]; exact (Ext.refl _).alloc _
  have X2 := Lib.hid (x1.trans z2)
  have HPb := Lib.hid (show B5 W2 pb ⟨Pa, Pb, 0⟩ 52 by rw [hW2, hpb]; exact B5.new w1 ⟨Pa, Pb, 0⟩ _)
  have fb1 := cell_alloc (HB.out.ext x1).c1 (.cells #[.int .u8 Pa.y, .int .i64 Pa.n, .int .u8 Pb.y, .int .i64 Pb.n, .int .i64 0] 52)
  have fl1 : w.heap.size < w1.heap.size := (HB.out.ext x1).lt
  have HW2 := Lib.hid hW2; have Hpb := Lib.hid hpb
  clear hP hW2 hpb z2 x1
  go_wp2
  rw [← HW2.out, ← Hpb.out]
  clear fb1 fl1
  go_loopg [9, 16] n (fun gk _ i wr => ∃ k : Nat, k + gk = n ∧ i = .int .i64 k ∧ Hid (Ext W2 wr ∧ ∀ j, j < k → cmpX (C j) ⟨Pa, Pb, 0⟩ ≠ 0))
  case atStart => exact ⟨0, by omega, rfl, Lib.hid ⟨Ext.refl _, fun j hj => by omega⟩⟩
  case round =>
    obtain ⟨k, hk, rfl, G⟩ := hrel
    by_cases hlt : k < n
    · obtain ⟨b', o', rfl, hA5⟩ := Hat.out k hlt
      have e1 : (k : Int) < n := by omega
      have e2 : (0 : Int) ≤ k := by omega
      obtain ⟨c0, c1, c2, c3, c4⟩ := hA5.ext (X2.out.trans G.out.1)
      have hhi := HHi.out k hlt G.out.2
      obtain ⟨c, hc⟩ : ∃ c, c = C k := ⟨_, rfl⟩
      rw [← hc] at c0 c1 c2 c3 c4 hhi
      obtain ⟨W3, hW3⟩ : ∃ W3, W3 = wr.alloc (.cells #[.int .u8 c.a.y, .int .i64 c.a.n, .int .u8 c.b.y, .int .i64 c.b.n, .int .i64 c.n] 52) := ⟨_, rfl⟩
      have z3 : Ext wr W3 := by rw [hW3]; exact (Ext.refl _).alloc _
      have HN3 := Lib.hid (show B5 W3 wr.heap.size c 52 by rw [hW3]; exact B5.new wr c _)
      have X3 := Lib.hid (G.out.1.trans z3)
      obtain ⟨p0, p1, p2, p3, p4⟩ := (HPb.out.ext G.out.1).at
      simp only [Nat.zero_add] at p1 p2 p3 p4
      dsimp only at p0 p1 p2 p3 p4
      have s0 := cell_alloc p0 (.cells #[.int .u8 c.a.y, .int .i64 c.a.n, .int .u8 c.b.y, .int .i64 c.b.n, .int .i64 c.n] 52)
      have s1 := cell_alloc p1 (.cells #[.int .u8 c.a.y, .int .i64 c.a.n, .int .u8 c.b.y, .int .i64 c.b.n, .int .i64 c.n] 52)
      have s2 := cell_alloc p2 (.cells #[.int .u8 c.a.y, .int .i64 c.a.n, .int .u8 c.b.y, .int .i64 c.b.n, .int .i64 c.n] 52)
      have s3 := cell_alloc p3 (.cells #[.int .u8 c.a.y, .int .i64 c.a.n, .int .u8 c.b.y, .int .i64 c.b.n, .int .i64 c.n] 52)
      have s4 := cell_alloc p4 (.cells #[.int .u8 c.a.y, .int .i64 c.a.n, .int .u8 c.b.y, .int .i64 c.b.n, .int .i64 c.n] 52)
      have sl : pb < wr.heap.size := (HPb.out.ext G.out.1).lt
      have HW3 := Lib.hid hW3; have HC := Lib.hid hc; have HH := Lib.hid hhi
      have HPr := Lib.hid (Pairs_calls c ⟨Pa, Pb, 0⟩ W3)
      unfold Xg.val at HPr
      dsimp only at HPr
      clear hW3 hc hhi hA5 z3 p0 p1 p2 p3 p4
      go_wp2_with fail
      rw [← HW3.out]
      clear c0 c1 c2 c3 c4 s0 s1 s2 s3 s4 sl
      refine HPr.out.mono ?_
      rintro e w4 ⟨rfl, x4⟩
      have X4 := Lib.hid (X3.out.trans x4)
      have c4 := (HN3.out.ext x4).at.2.2.2.2
      simp only [Nat.zero_add] at c4
      clear x4 HPr
      obtain ⟨D, hD⟩ : ∃ D, D = cmpX c ⟨Pa, Pb, 0⟩ := ⟨_, rfl⟩
      rw [← hD] at HH ⊢
      by_cases hD0 : D = 0
      · have q1 : (D == 0) = true := by rw [hD0]; rfl
        have hRc := HH.out hD0
        have HRc := Lib.hid hRc
        clear hD0 hD hRc
        go_wp2
        go_ret
        exact ⟨ret_int (by rw [HRc.out]), XW.out.trans (X2.out.trans X4.out)⟩
      · have q1 : (D == 0) = false := beq_eq_false_iff_ne.2 hD0
        have HNx := Lib.hid (show Ext W2 w4 ∧ ∀ j, j < k + 1 → cmpX (C j) ⟨Pa, Pb, 0⟩ ≠ 0 from ⟨X4.out, fun j hj => by
          rcases Nat.lt_or_ge j k with h1 | h1
          · exact G.out.2 j h1
          · obtain rfl : j = k := by omega
            rw [← HC.out, ← hD]; exact hD0⟩)
        clear hD0 hD c4
        go_wp2
        go_roundg (n - (k + 1))
        case measure => omega
        case rel => exact ⟨k + 1, by omega, by go_num, HNx⟩
    · obtain rfl : k = n := by omega
      have e1 : ¬ (k : Int) < k := by omega
      have HR0 := Lib.hid (HNo.out G.out.2)
      go_wp2
      go_ret
      exact ⟨ret_int (by rw [HR0.out]), XW.out.trans (X2.out.trans G.out.1)⟩
/-- The last loop of its yarn, and it goes through something. -/
def fastB (t : Tab) (a : Nm) : Bool := hasB t a && (decide (a.n = ((yi t (a.y - 1).toNat).length : Int) - 1) && decide (0 < (li (yi t (a.y - 1).toNat) a.n.toNat).thr.length))
set_option maxHeartbeats 8000000 in
theorem Fast_calls (tv : Value) (ct : Nat) (t : Tab) (a : Nm) (w : World) (h : TB w tv ct t) (ha : a.In) (h4 : t.length ≤ 100) (h5 : ∀ r ∈ t, r.length ≤ 1000) :
    Calls Tryd.prog 54 #[tv, a.val] w fun e w' => e = .returned (.bool (fastB t a)) ∧ Ext w w' := by
  have HHas := Lib.hid (fun w' (x : Ext w w') => Has_calls tv ct t a w' (h.ext x) ha)
  obtain ⟨ta, tn, rfl, htn, htc, ht9, htt⟩ := h.open
  obtain ⟨W, hW⟩ : ∃ W, W = w.alloc (.cells #[.int .u8 a.y, .int .i64 a.n] 41) := ⟨_, rfl⟩
  have xW : Ext w W := by rw [hW]; exact (Ext.refl _).alloc _
  have HA := Lib.hid (show BN W w.heap.size a by rw [hW]; exact BN.new w a)
  obtain ⟨B, hB⟩ : ∃ B, B = fastB t a := ⟨_, rfl⟩
  rw [← hB]
  have HB := Lib.hid (show B = (hasB t a && (decide (a.n = ((yi t (a.y - 1).toNat).length : Int) - 1) && decide (0 < (li (yi t (a.y - 1).toNat) a.n.toNat).thr.length))) from hB)
  have XW := Lib.hid xW; have HW := Lib.hid hW
  have tn9 : tn ≤ 100 := by omega
  have HT := Lib.hid (show ∀ y, y < tn → (∃ b o a m d, ta = some ⟨b, o, none⟩ ∧ w.cell? ⟨b, o + y, none⟩ = some (.slice a m d) ∧ m = (yi t y).length ∧ LR w (.slice a m d) d (yi t y)) ∧ (yi t y).length ≤ 1000 from fun y hy => ⟨htt y hy, h5 _ (yi_mem (by omega))⟩)
  have Htn := Lib.hid htn
  unfold Nm.val at HHas ⊢
  obtain ⟨q0_1, q0_2⟩ := HA.out.at
  simp only [Nat.zero_add] at q0_2
  clear h htn htt hB xW hW h4 h5 ha
  go_enter Tryd.func54, Tryd.ntmps54
  rcases hh : hasB t a with _ | _
  · rw [hh] at HHas
    have hBf := HB.out
    rw [hh, Bool.false_and] at hBf
    have HBf := Lib.hid hBf
    clear hh hBf
    go_wp2
    rw [← HW.out]
    refine wp_region_held_drew (S := fun w' => w'.cell? ⟨w.heap.size, 0, Option.none⟩ = some (.int .u8 a.y) ∧ w'.cell? ⟨w.heap.size, 1, Option.none⟩ = some (.int .i64 a.n)) (by kernel_rfl) ?_ (fun hHeld => ?_)
    · exact ⟨q0_1, q0_2⟩
    refine wpAnyH_take (i := 0) (v := ?va168_0) rfl (by kernel_rfl) (by kernel_rfl) (by kernel_rfl) (fun _ _ _ h => h) (Or.inl ⟨by rfl, fun w hSw => ?ti168_0⟩) (by assumption) ?rest168_0
    case ti168_0 => ((try dsimp only at hSw); go_simp; (first | done | with_reducible rfl))
    try simp only [Act.put, List.getElem_toArray, List.getElem_cons_zero, List.getElem_cons_succ, List.setIfInBounds_toArray, List.set_cons_zero, List.set_cons_succ]
    refine wpAnyH_take (i := 1) (v := ?va171_1) rfl (by kernel_rfl) (by kernel_rfl) (by kernel_rfl) (fun _ _ _ h => h) (Or.inl ⟨by rfl, fun w hSw => ?ti171_1⟩) (by assumption) ?rest171_1
    case ti171_1 => ((try dsimp only at hSw); go_simp; (first | done | with_reducible rfl))
    try simp only [Act.put, List.getElem_toArray, List.getElem_cons_zero, List.getElem_cons_succ, List.setIfInBounds_toArray, List.set_cons_zero, List.set_cons_succ]
    refine wpAnyH_ready (rs := [2]) (by kernel_rfl) (by simp) ?_
    refine AllReadyH.cons rfl (fun K hK => ?_) AllReadyH.nil
    go_simp
    refine (HHas.out _ ?_).mono ?_
    · (refine Ext.trans XW.out ?_; (repeat (first | (with_reducible exact Ext.refl _) | (with_reducible apply Ext.drew) | (with_reducible apply Ext.drewN) | (with_reducible apply Ext.alloc))))
    intro e w2 hh
    obtain ⟨rfl, x⟩ := hh
    have Xa : Hid (Ext W w2) := Lib.hid (Ext.trans (by ((repeat (first | (with_reducible exact Ext.refl _) | (with_reducible apply Ext.drew) | (with_reducible apply Ext.drewN) | (with_reducible apply Ext.alloc))); done)) x)
    have q1_1 := Xa.out.cell q0_1
    have q1_2 := Xa.out.cell q0_2
    go_simp
    refine hK.out _ _ ?_ (fun hHeld => ?_)
    · exact ⟨q1_1, q1_2⟩
    clear hK K x
    try simp only [Act.put, List.getElem_toArray, List.getElem_cons_zero, List.getElem_cons_succ, List.setIfInBounds_toArray, List.set_cons_zero, List.set_cons_succ]
    refine wpAnyH_take (i := 3) (v := ?va189_3) rfl (by kernel_rfl) (by kernel_rfl) (by kernel_rfl) (fun _ _ _ h => h) (Or.inl ⟨by rfl, fun w hSw => ?ti189_3⟩) (by assumption) ?rest189_3
    case ti189_3 => ((try dsimp only at hSw); go_simp; (first | done | with_reducible rfl))
    try simp only [Act.put, List.getElem_toArray, List.getElem_cons_zero, List.getElem_cons_succ, List.setIfInBounds_toArray, List.set_cons_zero, List.set_cons_succ]
    refine wpAnyH_take (i := 4) (v := ?va192_4) rfl (by kernel_rfl) (by kernel_rfl) (by kernel_rfl) (fun _ _ _ h => h) (Or.inl ⟨by rfl, fun w hSw => ?ti192_4⟩) (by assumption) ?rest192_4
    case ti192_4 => ((try dsimp only at hSw); go_simp; (first | done | with_reducible rfl))
    try simp only [Act.put, List.getElem_toArray, List.getElem_cons_zero, List.getElem_cons_succ, List.setIfInBounds_toArray, List.set_cons_zero, List.set_cons_succ]
    refine wpAnyH_take (i := 5) (v := undef) rfl (by kernel_rfl) (by kernel_rfl) (by kernel_rfl) (fun _ _ _ h => h) (Or.inr ⟨by rfl, rfl⟩) (by assumption) ?_
    try simp only [Act.put, List.getElem_toArray, List.getElem_cons_zero, List.getElem_cons_succ, List.setIfInBounds_toArray, List.set_cons_zero, List.set_cons_succ]
    refine wpAnyH_take (i := 6) (v := undef) rfl (by kernel_rfl) (by kernel_rfl) (by kernel_rfl) (fun _ _ _ h => h) (Or.inr ⟨by rfl, rfl⟩) (by assumption) ?_
    try simp only [Act.put, List.getElem_toArray, List.getElem_cons_zero, List.getElem_cons_succ, List.setIfInBounds_toArray, List.set_cons_zero, List.set_cons_succ]
    refine wpAnyH_take (i := 7) (v := undef) rfl (by kernel_rfl) (by kernel_rfl) (by kernel_rfl) (fun _ _ _ h => h) (Or.inr ⟨by rfl, rfl⟩) (by assumption) ?_
    try simp only [Act.put, List.getElem_toArray, List.getElem_cons_zero, List.getElem_cons_succ, List.setIfInBounds_toArray, List.set_cons_zero, List.set_cons_succ]
    refine wpAnyH_take (i := 8) (v := undef) rfl (by kernel_rfl) (by kernel_rfl) (by kernel_rfl) (fun _ _ _ h => h) (Or.inr ⟨by rfl, rfl⟩) (by assumption) ?_
    try simp only [Act.put, List.getElem_toArray, List.getElem_cons_zero, List.getElem_cons_succ, List.setIfInBounds_toArray, List.set_cons_zero, List.set_cons_succ]
    refine wpAnyH_take (i := 9) (v := undef) rfl (by kernel_rfl) (by kernel_rfl) (by kernel_rfl) (fun _ _ _ h => h) (Or.inr ⟨by rfl, rfl⟩) (by assumption) ?_
    try simp only [Act.put, List.getElem_toArray, List.getElem_cons_zero, List.getElem_cons_succ, List.setIfInBounds_toArray, List.set_cons_zero, List.set_cons_succ]
    refine wpAnyH_take (i := 10) (v := undef) rfl (by kernel_rfl) (by kernel_rfl) (by kernel_rfl) (fun _ _ _ h => h) (Or.inr ⟨by rfl, rfl⟩) (by assumption) ?_
    try simp only [Act.put, List.getElem_toArray, List.getElem_cons_zero, List.getElem_cons_succ, List.setIfInBounds_toArray, List.set_cons_zero, List.set_cons_succ]
    refine wpAnyH_take (i := 11) (v := undef) rfl (by kernel_rfl) (by kernel_rfl) (by kernel_rfl) (fun _ _ _ h => h) (Or.inr ⟨by rfl, rfl⟩) (by assumption) ?_
    try simp only [Act.put, List.getElem_toArray, List.getElem_cons_zero, List.getElem_cons_succ, List.setIfInBounds_toArray, List.set_cons_zero, List.set_cons_succ]
    refine wpAnyH_take (i := 12) (v := undef) rfl (by kernel_rfl) (by kernel_rfl) (by kernel_rfl) (fun _ _ _ h => h) (Or.inr ⟨by rfl, rfl⟩) (by assumption) ?_
    try simp only [Act.put, List.getElem_toArray, List.getElem_cons_zero, List.getElem_cons_succ, List.setIfInBounds_toArray, List.set_cons_zero, List.set_cons_succ]
    refine wpAnyH_take (i := 13) (v := undef) rfl (by kernel_rfl) (by kernel_rfl) (by kernel_rfl) (fun _ _ _ h => h) (Or.inr ⟨by rfl, rfl⟩) (by assumption) ?_
    try simp only [Act.put, List.getElem_toArray, List.getElem_cons_zero, List.getElem_cons_succ, List.setIfInBounds_toArray, List.set_cons_zero, List.set_cons_succ]
    refine wpAnyH_take (i := 14) (v := undef) rfl (by kernel_rfl) (by kernel_rfl) (by kernel_rfl) (fun _ _ _ h => h) (Or.inr ⟨by rfl, rfl⟩) (by assumption) ?_
    try simp only [Act.put, List.getElem_toArray, List.getElem_cons_zero, List.getElem_cons_succ, List.setIfInBounds_toArray, List.set_cons_zero, List.set_cons_succ]
    refine wpAnyH_take (i := 15) (v := undef) rfl (by kernel_rfl) (by kernel_rfl) (by kernel_rfl) (fun _ _ _ h => h) (Or.inr ⟨by rfl, rfl⟩) (by assumption) ?_
    try simp only [Act.put, List.getElem_toArray, List.getElem_cons_zero, List.getElem_cons_succ, List.setIfInBounds_toArray, List.set_cons_zero, List.set_cons_succ]
    refine wpAnyH_take (i := 16) (v := ?va217_16) rfl (by kernel_rfl) (by kernel_rfl) (by kernel_rfl) (fun _ _ _ h => h) (Or.inl ⟨by rfl, fun w hSw => ?ti217_16⟩) (by assumption) ?rest217_16
    case ti217_16 => ((try dsimp only at hSw); go_simp; (first | done | with_reducible rfl))
    try simp only [Act.put, List.getElem_toArray, List.getElem_cons_zero, List.getElem_cons_succ, List.setIfInBounds_toArray, List.set_cons_zero, List.set_cons_succ]
    refine wpAnyH_done (by kernel_rfl) ?_ _
    go_wp2
    go_ret
    exact ⟨ret_bool (by rw [HBf.out]), XW.out.trans Xa.out⟩
  · rw [hh] at HHas
    have hBf := HB.out
    rw [hh, Bool.true_and] at hBf
    obtain ⟨z, m2, rfl, hz, hm2⟩ := hasB_iff hh
    dsimp only at hBf q0_1 q0_2 HHas ⊢
    rw [show ((z : Int) + 1 - 1).toNat = z by omega, Int.toNat_natCast] at hBf
    obtain ⟨⟨b1, o1, ra, rm, rd, rfl, hc, hrm, hLR⟩, hr9⟩ := HT.out z (by rw [Htn.out]; exact hz)
    rw [← hrm] at hBf hm2
    have q0_3 := XW.out.cell hc
    have hz9 : z < tn := by rw [Htn.out]; exact hz
    have u1 : IntKind.u8.wrap ((z : Int) + 1 - 1) = z := by rw [show (z : Int) + 1 - 1 = z by omega]; exact IntWalk.u8_in _ ⟨by omega, by omega⟩
    have u2 : IntKind.u8.wrap (z : Int) = z := IntWalk.u8_in _ ⟨by omega, by omega⟩
    have u3 : (0 : Int) ≤ z := by omega
    have u4 : (z : Int) < tn := by omega
    have u5 : IntKind.i64.wrap ((rm : Int) - 1) = (rm : Int) - 1 := IntWalk.i64_in _ ⟨by omega, by omega⟩
    obtain ⟨a', n', e, hn', _, _, hat⟩ := hLR.open
    have e2 : ra = a' ∧ rm = n' := by simpa using e
    obtain ⟨b2, o2, c1, n1, d1, c2, n2, d2, hra, hAL, hn1, _, _, _⟩ := hat m2 (by omega)
    rw [← e2.1] at hra
    subst hra
    rw [← hn1] at hBf
    have HAL := Lib.hid hAL
    have HBf := Lib.hid hBf
    by_cases hl : (m2 : Int) = (rm : Int) - 1
    · have v1 : ((m2 : Int) != (rm : Int) - 1) = false := by rw [hl]; simp
      have v2 : B = decide (0 < n1) := by rw [hBf, decide_eq_true hl, Bool.true_and]
      have HV2 := Lib.hid v2
      have v3 : (0 : Int) ≤ m2 := by omega
      have v4 : (m2 : Int) < rm := by omega
      clear hh hBf hc hrm hLR hr9 hat e hn' e2 hn1 hAL hz hm2 v2 hl
      go_wp2
      rw [← HW.out]
      go_region_held3 (fun w' => w'.cell? ⟨w.heap.size, 0, Option.none⟩ = some (.int .u8 ((z : Int) + 1)) ∧ w'.cell? ⟨w.heap.size, 1, Option.none⟩ = some (.int .i64 (m2 : Int)) ∧ w'.cell? ⟨b1, o1 + z, Option.none⟩ = some (.slice (some ⟨b2, o2, Option.none⟩) rm rd)) (first | (with_reducible exact ⟨q0_1, q0_2, q0_3⟩) | (with_reducible exact ⟨q1_1, q1_2, q1_3⟩) | go_keep) (first
        | (go_at_call 48; (refine (HHas.out _ ?_).mono ?_); (focus (refine Ext.trans XW.out ?_; (focus (repeat (first | (with_reducible exact Ext.refl _) | (with_reducible apply Ext.drew) | (with_reducible apply Ext.drewN) | (with_reducible apply Ext.alloc)))))); intro e w2 hh; obtain ⟨rfl, x⟩ := hh; have Xa : Hid (Ext W w2) := Lib.hid (Ext.trans (by ((repeat (first | (with_reducible exact Ext.refl _) | (with_reducible apply Ext.drew) | (with_reducible apply Ext.drewN) | (with_reducible apply Ext.alloc))); done)) x); have q1_1 := Xa.out.cell q0_1; have q1_2 := Xa.out.cell q0_2; have q1_3 := Xa.out.cell q0_3; clear x))
      have k2 := (HAL.out.ext (XW.out.trans Xa.out)).2.2.1
      go_wp2
      go_quiet (fail)
      go_wp2
      go_ret
      exact ⟨ret_bool (by rw [HV2.out]), XW.out.trans (Xa.out.trans ((Ext.refl _).drewN _))⟩
    · have v1 : ((m2 : Int) != (rm : Int) - 1) = true := by rw [bne, beq_eq_false_iff_ne.2 hl]; rfl
      have v2 : B = false := by rw [hBf, decide_eq_false hl, Bool.false_and]
      have HV2 := Lib.hid v2
      clear hh hBf hc hrm hLR hr9 hat e hn' e2 hn1 hAL hz hm2 v2 hl
      go_wp2
      rw [← HW.out]
      go_region_held3 (fun w' => w'.cell? ⟨w.heap.size, 0, Option.none⟩ = some (.int .u8 ((z : Int) + 1)) ∧ w'.cell? ⟨w.heap.size, 1, Option.none⟩ = some (.int .i64 (m2 : Int)) ∧ w'.cell? ⟨b1, o1 + z, Option.none⟩ = some (.slice (some ⟨b2, o2, Option.none⟩) rm rd)) (first | (with_reducible exact ⟨q0_1, q0_2, q0_3⟩) | (with_reducible exact ⟨q1_1, q1_2, q1_3⟩) | go_keep) (first
        | (go_at_call 48; (refine (HHas.out _ ?_).mono ?_); (focus (refine Ext.trans XW.out ?_; (focus (repeat (first | (with_reducible exact Ext.refl _) | (with_reducible apply Ext.drew) | (with_reducible apply Ext.drewN) | (with_reducible apply Ext.alloc)))))); intro e w2 hh; obtain ⟨rfl, x⟩ := hh; have Xa : Hid (Ext W w2) := Lib.hid (Ext.trans (by ((repeat (first | (with_reducible exact Ext.refl _) | (with_reducible apply Ext.drew) | (with_reducible apply Ext.drewN) | (with_reducible apply Ext.alloc))); done)) x); have q1_1 := Xa.out.cell q0_1; have q1_2 := Xa.out.cell q0_2; have q1_3 := Xa.out.cell q0_3; clear x))
      go_wp2
      go_ret
      exact ⟨ret_bool (by rw [HV2.out]), XW.out.trans Xa.out⟩
end Go.Proofs.YtlhkehfplcclgaaDoor
/- Undone. -/
namespace Go.Proofs.YtlhkehfplcclgaaDoor
set_option linter.unusedVariables false
set_option linter.unusedSimpArgs false
set_option maxRecDepth 8000
open Go Go.RowKit

def und (t : Tab) (l : List Nm) : List Nm := l.filter fun a => !fastB t a
theorem und_yes {t : Tab} {l : List Nm} {k : Nat} (hk : k < l.length) (h : fastB t (ni l k) = false) : und t (l.take (k + 1)) = und t (l.take k) ++ [ni l k] := by
  unfold und
  rw [ni_of hk] at h ⊢
  rw [List.take_succ_eq_append_getElem hk, List.filter_append]
  simp [h]
theorem und_no {t : Tab} {l : List Nm} {k : Nat} (hk : k < l.length) (h : fastB t (ni l k) = true) : und t (l.take (k + 1)) = und t (l.take k) := by
  unfold und
  rw [ni_of hk] at h
  rw [List.take_succ_eq_append_getElem hk, List.filter_append]
  simp [h]
theorem und_len (t : Tab) (l : List Nm) : (und t l).length ≤ l.length := List.length_filter_le _ _
set_option maxHeartbeats 8000000 in
theorem Undone_calls (tv cv hv fv : Value) (f : Fab) (w : World) (h : FB w tv cv hv fv f) (hin : FIn f) :
    Calls Tryd.prog 17 #[.agg #[tv, cv, hv, fv]] w (RetK w 41 ((und f.ys f.fallen).map Nm.cs)) := by
  obtain ⟨ct, hT⟩ := h.t
  obtain ⟨cf, hF⟩ := h.f
  have HFa := Lib.hid (fun w' a (x : Ext w w') (ha : Nm.In a) => Fast_calls tv ct f.ys a w' (hT.ext x) ha hin.n4 hin.n5)
  obtain ⟨ta, tn, rfl, o1, _, _, _⟩ := hT.open
  obtain ⟨ao, n, rfl, hn, hnc, hc9, hat⟩ := hF.open
  have n9 : n ≤ 1000 := by have := hin.n2; omega
  obtain ⟨W, hW⟩ : ∃ W, W = w.alloc (.cells #[.slice ta tn ct, cv, hv, .slice ao n cf] 35) := ⟨_, rfl⟩
  have xW : Ext w W := by rw [hW]; exact (Ext.refl _).alloc _
  have HB := Lib.hid (show B4 W w.heap.size (.slice ta tn ct) cv hv (.slice ao n cf) 35 by rw [hW]; exact B4.new _ _ _ _ _ _)
  have Hat := Lib.hid (fun i (hi : i < n) => (by obtain ⟨b, o, e, ha⟩ := hat i hi; exact ⟨⟨b, o, e, ha.ext xW⟩, hin.fallen _ (ni_mem (by omega))⟩ : (∃ b o, ao = some ⟨b, o, none⟩ ∧ At2 W b (o + i * 2) (ni f.fallen i)) ∧ (ni f.fallen i).In))
  obtain ⟨U, hU⟩ : ∃ U : Nat → List Nm, U = fun k => und f.ys (f.fallen.take k) := ⟨_, rfl⟩
  have HU0 := Lib.hid (show U 0 = [] by rw [hU]; rfl)
  have HUy := Lib.hid (show ∀ k, k < n → fastB f.ys (ni f.fallen k) = false → U (k + 1) = U k ++ [ni f.fallen k] from fun k hk hh => by rw [hU]; exact und_yes (by omega) hh)
  have HUn := Lib.hid (show ∀ k, k < n → fastB f.ys (ni f.fallen k) = true → U (k + 1) = U k from fun k hk hh => by rw [hU]; exact und_no (by omega) hh)
  have hul : ∀ k, (U k).length ≤ 1000 := fun k => by
    rw [hU]
    have h1 := und_len f.ys (f.fallen.take k)
    have h2 : (f.fallen.take k).length ≤ f.fallen.length := by simp; omega
    dsimp only
    omega
  have HUl := Lib.hid hul
  clear hul
  have HUE := Lib.hid (show und f.ys f.fallen = U n by rw [hU, hn]; dsimp only; rw [List.take_length])
  have XW := Lib.hid xW; have HW := Lib.hid hW
  rw [HUE.out]
  clear h hT hF hat hin hn hU xW hW o1
  go_enter Tryd.func17, Tryd.ntmps17
  have p3 := HB.out.c3
  rw [HW.out] at p3
  go_wp2
  rw [← HW.out]
  clear p3
  go_loopg [3, 5, 9] n (fun gk r _ i wr => ∃ k : Nat, k + gk = n ∧ i = .int .i64 k ∧ Hid (Ext W wr ∧ wr.ownsRow W.heap.size 41 2 r (U k).length ((U k).map Nm.cs).flatten))
  case atStart => exact ⟨0, by omega, rfl, Lib.hid ⟨Ext.refl _, by rw [HU0.out]; exact own_none _ _ _ _⟩⟩
  case round =>
    obtain ⟨k, hk, rfl, G⟩ := hrel
    obtain ⟨ar, cr, hr, _⟩ := own_slice G.out.2
    obtain ⟨L, hL⟩ : ∃ L, L = (U k).length := ⟨_, rfl⟩
    have hL9 := HUl.out k
    rw [← hL] at hr hL9
    subst hr
    have HL := Lib.hid hL
    clear hL
    by_cases hlt : k < n
    · obtain ⟨⟨b', o', rfl, hA⟩, hIn⟩ := Hat.out k hlt
      have e1 : (k : Int) < n := by omega
      have e2 : (0 : Int) ≤ k := by omega
      obtain ⟨c0, c1⟩ := hA.ext G.out.1
      have huy := HUy.out k hlt
      have hun := HUn.out k hlt
      obtain ⟨a, ha⟩ : ∃ a, a = ni f.fallen k := ⟨_, rfl⟩
      rw [← ha] at c0 c1 hIn huy hun
      obtain ⟨W3, hW3⟩ : ∃ W3, W3 = wr.alloc (.cells #[.int .u8 a.y, .int .i64 a.n] 41) := ⟨_, rfl⟩
      have z3 : Ext wr W3 := by rw [hW3]; exact (Ext.refl _).alloc _
      have HN3 := Lib.hid (show BN W3 wr.heap.size a by rw [hW3]; exact BN.new wr a)
      have X3 := Lib.hid (G.out.1.trans z3)
      have Z3 := Lib.hid z3
      have s0 := cell_alloc (HB.out.ext G.out.1).c0 (.cells #[.int .u8 a.y, .int .i64 a.n] 41)
      have sl : w.heap.size < wr.heap.size := (HB.out.ext G.out.1).lt
      have HW3 := Lib.hid hW3; have HIn := Lib.hid hIn; have HY := Lib.hid huy; have HN := Lib.hid hun
      clear hW3 ha hIn hA z3 huy hun
      go_wp2_with fail
      rw [← HW3.out]
      clear c0 c1 s0 sl
      refine (HFa.out W3 a (XW.out.trans X3.out) HIn.out).mono ?_
      rintro e w4 ⟨rfl, x4⟩
      have X4 := Lib.hid (X3.out.trans x4)
      have HO4 := Lib.hid (own_extk G.out.2 (Z3.out.trans x4))
      obtain ⟨c0, c1⟩ := (HN3.out.ext x4).at
      simp only [Nat.zero_add] at c1
      clear x4
      rcases hfb : fastB f.ys a with _ | _
      · have HU1 := Lib.hid (HY.out hfb)
        clear hfb
        have hown4 := HO4.out
        rw [← HL.out] at hown4
        have HO5 := Lib.hid hown4
        clear hown4
        go_wp2_with (at_builtin; refine app_k ekN rfl _ _ rfl W.heap.size _ L ((U k).map Nm.cs) rfl (own_extk HO5.out ((Ext.refl _).alloc _)) _ 1 [Nm.cs a] rfl (CK.of_blk (Deep.blk_alloc_new _ _) (Ks.nm [a]) rfl (Nat.le_refl _) (by omega) rfl) (Ks.nm [a]) ?c1 ?c2 ?c3 ?_)
        case c1 => simp; omega
        case c2 => simp; omega
        case c3 => have h1 := X4.out.size; simp; omega
        intro v5 w5 hown hgr
        have HNx := Lib.hid (show Ext W w5 ∧ (w5.ownsRow W.heap.size 41 2 v5 (U (k + 1)).length ((U (k + 1)).map Nm.cs).flatten) from ⟨Ext.grown (X4.out.trans ((Ext.refl _).alloc _)) hgr fun j hj => (HO5.out.lt j hj).1, by rw [HU1.out, List.length_append, List.map_append, ← HL.out]; simpa using hown⟩)
        clear hown hgr
        go_wp2
        go_roundg (n - (k + 1))
        case measure => omega
        case rel => exact ⟨k + 1, by omega, by go_num, HNx⟩
      · have HU1 := Lib.hid (HN.out hfb)
        have HNx := Lib.hid (show Ext W w4 ∧ (w4.ownsRow W.heap.size 41 2 (.slice ar L cr) (U (k + 1)).length ((U (k + 1)).map Nm.cs).flatten) from ⟨X4.out, by rw [HU1.out]; exact HO4.out⟩)
        clear hfb
        go_wp2
        go_roundg (n - (k + 1))
        case measure => omega
        case rel => exact ⟨k + 1, by omega, by go_num, HNx⟩
    · obtain rfl : k = n := by omega
      have e1 : ¬ (k : Int) < k := by omega
      obtain ⟨cq, hq⟩ := CK.of_own G.out.2 (Ks.nm _) (by simp) (by decide)
      have HCp := Lib.hid (CopN_calls _ cq ((U k).map Nm.cs) wr hq (Ks.nm _) (by have := HUl.out k; simp; omega))
      clear hq
      go_wp2_with fail
      refine HCp.out.mono ?_
      rintro e w9 ⟨g9, n9', hn9, rfl, hg9, hb9, x9⟩
      have HE := Lib.hid (show RetK w 41 ((U k).map Nm.cs) (.returned (.slice (some ⟨g9, 0, none⟩) n9' n9')) w9 from ⟨g9, n9', hn9, rfl, by have := (XW.out.trans G.out.1).size; omega, hb9, XW.out.trans (G.out.1.trans x9)⟩)
      clear hn9 hg9 hb9 x9
      go_wp2
      go_ret
      exact HE.out
end Go.Proofs.YtlhkehfplcclgaaDoor
