/- Texts of this claim in one file: libraries and walks. -/
import Derived.Deep.QuietTactic
import Derived.Deep.RegionHeld3
import Derived.BigQuiet
import Derived.Test.YtlmkcojimhbmiaaL12
/- ganseyref15.Above. -/
namespace Go.Proofs.Ytlmkcojimhbmiaa
set_option linter.unusedVariables false
set_option linter.unusedSimpArgs false
set_option maxRecDepth 8000
open Go Go.RowKit

set_option maxHeartbeats 8000000 in
theorem RAbove_calls (v : Value) (c : Nat) (bs : List (List (List St))) (w : World) (h : BB w v c bs) (hl : bs.length ≤ 100) (hh : ∀ k, k < bs.length → (bw bs k).length ≤ 1000) (hr : ∀ k, k < bs.length → ∀ i, i < (bw bs k).length → (sw (bw bs k) i).length ≤ 1000) :
    Calls Try.prog 22 #[v] w (RetCF w (aboR bs) (aboE bs)) := by
  obtain ⟨ao, n, rfl, hn, hc, hcm, hat⟩ := h.open
  unfold maxLen at hcm
  obtain ⟨W, hW⟩ : ∃ W, W = w.alloc (.cells #[.slice none 0 0] 24) := ⟨_, rfl⟩
  have xW : Ext w W := by rw [hW]; exact (Ext.refl w).alloc _
  have hWs : W.heap.size = w.heap.size + 1 := by rw [hW]; simp
  have hres : W.heap[w.heap.size]? = some (Obj.cells #[.slice none 0 0] 24 (0, 0)) := by rw [hW]; exact blk_at rfl
  obtain ⟨W2, hW2⟩ : ∃ W2, W2 = W.alloc (.cells #[.slice none 0 0] 24) := ⟨_, rfl⟩
  have x2 : Ext W W2 := by rw [hW2]; exact (Ext.refl W).alloc _
  have hout : W2.heap[w.heap.size + 1]? = some (Obj.cells #[.slice none 0 0] 24 (0, 0)) := by rw [hW2]; exact blk_at hWs.symm
  have HRes := Lib.hid (fun w' (x : Ext W w') => x.block hres)
  have hbad : ∀ w' e, Ext w w' → aboE bs = e → e ≠ 0 → RetCF w (aboR bs) (aboE bs) (.returned (.tuple #[.agg #[.slice none 0 0], .int .i64 e])) (w'.setCell ⟨w.heap.size, 0, none⟩ (.slice none 0 0)) := fun w' e x he h0 => by
    rw [aboR_bad (by omega), he]
    exact ⟨_, 0, rfl, RR.nil _, x.setCell (Nat.le_refl _) _⟩
  have hfl : bs.flatten.length ≤ 100000 := by
    have := flat_bd (M := 1000) bs (fun x hx => by
      obtain ⟨k, hk, rfl⟩ := List.mem_iff_getElem.1 hx
      have := hh k hk
      rwa [bw_of_lt hk] at this)
    have : bs.length * 1000 ≤ 100 * 1000 := Nat.mul_le_mul_right _ hl
    omega
  have XW := Lib.hid xW; have X2 := Lib.hid x2; have HBad := Lib.hid hbad; have HW := Lib.hid hW; have HW2 := Lib.hid hW2; have HA := Lib.hid hat; have Hn := Lib.hid hn; have HWs := Lib.hid hWs
  have Hr := Lib.hid hr; have Hh := Lib.hid hh; have HFl := Lib.hid hfl
  have HOut := Lib.hid hout
  have HCO0 := Lib.hid (show CO W W2 (.slice none 0 0) (preB bs 0 0) by simpa [preB] using CO.nil x2)
  have hn100 : n ≤ 100 := by omega
  clear hat h hn hW hW2 xW x2 hres hout hbad hr hh hWs hl hfl
  go_enter Try.func22, Try.ntmps22
  go_wp2
  rw [← HW.out, ← HW2.out]
  go_loopw [5, 6] (fun i _ wr => ∃ (k : Nat) (vr : Value), k ≤ n ∧ i = .int .i64 k ∧ Hid (CO W wr vr (preB bs k 0)) ∧ Hid (wr.heap[w.heap.size + 1]? = some (Obj.cells #[vr] 24 (0, 0)))) (fun i _ _ => n - (intOf i).toNat)
  case atStart => exact ⟨0, _, Nat.zero_le _, rfl, HCO0, HOut⟩
  case round =>
    obtain ⟨k, vr, hk, rfl, HC, HO⟩ := hrel
    by_cases hlt : k < n
    · obtain ⟨b, o, a, m, d, rfl, y1, y2, y3⟩ := HA.out k hlt
      have t3 : (k : Int) < n := by omega
      obtain ⟨a2, m2, e1, e2, e3, e4, e5⟩ := y3.open
      simp only [Value.slice.injEq] at e1
      obtain ⟨rfl, rfl, _⟩ := e1
      have HR5 := Lib.hid e5; have Hm := Lib.hid y2
      have HY1 := Lib.hid (fun w' (x : Ext w w') => x.cell y1)
      have hm1000 : m ≤ 1000 := by rw [y2]; exact Hh.out k (by have := Hn.out; omega)
      clear y1 y2 y3 e2 e3 e4 e5
      go_wp2
      go_loopw [6] (fun i wr => ∃ (j : Nat) (vr : Value), j ≤ m ∧ i = .int .i64 j ∧ Hid (CO W wr vr (preB bs k j)) ∧ Hid (wr.heap[w.heap.size + 1]? = some (Obj.cells #[vr] 24 (0, 0)))) (fun i _ => m - (intOf i).toNat)
      case atStart => exact ⟨0, vr, Nat.zero_le _, rfl, HC, HO⟩
      case round =>
        obtain ⟨j, vr, hj, rfl, HC, HO⟩ := hrel
        obtain ⟨va, vn, vc, hvf, hvn⟩ := HC.out.form
        subst hvf
        have xx := XW.out.trans HC.out.1
        have y1 := HY1.out _ xx
        have XX := Lib.hid xx
        clear xx hvn
        by_cases hlt2 : j < m
        · obtain ⟨b', o', a', m', d', rfl, z1, z2⟩ := HR5.out j hlt2
          have t4 : (j : Int) < m := by omega
          have z0 := XX.out.cell z1
          have HZ := Lib.hid (fun w' (x : Ext w w') => x.cell z1)
          have HRS := Lib.hid z2
          have hml : m' = (sw (bw bs k) j).length := by
            obtain ⟨_, e, _⟩ := z2
            simp only [Value.slice.injEq] at e
            exact e.2.1
          have hjm : j < (bw bs k).length := by rw [← Hm.out]; exact hlt2
          have Hln := Lib.hid (Hr.out k (by have := Hn.out; omega) j hjm)
          have HPl := Lib.hid (preB_le (bs := bs) (k := k) (j := j) (by have := Hn.out; omega))
          have HPn := Lib.hid (preB_row hjm)
          have Hml := Lib.hid hml
          have a0 : wr.cell? ⟨w.heap.size + 1, 0, none⟩ = some (.slice va vn vc) := by simp [World.cell?, HO.out]
          have a1 : ∀ o, (wr.alloc o).cell? ⟨w.heap.size + 1, 0, none⟩ = some (.slice va vn vc) := fun o => cell_alloc a0 o
          obtain ⟨wb, hwb⟩ : ∃ wb : World, wb = wr := ⟨_, rfl⟩
          rw [← hwb] at HC HO XX a0 a1 y1 z0 ⊢
          clear hwb z1 z2 hml hjm
          go_upto_region 8 with fail
          have q0_1 := y1; have q0_2 := z0
          refine wp_region_held_drew (S := fun w' => w'.cell? ⟨b, o + k, Option.none⟩ = some (.slice (some ⟨b', o', Option.none⟩) m d) ∧ w'.cell? ⟨b', o' + j, Option.none⟩ = some (.slice a' m' d')) (by kernel_rfl) ?_ (fun hHeld => ?_)
          · exact ⟨q0_1, q0_2⟩
          refine wpAnyH_take (i := 0) (v := ?va92_0) rfl (by kernel_rfl) (by kernel_rfl) (by kernel_rfl) (fun _ _ _ h => h) (Or.inl ⟨by rfl, fun w hSw => ?ti92_0⟩) (by assumption) ?rest92_0
          case ti92_0 => ((try dsimp only at hSw); go_simp; (first | done | with_reducible rfl))
          try simp only [Act.put, List.getElem_toArray, List.getElem_cons_zero, List.getElem_cons_succ, List.setIfInBounds_toArray, List.set_cons_zero, List.set_cons_succ]
          refine wpAnyH_take (i := 3) (v := ?va95_3) rfl (by kernel_rfl) (by kernel_rfl) (by kernel_rfl) (fun _ _ _ h => h) (Or.inl ⟨by rfl, fun w hSw => ?ti95_3⟩) (by assumption) ?rest95_3
          case ti95_3 => ((try dsimp only at hSw); go_simp; (first | done | with_reducible rfl))
          try simp only [Act.put, List.getElem_toArray, List.getElem_cons_zero, List.getElem_cons_succ, List.setIfInBounds_toArray, List.set_cons_zero, List.set_cons_succ]
          refine wpAnyH_take (i := 4) (v := ?va98_4) rfl (by kernel_rfl) (by kernel_rfl) (by kernel_rfl) (fun _ _ _ h => h) (Or.inl ⟨by rfl, fun w hSw => ?ti98_4⟩) (by assumption) ?rest98_4
          case ti98_4 => ((try dsimp only at hSw); go_simp; (first | done | with_reducible rfl))
          try simp only [Act.put, List.getElem_toArray, List.getElem_cons_zero, List.getElem_cons_succ, List.setIfInBounds_toArray, List.set_cons_zero, List.set_cons_succ]
          refine wpAnyH_take (i := 5) (v := ?va101_5) rfl (by kernel_rfl) (by kernel_rfl) (by kernel_rfl) (fun _ _ _ h => h) (Or.inl ⟨by rfl, fun w hSw => ?ti101_5⟩) (by assumption) ?rest101_5
          case ti101_5 => ((try dsimp only at hSw); go_simp; (first | done | with_reducible rfl))
          try simp only [Act.put, List.getElem_toArray, List.getElem_cons_zero, List.getElem_cons_succ, List.setIfInBounds_toArray, List.set_cons_zero, List.set_cons_succ]
          refine wpAnyH_take (i := 6) (v := ?va104_6) rfl (by kernel_rfl) (by kernel_rfl) (by kernel_rfl) (fun _ _ _ h => h) (Or.inl ⟨by rfl, fun w hSw => ?ti104_6⟩) (by assumption) ?rest104_6
          case ti104_6 => ((try dsimp only at hSw); go_simp; (first | done | with_reducible rfl))
          try simp only [Act.put, List.getElem_toArray, List.getElem_cons_zero, List.getElem_cons_succ, List.setIfInBounds_toArray, List.set_cons_zero, List.set_cons_succ]
          refine wpAnyH_take (i := 7) (v := ?va107_7) rfl (by kernel_rfl) (by kernel_rfl) (by kernel_rfl) (fun _ _ _ h => h) (Or.inl ⟨by rfl, fun w hSw => ?ti107_7⟩) (by assumption) ?rest107_7
          case ti107_7 => ((try dsimp only at hSw); go_simp; (first | done | with_reducible rfl))
          try simp only [Act.put, List.getElem_toArray, List.getElem_cons_zero, List.getElem_cons_succ, List.setIfInBounds_toArray, List.set_cons_zero, List.set_cons_succ]
          refine wpAnyH_take (i := 8) (v := ?va110_8) rfl (by kernel_rfl) (by kernel_rfl) (by kernel_rfl) (fun _ _ _ h => h) (Or.inl ⟨by rfl, fun w hSw => ?ti110_8⟩) (by assumption) ?rest110_8
          case ti110_8 => ((try dsimp only at hSw); go_simp; (first | done | with_reducible rfl))
          try simp only [Act.put, List.getElem_toArray, List.getElem_cons_zero, List.getElem_cons_succ, List.setIfInBounds_toArray, List.set_cons_zero, List.set_cons_succ]
          refine wpAnyH_take (i := 9) (v := ?va113_9) rfl (by kernel_rfl) (by kernel_rfl) (by kernel_rfl) (fun _ _ _ h => h) (Or.inl ⟨by rfl, fun w hSw => ?ti113_9⟩) (by assumption) ?rest113_9
          case ti113_9 => ((try dsimp only at hSw); go_simp; (first | done | with_reducible rfl))
          try simp only [Act.put, List.getElem_toArray, List.getElem_cons_zero, List.getElem_cons_succ, List.setIfInBounds_toArray, List.set_cons_zero, List.set_cons_succ]
          refine wpAnyH_take (i := 10) (v := ?va116_10) rfl (by kernel_rfl) (by kernel_rfl) (by kernel_rfl) (fun _ _ _ h => h) (Or.inl ⟨by rfl, fun w hSw => ?ti116_10⟩) (by assumption) ?rest116_10
          case ti116_10 => ((try dsimp only at hSw); go_simp; (first | done | with_reducible rfl))
          try simp only [Act.put, List.getElem_toArray, List.getElem_cons_zero, List.getElem_cons_succ, List.setIfInBounds_toArray, List.set_cons_zero, List.set_cons_succ]
          refine wpAnyH_ready (rs := [1, 2]) (by kernel_rfl) (by simp) ?_
          refine AllReadyH.cons rfl (fun K hK => ?_) (AllReadyH.cons rfl (fun K hK => ?_) AllReadyH.nil)
          · go_simp
            refine hK.out _ _ ?_ (fun hHeld => ?_)
            · exact ⟨HY1.out _ (XX.out.trans (by (repeat (first | (with_reducible exact Ext.refl _) | (with_reducible apply Ext.drew) | (with_reducible apply Ext.drewN) | (with_reducible apply Ext.alloc))))), HZ.out _ (XX.out.trans (by (repeat (first | (with_reducible exact Ext.refl _) | (with_reducible apply Ext.drew) | (with_reducible apply Ext.drewN) | (with_reducible apply Ext.alloc)))))⟩
            clear hK K
            try simp only [Act.put, List.getElem_toArray, List.getElem_cons_zero, List.getElem_cons_succ, List.setIfInBounds_toArray, List.set_cons_zero, List.set_cons_succ]
            refine wpAnyH_ready (rs := [2]) (by kernel_rfl) (by simp) ?_
            refine AllReadyH.cons rfl (fun K hK => ?_) AllReadyH.nil
            go_simp
            refine hK.out _ _ ?_ (fun hHeld => ?_)
            · exact ⟨HY1.out _ (XX.out.trans (by (repeat (first | (with_reducible exact Ext.refl _) | (with_reducible apply Ext.drew) | (with_reducible apply Ext.drewN) | (with_reducible apply Ext.alloc))))), HZ.out _ (XX.out.trans (by (repeat (first | (with_reducible exact Ext.refl _) | (with_reducible apply Ext.drew) | (with_reducible apply Ext.drewN) | (with_reducible apply Ext.alloc)))))⟩
            clear hK K
            try simp only [Act.put, List.getElem_toArray, List.getElem_cons_zero, List.getElem_cons_succ, List.setIfInBounds_toArray, List.set_cons_zero, List.set_cons_succ]
            refine wpAnyH_ready (rs := [11]) (by kernel_rfl) (by simp) ?_
            refine AllReadyH.cons rfl (fun K hK => ?_) AllReadyH.nil
            (refine step_app_rs (by rfl) (.tmp 25) (.tmp 33) (by rfl) wb.heap.size (.slice (some ⟨wb.heap.size, 0, none⟩) 0 0) 0 [] (by rfl) ?_ (.slice a' m' d') d' (sw (bw bs k) j) (by rfl) ?_ ?_ ?_ ?_; (focus (refine own_zero ?_ ?_; (focus (repeat (first | (with_reducible exact blk_at rfl) | (with_reducible refine blk_at ?_; simp; done) | (with_reducible apply blk_drew) | (with_reducible apply blk_drewN) | (with_reducible apply blk_old)))); (focus exact Nat.le_refl _))); (focus (refine HRS.out.ext (XX.out.trans ?_); (repeat (first | (with_reducible exact Ext.refl _) | (with_reducible apply Ext.drew) | (with_reducible apply Ext.drewN) | (with_reducible apply Ext.alloc))))); (focus (have := Hln.out; omega)); (focus (first | (exact Nat.le_refl _) | (simp; done) | (simp; omega))); intro v9 w9 o9 g9; have x9 : Hid (Ext wb w9) := Lib.hid (Ext.grown (by (repeat (first | (with_reducible exact Ext.refl _) | (with_reducible apply Ext.drew) | (with_reducible apply Ext.drewN) | (with_reducible apply Ext.alloc)))) g9 (by intro k' hk'; simp [Value.ownBlock] at hk'; omega)); obtain ⟨a9, n9, c9, hv9, hn9⟩ := (RV.of_own (l := sw (bw bs k) j) (by simpa using o9)).1.form; subst hv9; clear hn9; have H9 : Hid (RV w9 (.slice a9 n9 c9) (sw (bw bs k) j)) := Lib.hid (RV.of_own (l := sw (bw bs k) j) (by simpa using o9)).1; clear o9 g9; have p0 := x9.out.cell a0; have p1 : ∀ o, (w9.alloc o).cell? ⟨w.heap.size + 1, 0, none⟩ = some (.slice va vn vc) := fun o => cell_alloc p0 o)
            refine hK.out _ _ ?_ (fun hHeld => ?_)
            · exact ⟨HY1.out _ (XX.out.trans (by (repeat (first | (with_reducible exact x9.out) | (with_reducible exact Ext.refl _) | (with_reducible apply Ext.drew) | (with_reducible apply Ext.drewN) | (with_reducible apply Ext.alloc))))), HZ.out _ (XX.out.trans (by (repeat (first | (with_reducible exact x9.out) | (with_reducible exact Ext.refl _) | (with_reducible apply Ext.drew) | (with_reducible apply Ext.drewN) | (with_reducible apply Ext.alloc)))))⟩
            clear hK K
            try simp only [Act.put, List.getElem_toArray, List.getElem_cons_zero, List.getElem_cons_succ, List.setIfInBounds_toArray, List.set_cons_zero, List.set_cons_succ]
            refine wpAnyH_ready (rs := [12]) (by kernel_rfl) (by simp) ?_
            refine AllReadyH.cons rfl (fun K hK => ?_) AllReadyH.nil
            go_simp
            refine hK.out _ _ ?_ (fun hHeld => ?_)
            · exact ⟨HY1.out _ (XX.out.trans (by (repeat (first | (with_reducible exact x9.out) | (with_reducible exact Ext.refl _) | (with_reducible apply Ext.drew) | (with_reducible apply Ext.drewN) | (with_reducible apply Ext.alloc))))), HZ.out _ (XX.out.trans (by (repeat (first | (with_reducible exact x9.out) | (with_reducible exact Ext.refl _) | (with_reducible apply Ext.drew) | (with_reducible apply Ext.drewN) | (with_reducible apply Ext.alloc)))))⟩
            clear hK K
            try simp only [Act.put, List.getElem_toArray, List.getElem_cons_zero, List.getElem_cons_succ, List.setIfInBounds_toArray, List.set_cons_zero, List.set_cons_succ]
            refine wpAnyH_ready (rs := [13]) (by kernel_rfl) (by simp) ?_
            refine AllReadyH.cons rfl (fun K hK => ?_) AllReadyH.nil
            (refine step_app_row (by rfl) (.tmp 24) (.tmp 35) (by rfl) W (.slice va vn vc) (preB bs k j) (by rfl) (HC.out.later x9.out) (.slice a9 n9 c9) (sw (bw bs k) j) H9.out w9.heap.size (by rfl) rfl (by have := HPl.out; have := HFl.out; omega) ?_; intro v13 w13 hco hkeep; have hA13 := hkeep _ _ _ _ (x9.out.block HO.out) (by decide); obtain ⟨a13, n13, c13, hv13, hn13⟩ := hco.form; subst hv13; clear hn13; have b1 : w13.cell? ⟨w.heap.size + 1, 0, none⟩ = some (.slice va vn vc) := by { simp [World.cell?, hA13] }; have b2 : w13.frozen? ⟨w.heap.size + 1, 0, none⟩ = false := by { simp [World.frozen?, hA13] }; have X13 := Lib.hid (XW.out.trans hco.1); have HN1 := Lib.hid (show CO W (w13.setCell ⟨w.heap.size + 1, 0, none⟩ (.slice a13 n13 c13)) (.slice a13 n13 c13) (preB bs k (j + 1)) by { rw [HPn.out]; exact hco.setOther (a := ⟨w.heap.size + 1, 0, none⟩) hA13 (by decide) (by decide) (by { rw [HWs.out]; exact Nat.le_refl _ }) }); have HN2 := Lib.hid (blk_one hA13 (.slice a13 n13 c13)); clear hco hkeep hA13)
            refine hK.out _ _ ?_ (fun hHeld => ?_)
            · exact ⟨HY1.out _ X13.out, HZ.out _ X13.out⟩
            clear hK K
            try simp only [Act.put, List.getElem_toArray, List.getElem_cons_zero, List.getElem_cons_succ, List.setIfInBounds_toArray, List.set_cons_zero, List.set_cons_succ]
            refine wpAnyH_ready (rs := [14]) (by kernel_rfl) (by simp) ?_
            refine AllReadyH.cons rfl (fun K hK => ?_) AllReadyH.nil
            go_simp
            refine hK.out _ _ ?_ (fun hHeld => ?_)
            · exact ⟨HY1.out _ X13.out, HZ.out _ X13.out⟩
            clear hK K
            try simp only [Act.put, List.getElem_toArray, List.getElem_cons_zero, List.getElem_cons_succ, List.setIfInBounds_toArray, List.set_cons_zero, List.set_cons_succ]
            refine wpAnyH_ready (rs := [15]) (by kernel_rfl) (by simp) ?_
            refine AllReadyH.cons rfl (fun K hK => ?_) AllReadyH.nil
            go_simp
            refine hK.out _ _ ?_ (fun hHeld => ?_)
            · exact ⟨HY1.out _ (X13.out.setCell (Nat.le_succ _) _), HZ.out _ (X13.out.setCell (Nat.le_succ _) _)⟩
            clear hK K
            try simp only [Act.put, List.getElem_toArray, List.getElem_cons_zero, List.getElem_cons_succ, List.setIfInBounds_toArray, List.set_cons_zero, List.set_cons_succ]
            refine wpAnyH_done (by kernel_rfl) ?_ _
            clear b1 b2 p0 p1 a0 a1 y1 z0 q0_1 q0_2
            go_wp2
            go_roundw
            case rel => exact ⟨j + 1, _, by omega, by go_num, HN1, HN2⟩
            case measure => simp [intOf]; omega
          · go_simp
            refine hK.out _ _ ?_ (fun hHeld => ?_)
            · exact ⟨HY1.out _ (XX.out.trans (by (repeat (first | (with_reducible exact Ext.refl _) | (with_reducible apply Ext.drew) | (with_reducible apply Ext.drewN) | (with_reducible apply Ext.alloc))))), HZ.out _ (XX.out.trans (by (repeat (first | (with_reducible exact Ext.refl _) | (with_reducible apply Ext.drew) | (with_reducible apply Ext.drewN) | (with_reducible apply Ext.alloc)))))⟩
            clear hK K
            try simp only [Act.put, List.getElem_toArray, List.getElem_cons_zero, List.getElem_cons_succ, List.setIfInBounds_toArray, List.set_cons_zero, List.set_cons_succ]
            refine wpAnyH_ready (rs := [1, 11]) (by kernel_rfl) (by simp) ?_
            refine AllReadyH.cons rfl (fun K hK => ?_) (AllReadyH.cons rfl (fun K hK => ?_) AllReadyH.nil)
            · go_simp
              refine hK.out _ _ ?_ (fun hHeld => ?_)
              · exact ⟨HY1.out _ (XX.out.trans (by (repeat (first | (with_reducible exact Ext.refl _) | (with_reducible apply Ext.drew) | (with_reducible apply Ext.drewN) | (with_reducible apply Ext.alloc))))), HZ.out _ (XX.out.trans (by (repeat (first | (with_reducible exact Ext.refl _) | (with_reducible apply Ext.drew) | (with_reducible apply Ext.drewN) | (with_reducible apply Ext.alloc)))))⟩
              clear hK K
              try simp only [Act.put, List.getElem_toArray, List.getElem_cons_zero, List.getElem_cons_succ, List.setIfInBounds_toArray, List.set_cons_zero, List.set_cons_succ]
              refine wpAnyH_ready (rs := [11]) (by kernel_rfl) (by simp) ?_
              refine AllReadyH.cons rfl (fun K hK => ?_) AllReadyH.nil
              (refine step_app_rs (by rfl) (.tmp 25) (.tmp 33) (by rfl) wb.heap.size (.slice (some ⟨wb.heap.size, 0, none⟩) 0 0) 0 [] (by rfl) ?_ (.slice a' m' d') d' (sw (bw bs k) j) (by rfl) ?_ ?_ ?_ ?_; (focus (refine own_zero ?_ ?_; (focus (repeat (first | (with_reducible exact blk_at rfl) | (with_reducible refine blk_at ?_; simp; done) | (with_reducible apply blk_drew) | (with_reducible apply blk_drewN) | (with_reducible apply blk_old)))); (focus exact Nat.le_refl _))); (focus (refine HRS.out.ext (XX.out.trans ?_); (repeat (first | (with_reducible exact Ext.refl _) | (with_reducible apply Ext.drew) | (with_reducible apply Ext.drewN) | (with_reducible apply Ext.alloc))))); (focus (have := Hln.out; omega)); (focus (first | (exact Nat.le_refl _) | (simp; done) | (simp; omega))); intro v9 w9 o9 g9; have x9 : Hid (Ext wb w9) := Lib.hid (Ext.grown (by (repeat (first | (with_reducible exact Ext.refl _) | (with_reducible apply Ext.drew) | (with_reducible apply Ext.drewN) | (with_reducible apply Ext.alloc)))) g9 (by intro k' hk'; simp [Value.ownBlock] at hk'; omega)); obtain ⟨a9, n9, c9, hv9, hn9⟩ := (RV.of_own (l := sw (bw bs k) j) (by simpa using o9)).1.form; subst hv9; clear hn9; have H9 : Hid (RV w9 (.slice a9 n9 c9) (sw (bw bs k) j)) := Lib.hid (RV.of_own (l := sw (bw bs k) j) (by simpa using o9)).1; clear o9 g9; have p0 := x9.out.cell a0; have p1 : ∀ o, (w9.alloc o).cell? ⟨w.heap.size + 1, 0, none⟩ = some (.slice va vn vc) := fun o => cell_alloc p0 o)
              refine hK.out _ _ ?_ (fun hHeld => ?_)
              · exact ⟨HY1.out _ (XX.out.trans (by (repeat (first | (with_reducible exact x9.out) | (with_reducible exact Ext.refl _) | (with_reducible apply Ext.drew) | (with_reducible apply Ext.drewN) | (with_reducible apply Ext.alloc))))), HZ.out _ (XX.out.trans (by (repeat (first | (with_reducible exact x9.out) | (with_reducible exact Ext.refl _) | (with_reducible apply Ext.drew) | (with_reducible apply Ext.drewN) | (with_reducible apply Ext.alloc)))))⟩
              clear hK K
              try simp only [Act.put, List.getElem_toArray, List.getElem_cons_zero, List.getElem_cons_succ, List.setIfInBounds_toArray, List.set_cons_zero, List.set_cons_succ]
              refine wpAnyH_ready (rs := [12]) (by kernel_rfl) (by simp) ?_
              refine AllReadyH.cons rfl (fun K hK => ?_) AllReadyH.nil
              go_simp
              refine hK.out _ _ ?_ (fun hHeld => ?_)
              · exact ⟨HY1.out _ (XX.out.trans (by (repeat (first | (with_reducible exact x9.out) | (with_reducible exact Ext.refl _) | (with_reducible apply Ext.drew) | (with_reducible apply Ext.drewN) | (with_reducible apply Ext.alloc))))), HZ.out _ (XX.out.trans (by (repeat (first | (with_reducible exact x9.out) | (with_reducible exact Ext.refl _) | (with_reducible apply Ext.drew) | (with_reducible apply Ext.drewN) | (with_reducible apply Ext.alloc)))))⟩
              clear hK K
              try simp only [Act.put, List.getElem_toArray, List.getElem_cons_zero, List.getElem_cons_succ, List.setIfInBounds_toArray, List.set_cons_zero, List.set_cons_succ]
              refine wpAnyH_ready (rs := [13]) (by kernel_rfl) (by simp) ?_
              refine AllReadyH.cons rfl (fun K hK => ?_) AllReadyH.nil
              (refine step_app_row (by rfl) (.tmp 24) (.tmp 35) (by rfl) W (.slice va vn vc) (preB bs k j) (by rfl) (HC.out.later x9.out) (.slice a9 n9 c9) (sw (bw bs k) j) H9.out w9.heap.size (by rfl) rfl (by have := HPl.out; have := HFl.out; omega) ?_; intro v13 w13 hco hkeep; have hA13 := hkeep _ _ _ _ (x9.out.block HO.out) (by decide); obtain ⟨a13, n13, c13, hv13, hn13⟩ := hco.form; subst hv13; clear hn13; have b1 : w13.cell? ⟨w.heap.size + 1, 0, none⟩ = some (.slice va vn vc) := by { simp [World.cell?, hA13] }; have b2 : w13.frozen? ⟨w.heap.size + 1, 0, none⟩ = false := by { simp [World.frozen?, hA13] }; have X13 := Lib.hid (XW.out.trans hco.1); have HN1 := Lib.hid (show CO W (w13.setCell ⟨w.heap.size + 1, 0, none⟩ (.slice a13 n13 c13)) (.slice a13 n13 c13) (preB bs k (j + 1)) by { rw [HPn.out]; exact hco.setOther (a := ⟨w.heap.size + 1, 0, none⟩) hA13 (by decide) (by decide) (by { rw [HWs.out]; exact Nat.le_refl _ }) }); have HN2 := Lib.hid (blk_one hA13 (.slice a13 n13 c13)); clear hco hkeep hA13)
              refine hK.out _ _ ?_ (fun hHeld => ?_)
              · exact ⟨HY1.out _ X13.out, HZ.out _ X13.out⟩
              clear hK K
              try simp only [Act.put, List.getElem_toArray, List.getElem_cons_zero, List.getElem_cons_succ, List.setIfInBounds_toArray, List.set_cons_zero, List.set_cons_succ]
              refine wpAnyH_ready (rs := [14]) (by kernel_rfl) (by simp) ?_
              refine AllReadyH.cons rfl (fun K hK => ?_) AllReadyH.nil
              go_simp
              refine hK.out _ _ ?_ (fun hHeld => ?_)
              · exact ⟨HY1.out _ X13.out, HZ.out _ X13.out⟩
              clear hK K
              try simp only [Act.put, List.getElem_toArray, List.getElem_cons_zero, List.getElem_cons_succ, List.setIfInBounds_toArray, List.set_cons_zero, List.set_cons_succ]
              refine wpAnyH_ready (rs := [15]) (by kernel_rfl) (by simp) ?_
              refine AllReadyH.cons rfl (fun K hK => ?_) AllReadyH.nil
              go_simp
              refine hK.out _ _ ?_ (fun hHeld => ?_)
              · exact ⟨HY1.out _ (X13.out.setCell (Nat.le_succ _) _), HZ.out _ (X13.out.setCell (Nat.le_succ _) _)⟩
              clear hK K
              try simp only [Act.put, List.getElem_toArray, List.getElem_cons_zero, List.getElem_cons_succ, List.setIfInBounds_toArray, List.set_cons_zero, List.set_cons_succ]
              refine wpAnyH_done (by kernel_rfl) ?_ _
              clear b1 b2 p0 p1 a0 a1 y1 z0 q0_1 q0_2
              go_wp2
              go_roundw
              case rel => exact ⟨j + 1, _, by omega, by go_num, HN1, HN2⟩
              case measure => simp [intOf]; omega
            · (refine step_app_rs (by rfl) (.tmp 25) (.tmp 33) (by rfl) wb.heap.size (.slice (some ⟨wb.heap.size, 0, none⟩) 0 0) 0 [] (by rfl) ?_ (.slice a' m' d') d' (sw (bw bs k) j) (by rfl) ?_ ?_ ?_ ?_; (focus (refine own_zero ?_ ?_; (focus (repeat (first | (with_reducible exact blk_at rfl) | (with_reducible refine blk_at ?_; simp; done) | (with_reducible apply blk_drew) | (with_reducible apply blk_drewN) | (with_reducible apply blk_old)))); (focus exact Nat.le_refl _))); (focus (refine HRS.out.ext (XX.out.trans ?_); (repeat (first | (with_reducible exact Ext.refl _) | (with_reducible apply Ext.drew) | (with_reducible apply Ext.drewN) | (with_reducible apply Ext.alloc))))); (focus (have := Hln.out; omega)); (focus (first | (exact Nat.le_refl _) | (simp; done) | (simp; omega))); intro v9 w9 o9 g9; have x9 : Hid (Ext wb w9) := Lib.hid (Ext.grown (by (repeat (first | (with_reducible exact Ext.refl _) | (with_reducible apply Ext.drew) | (with_reducible apply Ext.drewN) | (with_reducible apply Ext.alloc)))) g9 (by intro k' hk'; simp [Value.ownBlock] at hk'; omega)); obtain ⟨a9, n9, c9, hv9, hn9⟩ := (RV.of_own (l := sw (bw bs k) j) (by simpa using o9)).1.form; subst hv9; clear hn9; have H9 : Hid (RV w9 (.slice a9 n9 c9) (sw (bw bs k) j)) := Lib.hid (RV.of_own (l := sw (bw bs k) j) (by simpa using o9)).1; clear o9 g9; have p0 := x9.out.cell a0; have p1 : ∀ o, (w9.alloc o).cell? ⟨w.heap.size + 1, 0, none⟩ = some (.slice va vn vc) := fun o => cell_alloc p0 o)
              refine hK.out _ _ ?_ (fun hHeld => ?_)
              · exact ⟨HY1.out _ (XX.out.trans (by (repeat (first | (with_reducible exact x9.out) | (with_reducible exact Ext.refl _) | (with_reducible apply Ext.drew) | (with_reducible apply Ext.drewN) | (with_reducible apply Ext.alloc))))), HZ.out _ (XX.out.trans (by (repeat (first | (with_reducible exact x9.out) | (with_reducible exact Ext.refl _) | (with_reducible apply Ext.drew) | (with_reducible apply Ext.drewN) | (with_reducible apply Ext.alloc)))))⟩
              clear hK K
              try simp only [Act.put, List.getElem_toArray, List.getElem_cons_zero, List.getElem_cons_succ, List.setIfInBounds_toArray, List.set_cons_zero, List.set_cons_succ]
              refine wpAnyH_ready (rs := [1, 12]) (by kernel_rfl) (by simp) ?_
              refine AllReadyH.cons rfl (fun K hK => ?_) (AllReadyH.cons rfl (fun K hK => ?_) AllReadyH.nil)
              · go_simp
                refine hK.out _ _ ?_ (fun hHeld => ?_)
                · exact ⟨HY1.out _ (XX.out.trans (by (repeat (first | (with_reducible exact x9.out) | (with_reducible exact Ext.refl _) | (with_reducible apply Ext.drew) | (with_reducible apply Ext.drewN) | (with_reducible apply Ext.alloc))))), HZ.out _ (XX.out.trans (by (repeat (first | (with_reducible exact x9.out) | (with_reducible exact Ext.refl _) | (with_reducible apply Ext.drew) | (with_reducible apply Ext.drewN) | (with_reducible apply Ext.alloc)))))⟩
                clear hK K
                try simp only [Act.put, List.getElem_toArray, List.getElem_cons_zero, List.getElem_cons_succ, List.setIfInBounds_toArray, List.set_cons_zero, List.set_cons_succ]
                refine wpAnyH_ready (rs := [12]) (by kernel_rfl) (by simp) ?_
                refine AllReadyH.cons rfl (fun K hK => ?_) AllReadyH.nil
                go_simp
                refine hK.out _ _ ?_ (fun hHeld => ?_)
                · exact ⟨HY1.out _ (XX.out.trans (by (repeat (first | (with_reducible exact x9.out) | (with_reducible exact Ext.refl _) | (with_reducible apply Ext.drew) | (with_reducible apply Ext.drewN) | (with_reducible apply Ext.alloc))))), HZ.out _ (XX.out.trans (by (repeat (first | (with_reducible exact x9.out) | (with_reducible exact Ext.refl _) | (with_reducible apply Ext.drew) | (with_reducible apply Ext.drewN) | (with_reducible apply Ext.alloc)))))⟩
                clear hK K
                try simp only [Act.put, List.getElem_toArray, List.getElem_cons_zero, List.getElem_cons_succ, List.setIfInBounds_toArray, List.set_cons_zero, List.set_cons_succ]
                refine wpAnyH_ready (rs := [13]) (by kernel_rfl) (by simp) ?_
                refine AllReadyH.cons rfl (fun K hK => ?_) AllReadyH.nil
                (refine step_app_row (by rfl) (.tmp 24) (.tmp 35) (by rfl) W (.slice va vn vc) (preB bs k j) (by rfl) (HC.out.later x9.out) (.slice a9 n9 c9) (sw (bw bs k) j) H9.out w9.heap.size (by rfl) rfl (by have := HPl.out; have := HFl.out; omega) ?_; intro v13 w13 hco hkeep; have hA13 := hkeep _ _ _ _ (x9.out.block HO.out) (by decide); obtain ⟨a13, n13, c13, hv13, hn13⟩ := hco.form; subst hv13; clear hn13; have b1 : w13.cell? ⟨w.heap.size + 1, 0, none⟩ = some (.slice va vn vc) := by { simp [World.cell?, hA13] }; have b2 : w13.frozen? ⟨w.heap.size + 1, 0, none⟩ = false := by { simp [World.frozen?, hA13] }; have X13 := Lib.hid (XW.out.trans hco.1); have HN1 := Lib.hid (show CO W (w13.setCell ⟨w.heap.size + 1, 0, none⟩ (.slice a13 n13 c13)) (.slice a13 n13 c13) (preB bs k (j + 1)) by { rw [HPn.out]; exact hco.setOther (a := ⟨w.heap.size + 1, 0, none⟩) hA13 (by decide) (by decide) (by { rw [HWs.out]; exact Nat.le_refl _ }) }); have HN2 := Lib.hid (blk_one hA13 (.slice a13 n13 c13)); clear hco hkeep hA13)
                refine hK.out _ _ ?_ (fun hHeld => ?_)
                · exact ⟨HY1.out _ X13.out, HZ.out _ X13.out⟩
                clear hK K
                try simp only [Act.put, List.getElem_toArray, List.getElem_cons_zero, List.getElem_cons_succ, List.setIfInBounds_toArray, List.set_cons_zero, List.set_cons_succ]
                refine wpAnyH_ready (rs := [14]) (by kernel_rfl) (by simp) ?_
                refine AllReadyH.cons rfl (fun K hK => ?_) AllReadyH.nil
                go_simp
                refine hK.out _ _ ?_ (fun hHeld => ?_)
                · exact ⟨HY1.out _ X13.out, HZ.out _ X13.out⟩
                clear hK K
                try simp only [Act.put, List.getElem_toArray, List.getElem_cons_zero, List.getElem_cons_succ, List.setIfInBounds_toArray, List.set_cons_zero, List.set_cons_succ]
                refine wpAnyH_ready (rs := [15]) (by kernel_rfl) (by simp) ?_
                refine AllReadyH.cons rfl (fun K hK => ?_) AllReadyH.nil
                go_simp
                refine hK.out _ _ ?_ (fun hHeld => ?_)
                · exact ⟨HY1.out _ (X13.out.setCell (Nat.le_succ _) _), HZ.out _ (X13.out.setCell (Nat.le_succ _) _)⟩
                clear hK K
                try simp only [Act.put, List.getElem_toArray, List.getElem_cons_zero, List.getElem_cons_succ, List.setIfInBounds_toArray, List.set_cons_zero, List.set_cons_succ]
                refine wpAnyH_done (by kernel_rfl) ?_ _
                clear b1 b2 p0 p1 a0 a1 y1 z0 q0_1 q0_2
                go_wp2
                go_roundw
                case rel => exact ⟨j + 1, _, by omega, by go_num, HN1, HN2⟩
                case measure => simp [intOf]; omega
              · go_simp
                refine hK.out _ _ ?_ (fun hHeld => ?_)
                · exact ⟨HY1.out _ (XX.out.trans (by (repeat (first | (with_reducible exact x9.out) | (with_reducible exact Ext.refl _) | (with_reducible apply Ext.drew) | (with_reducible apply Ext.drewN) | (with_reducible apply Ext.alloc))))), HZ.out _ (XX.out.trans (by (repeat (first | (with_reducible exact x9.out) | (with_reducible exact Ext.refl _) | (with_reducible apply Ext.drew) | (with_reducible apply Ext.drewN) | (with_reducible apply Ext.alloc)))))⟩
                clear hK K
                try simp only [Act.put, List.getElem_toArray, List.getElem_cons_zero, List.getElem_cons_succ, List.setIfInBounds_toArray, List.set_cons_zero, List.set_cons_succ]
                refine wpAnyH_ready (rs := [1]) (by kernel_rfl) (by simp) ?_
                refine AllReadyH.cons rfl (fun K hK => ?_) AllReadyH.nil
                go_simp
                refine hK.out _ _ ?_ (fun hHeld => ?_)
                · exact ⟨HY1.out _ (XX.out.trans (by (repeat (first | (with_reducible exact x9.out) | (with_reducible exact Ext.refl _) | (with_reducible apply Ext.drew) | (with_reducible apply Ext.drewN) | (with_reducible apply Ext.alloc))))), HZ.out _ (XX.out.trans (by (repeat (first | (with_reducible exact x9.out) | (with_reducible exact Ext.refl _) | (with_reducible apply Ext.drew) | (with_reducible apply Ext.drewN) | (with_reducible apply Ext.alloc)))))⟩
                clear hK K
                try simp only [Act.put, List.getElem_toArray, List.getElem_cons_zero, List.getElem_cons_succ, List.setIfInBounds_toArray, List.set_cons_zero, List.set_cons_succ]
                refine wpAnyH_ready (rs := [13]) (by kernel_rfl) (by simp) ?_
                refine AllReadyH.cons rfl (fun K hK => ?_) AllReadyH.nil
                (refine step_app_row (by rfl) (.tmp 24) (.tmp 35) (by rfl) W (.slice va vn vc) (preB bs k j) (by rfl) (HC.out.later x9.out) (.slice a9 n9 c9) (sw (bw bs k) j) H9.out w9.heap.size (by rfl) rfl (by have := HPl.out; have := HFl.out; omega) ?_; intro v13 w13 hco hkeep; have hA13 := hkeep _ _ _ _ (x9.out.block HO.out) (by decide); obtain ⟨a13, n13, c13, hv13, hn13⟩ := hco.form; subst hv13; clear hn13; have b1 : w13.cell? ⟨w.heap.size + 1, 0, none⟩ = some (.slice va vn vc) := by { simp [World.cell?, hA13] }; have b2 : w13.frozen? ⟨w.heap.size + 1, 0, none⟩ = false := by { simp [World.frozen?, hA13] }; have X13 := Lib.hid (XW.out.trans hco.1); have HN1 := Lib.hid (show CO W (w13.setCell ⟨w.heap.size + 1, 0, none⟩ (.slice a13 n13 c13)) (.slice a13 n13 c13) (preB bs k (j + 1)) by { rw [HPn.out]; exact hco.setOther (a := ⟨w.heap.size + 1, 0, none⟩) hA13 (by decide) (by decide) (by { rw [HWs.out]; exact Nat.le_refl _ }) }); have HN2 := Lib.hid (blk_one hA13 (.slice a13 n13 c13)); clear hco hkeep hA13)
                refine hK.out _ _ ?_ (fun hHeld => ?_)
                · exact ⟨HY1.out _ X13.out, HZ.out _ X13.out⟩
                clear hK K
                try simp only [Act.put, List.getElem_toArray, List.getElem_cons_zero, List.getElem_cons_succ, List.setIfInBounds_toArray, List.set_cons_zero, List.set_cons_succ]
                refine wpAnyH_ready (rs := [14]) (by kernel_rfl) (by simp) ?_
                refine AllReadyH.cons rfl (fun K hK => ?_) AllReadyH.nil
                go_simp
                refine hK.out _ _ ?_ (fun hHeld => ?_)
                · exact ⟨HY1.out _ X13.out, HZ.out _ X13.out⟩
                clear hK K
                try simp only [Act.put, List.getElem_toArray, List.getElem_cons_zero, List.getElem_cons_succ, List.setIfInBounds_toArray, List.set_cons_zero, List.set_cons_succ]
                refine wpAnyH_ready (rs := [15]) (by kernel_rfl) (by simp) ?_
                refine AllReadyH.cons rfl (fun K hK => ?_) AllReadyH.nil
                go_simp
                refine hK.out _ _ ?_ (fun hHeld => ?_)
                · exact ⟨HY1.out _ (X13.out.setCell (Nat.le_succ _) _), HZ.out _ (X13.out.setCell (Nat.le_succ _) _)⟩
                clear hK K
                try simp only [Act.put, List.getElem_toArray, List.getElem_cons_zero, List.getElem_cons_succ, List.setIfInBounds_toArray, List.set_cons_zero, List.set_cons_succ]
                refine wpAnyH_done (by kernel_rfl) ?_ _
                clear b1 b2 p0 p1 a0 a1 y1 z0 q0_1 q0_2
                go_wp2
                go_roundw
                case rel => exact ⟨j + 1, _, by omega, by go_num, HN1, HN2⟩
                case measure => simp [intOf]; omega
        · obtain rfl : m = j := by omega
          have t4 : ¬ (m : Int) < m := by omega
          have HC8 := Lib.hid (show CO W wr (.slice va vn vc) (preB bs (k + 1) 0) by rw [preB_next (by have := Hn.out; omega), ← Hm.out]; exact HC.out)
          go_wp2
          go_roundw
          case rel => exact ⟨k + 1, _, by omega, by go_num, HC8, HO⟩
          case measure => simp [intOf]; omega
    · obtain rfl : n = k := by omega
      have t3 : ¬ (n : Int) < n := by omega
      obtain ⟨va, vn, vc, hvf, hvn⟩ := HC.out.form
      subst hvf
      have a1 : wr.cell? ⟨w.heap.size + 1, 0, none⟩ = some (.slice va vn vc) := by simp [World.cell?, HO.out]
      have hrows : preB bs n 0 = bs.flatten := by rw [Hn.out, preB_all]
      have hE := aboE_ref (bs := bs)
      obtain ⟨cc, hrr⟩ := HC.out.rr
      rw [hrows] at hrr
      have hlg := fun w' (x : Ext wr w') => Large_calls _ cc bs.flatten w' (hrr.ext x)
      obtain ⟨LG, hLG⟩ : ∃ LG, LG = lrg bs.flatten := ⟨_, rfl⟩
      have hlgv : LG = 0 ∨ LG = 1 := by rw [hLG]; unfold lrg; split <;> simp
      rw [← hLG] at hlg hE
      rw [← Hn.out] at hE
      have HLg := Lib.hid hlg; have HE := Lib.hid hE; have HRR := Lib.hid hrr
      have XC := Lib.hid HC.out.1
      obtain ⟨w4, hw4⟩ : ∃ w4 : World, w4 = wr := ⟨_, rfl⟩
      rw [← hw4] at HLg HRR HO XC a1 ⊢
      have HCC := Lib.hid (show CO W w4 (.slice va vn vc) bs.flatten by rw [hw4, ← hrows]; exact HC.out)
      clear hlg hE hrr hrows hLG hvn hw4 HC
      have HBT := Lib.hid (show ∀ w5, Ext w4 w5 → aboE bs = 3 → RetCF w (aboR bs) (aboE bs) (.returned (.tuple #[.agg #[.slice none 0 0], .int .i64 3])) (w5.setCell ⟨w.heap.size, 0, none⟩ (.slice none 0 0)) from fun w5 x he => HBad.out w5 3 (XW.out.trans (XC.out.trans x)) he (by decide))
      have hR4 := HRes.out w4 XC.out
      by_cases hbig : 64 < n
      · have t4 : (64 : Int) < n := by omega
        have hE3 : aboE bs = 3 := by rw [HE.out, if_pos (Or.inl hbig)]
        have r1 : w4.cell? ⟨w.heap.size, 0, none⟩ = some (.slice none 0 0) := by simp [World.cell?, hR4]
        have r2 : w4.frozen? ⟨w.heap.size, 0, none⟩ = false := by simp [World.frozen?, hR4]
        have r3 : (w4.setCell ⟨w.heap.size, 0, none⟩ (.slice none 0 0)).cell? ⟨w.heap.size, 0, none⟩ = some (.slice none 0 0) := by simp [World.cell?, blk_one hR4 _]
        have HF := Lib.hid (HBT.out w4 (Ext.refl _) hE3)
        have R3 := Lib.hid r3
        clear hR4 r3 hE3 hlgv
        go_wp2
        have r3 := R3.out
        exact bodyPost_ret (v := .tuple #[.agg #[.slice none 0 0], .int .i64 3]) (by simp [results, Try.results22, go_sem, r3]) rfl HF.out
      · have t4 : ¬ (64 : Int) < n := by omega
        clear hR4
        go_wp2_with fail
        refine (HLg.out w4 (Ext.refl _)).mono ?_
        rintro e w5 ⟨rfl, x5⟩
        have hR5 := HRes.out w5 (XC.out.trans x5)
        have hO5 := x5.block HO.out
        have b1 : w5.cell? ⟨w.heap.size, 0, none⟩ = some (.slice none 0 0) := by simp [World.cell?, hR5]
        have b2 : w5.frozen? ⟨w.heap.size, 0, none⟩ = false := by simp [World.frozen?, hR5]
        have b3 : w5.cell? ⟨w.heap.size + 1, 0, none⟩ = some (.slice va vn vc) := by simp [World.cell?, hO5]
        rcases hlgv with rfl | rfl
        · have hE0 : aboE bs = 0 := by rw [HE.out, if_neg (by simp [hbig])]
          have HF := Lib.hid (show RetCF w (aboR bs) (aboE bs) (.returned (.tuple #[.agg #[.slice va vn vc], .int .i64 0])) (w5.setCell ⟨w.heap.size, 0, none⟩ (.slice va vn vc)) by
            rw [hE0]
            have hcc := ((HCC.out.later x5).base XW.out).setOther (a := ⟨w.heap.size, 0, none⟩) (u' := .slice va vn vc) hR5 (by decide) (by decide) (Nat.le_refl _)
            obtain ⟨c5, hrr⟩ := hcc.rr
            rw [aboR, if_pos hE0]
            exact ⟨_, c5, rfl, hrr, hcc.1⟩)
          have R3 := Lib.hid (show (w5.setCell ⟨w.heap.size, 0, none⟩ (.slice va vn vc)).cell? ⟨w.heap.size, 0, none⟩ = some (.slice va vn vc) by simp [World.cell?, blk_one hR5 _])
          clear hR5 hO5 hE0
          go_wp2
          have r3 := R3.out
          exact bodyPost_ret (v := .tuple #[.agg #[.slice va vn vc], .int .i64 0]) (by simp [results, Try.results22, go_sem, r3]) rfl HF.out
        · have hE3 : aboE bs = 3 := by rw [HE.out, if_pos (Or.inr rfl)]
          have HF := Lib.hid (HBT.out w5 x5 hE3)
          have R3 := Lib.hid (show (w5.setCell ⟨w.heap.size, 0, none⟩ (.slice none 0 0)).cell? ⟨w.heap.size, 0, none⟩ = some (.slice none 0 0) by simp [World.cell?, blk_one hR5 _])
          clear hR5 hO5 hE3
          go_wp2
          have r3 := R3.out
          exact bodyPost_ret (v := .tuple #[.agg #[.slice none 0 0], .int .i64 3]) (by simp [results, Try.results22, go_sem, r3]) rfl HF.out
end Go.Proofs.Ytlmkcojimhbmiaa
