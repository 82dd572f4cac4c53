/- Texts of this claim in one file: libraries and walks. -/
import Derived.Test.YtlhkehfplcclgaaDoorL13
import Derived.Test.YtlhkehfplcclgaaDoorL18
/- decimal, name, names. -/
namespace Go.Proofs.YtlhkehfplcclgaaDoor
set_option linter.unusedVariables false
set_option linter.unusedSimpArgs false
set_option maxRecDepth 8000
open Go Go.RowKit Go.Sort

theorem conv1 (x : Int) (W : World) (g : Nat) (hg : g = W.heap.size) :
    (convert 25 9 (.slice (some ⟨g, 0, none⟩) 1 1)).run Tryd.prog (W.alloc (.cells #[.int .u8 x] 5)) = .ok (.string (bst [UInt8.ofNat x.toNat])) (W.alloc (.cells #[.int .u8 x] 5)) := by
  have h : IS .u8 (W.alloc (.cells #[.int .u8 x] 5)) (.slice (some ⟨g, 0, none⟩) 1 1) 1 [x] := IS.lit rfl hg rfl (by omega)
  exact run_bstr h Tryd.underlying25 Tryd.underlying5 Tryd.underlying9
theorem conv1w (x : Int) (w : World) (g : Nat) (hb : w.heap[g]? = some (.cells #[.int .u8 x] 5 (0, 0))) :
    (convert 25 9 (.slice (some ⟨g, 0, none⟩) 1 1)).run Tryd.prog w = .ok (.string (bst [UInt8.ofNat x.toNat])) w := by
  have h : IS .u8 w (.slice (some ⟨g, 0, none⟩) 1 1) 1 [x] := by
    refine ⟨some ⟨g, 0, none⟩, rfl, by simp, by unfold maxLen; omega, fun h => (by cases h), fun a e => ?_⟩
    cases e
    refine ⟨fun _ => rfl, fun j u hj => ?_⟩
    cases j with
    | zero => simp at hj; subst hj; simp [World.cell?, hb]
    | succ j => simp at hj
  exact run_bstr h Tryd.underlying25 Tryd.underlying5 Tryd.underlying9
theorem dec_lt {u : Nat} (h : u < 10) : Lib.decDigits u = [UInt8.ofNat (48 + u)] := by unfold Lib.decDigits; rw [dif_pos h]
theorem dec_ge {u : Nat} (h : ¬ u < 10) : Lib.decDigits u = Lib.decDigits (u / 10) ++ [UInt8.ofNat (48 + u % 10)] := by
  conv => lhs; unfold Lib.decDigits
  rw [dif_neg h]
theorem dec_len {u : Nat} (h : u ≤ 9223372036854775807) : (Lib.decDigits u).length ≤ 21 := by
  have := Lib.itoa_length_le (u : Int) (by omega) (by omega)
  unfold Lib.itoa at this
  rw [if_neg (by omega)] at this; simpa using this
set_option maxHeartbeats 8000000 in
theorem Dec_calls : ∀ (k u : Nat) (w : World), u ≤ 9223372036854775807 → u ≤ k → Calls Tryd.prog 20 #[.int .i64 u] w fun e w' => e = .returned (.string (bst (Lib.decDigits u))) ∧ Ext w w' := by
  intro k
  induction k with
  | zero =>
    intro u w h9 hk
    obtain rfl : u = 0 := by omega
    have hc := conv1
    have HE := Lib.hid (show bst [UInt8.ofNat (48 : Int).toNat] = bst (Lib.decDigits 0) by rw [dec_lt (by decide)]; rfl)
    have X := Lib.hid (show Ext w (w.alloc (.cells #[.int .u8 48] 5)) from (Ext.refl _).alloc _)
    rw [← HE.out]
    go_enter Tryd.func20, Tryd.ntmps20
    go_wp2
    go_ret
    exact ⟨rfl, X.out⟩
  | succ k ih =>
    intro u w h9 hk
    by_cases h10 : u < 10
    · have hc := conv1
      have f1 : (u : Int) < 10 := by omega
      have e1 : IntKind.u8.wrap (u : Int) = u := IntWalk.u8_in _ ⟨by omega, by omega⟩
      have e2 : IntKind.u8.wrap (48 + (u : Int)) = 48 + u := IntWalk.u8_in _ ⟨by omega, by omega⟩
      have HE := Lib.hid (show bst [UInt8.ofNat (48 + (u : Int)).toNat] = bst (Lib.decDigits u) by rw [dec_lt h10]; congr 2)
      have X := Lib.hid (show Ext w (w.alloc (.cells #[.int .u8 (48 + (u : Int))] 5)) from (Ext.refl _).alloc _)
      rw [← HE.out]
      go_enter Tryd.func20, Tryd.ntmps20
      go_wp2
      go_ret
      exact ⟨rfl, X.out⟩
    · have f1 : ¬ (u : Int) < 10 := by omega
      have hdl := dec_len (u := u / 10) (by omega)
      have HD := Lib.hid (show ∀ w', Calls Tryd.prog 20 #[.int .i64 ((u / 10 : Nat) : Int)] w' fun e w'' => e = .returned (.string (bst (Lib.decDigits (u / 10)))) ∧ Ext w' w'' from fun w' => ih (u / 10) w' (by omega) (by omega))
      obtain ⟨S1, hS1⟩ : ∃ S1, S1 = bst (Lib.decDigits (u / 10)) := ⟨_, rfl⟩
      rw [← hS1] at HD
      have z1 : S1.size ≤ 21 := by rw [hS1, bst_size]; exact hdl
      obtain ⟨q, hq⟩ : ∃ q, q = u / 10 := ⟨_, rfl⟩
      obtain ⟨d, hd⟩ : ∃ d, d = u % 10 := ⟨_, rfl⟩
      have hd10 : d < 10 := by omega
      rw [← hq] at HD
      have e0 : (u : Int).tdiv 10 = (q : Int) := by rw [hq, Int.tdiv_eq_ediv_of_nonneg (by omega)]; omega
      have e0' : (u : Int) / 10 = (q : Int) := by omega
      have e1 : (u : Int).tmod 10 = (d : Int) := by rw [hd, Int.tmod_eq_emod_of_nonneg (by omega)]; omega
      have e1' : (u : Int) % 10 = (d : Int) := by omega
      have e2 : IntKind.u8.wrap (d : Int) = d := IntWalk.u8_in _ ⟨by omega, by omega⟩
      have e4 : IntKind.i64.wrap (q : Int) = q := IntWalk.i64_in _ ⟨by omega, by omega⟩
      have e3 : IntKind.u8.wrap (48 + (d : Int)) = 48 + d := IntWalk.u8_in _ ⟨by omega, by omega⟩
      obtain ⟨S2, hS2⟩ : ∃ S2, S2 = bst [UInt8.ofNat (48 + (d : Int)).toNat] := ⟨_, rfl⟩
      have HE := Lib.hid (show S1 ++ S2 = bst (Lib.decDigits u) by rw [dec_ge h10, hS1, hS2, bst_app, ← hd]; congr 3)
      have y1 : S2.size = 1 := by rw [hS2, bst_size]; rfl
      have y2 : ¬ 9223372036854775807 < S1.size + S2.size := by omega
      have y3 : ¬ 9223372036854775807 < S1.size + 1 := by omega
      have hc := conv1
      have hcw := conv1w (48 + (d : Int))
      rw [← hS2] at hcw
      have hc2 := fun W g h => conv1 (48 + (d : Int)) W g h
      rw [← hS2] at hc2
      rw [← HE.out]
      have HC := Lib.hid hc2; have HCw := Lib.hid hcw
      clear hc hc2 hcw hS1 hS2 hq hd hdl ih h10
      go_enter Tryd.func20, Tryd.ntmps20
      go_upto_region 3 with fail
      refine wp_region_held_drew (S := fun w' => True) (by kernel_rfl) ?_ (fun hHeld => ?_)
      · exact trivial
      refine wpAnyH_take (i := 0) (v := ?va94_0) rfl (by kernel_rfl) (by kernel_rfl) (by kernel_rfl) (fun _ _ _ h => h) (Or.inl ⟨by rfl, fun w hSw => ?ti94_0⟩) (by assumption) ?rest94_0
      case ti94_0 => ((try dsimp only at hSw); go_simp; (first | done | with_reducible rfl))
      try simp only [Act.put, List.getElem_toArray, List.getElem_cons_zero, List.getElem_cons_succ, List.setIfInBounds_toArray, List.set_cons_zero, List.set_cons_succ]
      refine wpAnyH_take (i := 1) (v := ?va97_1) rfl (by kernel_rfl) (by kernel_rfl) (by kernel_rfl) (fun _ _ _ h => h) (Or.inl ⟨by rfl, fun w hSw => ?ti97_1⟩) (by assumption) ?rest97_1
      case ti97_1 => ((try dsimp only at hSw); go_simp; (first | done | with_reducible rfl))
      try simp only [Act.put, List.getElem_toArray, List.getElem_cons_zero, List.getElem_cons_succ, List.setIfInBounds_toArray, List.set_cons_zero, List.set_cons_succ]
      refine wpAnyH_take (i := 3) (v := ?va100_3) rfl (by kernel_rfl) (by kernel_rfl) (by kernel_rfl) (fun _ _ _ h => h) (Or.inl ⟨by rfl, fun w hSw => ?ti100_3⟩) (by assumption) ?rest100_3
      case ti100_3 => ((try dsimp only at hSw); go_simp; (first | done | with_reducible rfl))
      try simp only [Act.put, List.getElem_toArray, List.getElem_cons_zero, List.getElem_cons_succ, List.setIfInBounds_toArray, List.set_cons_zero, List.set_cons_succ]
      refine wpAnyH_take (i := 4) (v := ?va103_4) rfl (by kernel_rfl) (by kernel_rfl) (by kernel_rfl) (fun _ _ _ h => h) (Or.inl ⟨by rfl, fun w hSw => ?ti103_4⟩) (by assumption) ?rest103_4
      case ti103_4 => ((try dsimp only at hSw); go_simp; (first | done | with_reducible rfl))
      try simp only [Act.put, List.getElem_toArray, List.getElem_cons_zero, List.getElem_cons_succ, List.setIfInBounds_toArray, List.set_cons_zero, List.set_cons_succ]
      refine wpAnyH_take (i := 5) (v := ?va106_5) rfl (by kernel_rfl) (by kernel_rfl) (by kernel_rfl) (fun _ _ _ h => h) (Or.inl ⟨by rfl, fun w hSw => ?ti106_5⟩) (by assumption) ?rest106_5
      case ti106_5 => ((try dsimp only at hSw); go_simp; (first | done | with_reducible rfl))
      try simp only [Act.put, List.getElem_toArray, List.getElem_cons_zero, List.getElem_cons_succ, List.setIfInBounds_toArray, List.set_cons_zero, List.set_cons_succ]
      refine wpAnyH_take (i := 6) (v := ?va109_6) rfl (by kernel_rfl) (by kernel_rfl) (by kernel_rfl) (fun _ _ _ h => h) (Or.inl ⟨by rfl, fun w hSw => ?ti109_6⟩) (by assumption) ?rest109_6
      case ti109_6 => ((try dsimp only at hSw); go_simp; (first | done | with_reducible rfl))
      try simp only [Act.put, List.getElem_toArray, List.getElem_cons_zero, List.getElem_cons_succ, List.setIfInBounds_toArray, List.set_cons_zero, List.set_cons_succ]
      refine wpAnyH_ready (rs := [2, 7]) (by kernel_rfl) (by simp) ?_
      refine AllReadyH.cons rfl (fun K hK => ?_) (AllReadyH.cons rfl (fun K hK => ?_) AllReadyH.nil)
      · go_simp
        refine (HD.out _).mono ?_
        rintro e w1 ⟨rfl, x⟩
        have Xw1 : Hid (Ext w w1) := Lib.hid (Ext.trans (by (focus (repeat (first | (with_reducible exact Ext.refl _) | (with_reducible apply Ext.drew) | (with_reducible apply Ext.drewN) | (with_reducible apply Ext.alloc))))) x)
        clear x
        go_simp
        refine hK.out _ _ trivial (fun hHeld => ?_)
        clear hK K; try simp only [Act.put, List.getElem_toArray, List.getElem_cons_zero, List.getElem_cons_succ, List.setIfInBounds_toArray, List.set_cons_zero, List.set_cons_succ]
        refine wpAnyH_ready (rs := [7]) (by kernel_rfl) (by simp) ?_
        refine AllReadyH.cons rfl (fun K hK => ?_) AllReadyH.nil
        go_simp
        refine hK.out _ _ trivial (fun hHeld => ?_)
        clear hK K; try simp only [Act.put, List.getElem_toArray, List.getElem_cons_zero, List.getElem_cons_succ, List.setIfInBounds_toArray, List.set_cons_zero, List.set_cons_succ]
        refine wpAnyH_ready (rs := [8]) (by kernel_rfl) (by simp) ?_
        refine AllReadyH.cons rfl (fun K hK => ?_) AllReadyH.nil
        have hcv := HC.out w1 w1.heap.size rfl
        go_simp
        clear hcv
        refine hK.out _ _ trivial (fun hHeld => ?_)
        clear hK K; try simp only [Act.put, List.getElem_toArray, List.getElem_cons_zero, List.getElem_cons_succ, List.setIfInBounds_toArray, List.set_cons_zero, List.set_cons_succ]
        refine wpAnyH_ready (rs := [9]) (by kernel_rfl) (by simp) ?_
        refine AllReadyH.cons rfl (fun K hK => ?_) AllReadyH.nil
        go_simp
        refine hK.out _ _ trivial (fun hHeld => ?_)
        clear hK K; try simp only [Act.put, List.getElem_toArray, List.getElem_cons_zero, List.getElem_cons_succ, List.setIfInBounds_toArray, List.set_cons_zero, List.set_cons_succ]
        refine wpAnyH_ready (rs := [10]) (by kernel_rfl) (by simp) ?_
        refine AllReadyH.cons rfl (fun K hK => ?_) AllReadyH.nil
        go_simp
        refine hK.out _ _ trivial (fun hHeld => ?_)
        clear hK K; try simp only [Act.put, List.getElem_toArray, List.getElem_cons_zero, List.getElem_cons_succ, List.setIfInBounds_toArray, List.set_cons_zero, List.set_cons_succ]
        refine wpAnyH_done (by kernel_rfl) ?_ _
        go_wp2
        go_ret
        exact ⟨rfl, Xw1.out.trans ((Ext.refl _).alloc _)⟩
      · go_simp
        refine hK.out _ _ trivial (fun hHeld => ?_)
        clear hK K; try simp only [Act.put, List.getElem_toArray, List.getElem_cons_zero, List.getElem_cons_succ, List.setIfInBounds_toArray, List.set_cons_zero, List.set_cons_succ]
        refine wpAnyH_ready (rs := [2, 8]) (by kernel_rfl) (by simp) ?_
        refine AllReadyH.cons rfl (fun K hK => ?_) (AllReadyH.cons rfl (fun K hK => ?_) AllReadyH.nil)
        · go_simp
          refine (HD.out _).mono ?_
          rintro e w2 ⟨rfl, x⟩
          have Xw2 : Hid (Ext w w2) := Lib.hid (Ext.trans (by (focus (repeat (first | (with_reducible exact Ext.refl _) | (with_reducible apply Ext.drew) | (with_reducible apply Ext.drewN) | (with_reducible apply Ext.alloc))))) x)
          have hcv := HCw.out w2 w.heap.size (Ext.block x (Deep.blk_alloc_new w _))
          clear x
          go_simp
          refine hK.out _ _ trivial (fun hHeld => ?_)
          clear hK K; try simp only [Act.put, List.getElem_toArray, List.getElem_cons_zero, List.getElem_cons_succ, List.setIfInBounds_toArray, List.set_cons_zero, List.set_cons_succ]
          refine wpAnyH_ready (rs := [8]) (by kernel_rfl) (by simp) ?_
          refine AllReadyH.cons rfl (fun K hK => ?_) AllReadyH.nil
          go_simp
          clear hcv
          refine hK.out _ _ trivial (fun hHeld => ?_)
          clear hK K; try simp only [Act.put, List.getElem_toArray, List.getElem_cons_zero, List.getElem_cons_succ, List.setIfInBounds_toArray, List.set_cons_zero, List.set_cons_succ]
          refine wpAnyH_ready (rs := [9]) (by kernel_rfl) (by simp) ?_
          refine AllReadyH.cons rfl (fun K hK => ?_) AllReadyH.nil
          go_simp
          refine hK.out _ _ trivial (fun hHeld => ?_)
          clear hK K; try simp only [Act.put, List.getElem_toArray, List.getElem_cons_zero, List.getElem_cons_succ, List.setIfInBounds_toArray, List.set_cons_zero, List.set_cons_succ]
          refine wpAnyH_ready (rs := [10]) (by kernel_rfl) (by simp) ?_
          refine AllReadyH.cons rfl (fun K hK => ?_) AllReadyH.nil
          go_simp
          refine hK.out _ _ trivial (fun hHeld => ?_)
          clear hK K; try simp only [Act.put, List.getElem_toArray, List.getElem_cons_zero, List.getElem_cons_succ, List.setIfInBounds_toArray, List.set_cons_zero, List.set_cons_succ]
          refine wpAnyH_done (by kernel_rfl) ?_ _
          go_wp2
          go_ret
          exact ⟨rfl, Xw2.out⟩
        · have hcv := HCw.out ((w.alloc (.cells #[.int .u8 (48 + (d : Int))] 5))).drew w.heap.size (Deep.blk_alloc_new w _)
          go_simp
          clear hcv
          refine hK.out _ _ trivial (fun hHeld => ?_)
          clear hK K; try simp only [Act.put, List.getElem_toArray, List.getElem_cons_zero, List.getElem_cons_succ, List.setIfInBounds_toArray, List.set_cons_zero, List.set_cons_succ]
          refine wpAnyH_ready (rs := [2]) (by kernel_rfl) (by simp) ?_
          refine AllReadyH.cons rfl (fun K hK => ?_) AllReadyH.nil
          go_simp
          refine (HD.out _).mono ?_
          rintro e w2 ⟨rfl, x⟩
          have Xw2 : Hid (Ext w w2) := Lib.hid (Ext.trans (by (focus (repeat (first | (with_reducible exact Ext.refl _) | (with_reducible apply Ext.drew) | (with_reducible apply Ext.drewN) | (with_reducible apply Ext.alloc))))) x)
          clear x
          go_simp
          refine hK.out _ _ trivial (fun hHeld => ?_)
          clear hK K; try simp only [Act.put, List.getElem_toArray, List.getElem_cons_zero, List.getElem_cons_succ, List.setIfInBounds_toArray, List.set_cons_zero, List.set_cons_succ]
          refine wpAnyH_ready (rs := [9]) (by kernel_rfl) (by simp) ?_
          refine AllReadyH.cons rfl (fun K hK => ?_) AllReadyH.nil
          go_simp
          refine hK.out _ _ trivial (fun hHeld => ?_)
          clear hK K; try simp only [Act.put, List.getElem_toArray, List.getElem_cons_zero, List.getElem_cons_succ, List.setIfInBounds_toArray, List.set_cons_zero, List.set_cons_succ]
          refine wpAnyH_ready (rs := [10]) (by kernel_rfl) (by simp) ?_
          refine AllReadyH.cons rfl (fun K hK => ?_) AllReadyH.nil
          go_simp
          refine hK.out _ _ trivial (fun hHeld => ?_)
          clear hK K; try simp only [Act.put, List.getElem_toArray, List.getElem_cons_zero, List.getElem_cons_succ, List.setIfInBounds_toArray, List.set_cons_zero, List.set_cons_succ]
          refine wpAnyH_done (by kernel_rfl) ?_ _
          go_wp2
          go_ret
          exact ⟨rfl, Xw2.out⟩
theorem itoa_nn {n : Int} (h : 0 ≤ n) : Lib.itoa n = Lib.decDigits n.toNat := by unfold Lib.itoa; rw [if_neg (by omega)]
theorem Dec2_calls (n : Int) (w : World) (h0 : 0 ≤ n) (h9 : n ≤ 9223372036854775807) : Calls Tryd.prog 20 #[.int .i64 n] w fun e w' => e = .returned (.string (bst (Lib.itoa n))) ∧ Ext w w' := by
  have h := Dec_calls n.toNat n.toNat w (by omega) (Nat.le_refl _)
  rw [Int.toNat_of_nonneg h0] at h
  rw [itoa_nn h0]; exact h
set_option maxHeartbeats 4000000 in
theorem LName_calls (a : Nm) (w : World) (ha : a.In) (h0 : 0 ≤ a.n) : Calls Tryd.prog 18 #[a.val] w fun e w' => e = .returned (.string (bst (nameT a))) ∧ Ext w w' := by
  obtain ⟨⟨h1, h2⟩, h3, h4⟩ := ha
  have k1 := Lib.itoa_length_le a.y (by omega) (by omega)
  have k2 := Lib.itoa_length_le a.n h3 h4
  obtain ⟨W, hW⟩ : ∃ W, W = w.alloc (.cells #[.int .u8 a.y, .int .i64 a.n] 41) := ⟨_, rfl⟩
  have XW := Lib.hid (show Ext w W by rw [hW]; exact (Ext.refl _).alloc _)
  obtain ⟨q0_1, q0_2⟩ := (show BN W w.heap.size a by rw [hW]; exact BN.new w a).at
  simp only [Nat.zero_add] at q0_2
  obtain ⟨S1, hS1⟩ : ∃ S1, S1 = bst (Lib.itoa a.y) := ⟨_, rfl⟩
  obtain ⟨S2, hS2⟩ : ∃ S2, S2 = bst (Lib.itoa a.n) := ⟨_, rfl⟩
  have H1 := Lib.hid (show ∀ w', Ext w w' → Calls Tryd.prog 20 #[.int .i64 a.y] w' fun e w'' => e = .returned (.string S1) ∧ Ext w' w'' from fun w' x => by rw [hS1]; exact Dec2_calls a.y w' h1 (by omega))
  have H2 := Lib.hid (show ∀ w', Ext w w' → Calls Tryd.prog 20 #[.int .i64 a.n] w' fun e w'' => e = .returned (.string S2) ∧ Ext w' w'' from fun w' x => by rw [hS2]; exact Dec2_calls a.n w' h0 h4)
  have z1 : S1.size ≤ 21 := by rw [hS1, bst_size]; exact k1
  have z2 : S2.size ≤ 21 := by rw [hS2, bst_size]; exact k2
  have y1 : ¬ 9223372036854775807 < S1.size + 1 := by omega
  have y2 : ¬ 9223372036854775807 < S1.size + 1 + S2.size := by omega
  have HE := Lib.hid (show S1 ++ bst [46] ++ S2 = bst (nameT a) by rw [hS1, hS2, bst_app, bst_app]; rfl)
  rw [← HE.out]
  have t1 : IntKind.i64.wrap a.y = a.y := IntWalk.i64_in _ ⟨by omega, by omega⟩
  have HW := Lib.hid hW
  unfold Nm.val
  clear hW hS1 hS2 k1 k2
  go_enter Tryd.func18, Tryd.ntmps18
  go_wp2
  rw [← HW.out]
  generalize a.y = Y at *
  generalize a.n = N at *
  go_region_held3 (fun w' => w'.cell? ⟨w.heap.size, 0, Option.none⟩ = some (.int .u8 Y) ∧ w'.cell? ⟨w.heap.size, 1, Option.none⟩ = some (.int .i64 N)) (first | (with_reducible exact ⟨q0_1, q0_2⟩) | (with_reducible exact ⟨q1_1, q1_2⟩) | (with_reducible exact ⟨q2_1, q2_2⟩) | go_keep) (first
    | (go_at_call_of 20 (Value.int .i64 Y); (refine (H1.out _ ?_).mono ?_); (focus (refine Ext.trans XW.out ?_; (focus (repeat (first | (with_reducible exact Ext.refl _) | (with_reducible apply Ext.drew) | (with_reducible apply Ext.drewN) | (with_reducible apply Ext.alloc)))))); intro e w1 hh; obtain ⟨rfl, x⟩ := hh; have Xa : Hid (Ext W w1) := Lib.hid (Ext.trans (by ((repeat (first | (with_reducible exact Ext.refl _) | (with_reducible apply Ext.drew) | (with_reducible apply Ext.drewN) | (with_reducible apply Ext.alloc))); done)) x); have q1_1 := Xa.out.cell q0_1; have q1_2 := Xa.out.cell q0_2; clear x)
    | (go_at_call_of 20 (Value.int .i64 N); (refine (H2.out _ ?_).mono ?_); (focus (refine Ext.trans (XW.out.trans Xa.out) ?_; (focus (repeat (first | (with_reducible exact Ext.refl _) | (with_reducible apply Ext.drew) | (with_reducible apply Ext.drewN) | (with_reducible apply Ext.alloc)))))); intro e w2 hh; obtain ⟨rfl, x⟩ := hh; have Xb : Hid (Ext W w2) := Lib.hid (Ext.trans Xa.out (Ext.trans (by ((repeat (first | (with_reducible exact Ext.refl _) | (with_reducible apply Ext.drew) | (with_reducible apply Ext.drewN) | (with_reducible apply Ext.alloc))); done)) x)); have q2_1 := Xb.out.cell q0_1; have q2_2 := Xb.out.cell q0_2; clear x))
  all_goals go_wp2
  all_goals go_ret
  all_goals exact ⟨rfl, XW.out.trans Xb.out⟩
/-- Words, each behind a space. -/
def sp (l : List (List UInt8)) : List UInt8 := (l.map fun x => 32 :: x).flatten
theorem sp_nil : sp [] = [] := rfl
theorem sp_cons (x : List UInt8) (l : List (List UInt8)) : sp (x :: l) = 32 :: (x ++ sp l) := by unfold sp; simp
theorem sp_app (l m : List (List UInt8)) : sp (l ++ m) = sp l ++ sp m := by unfold sp; simp
theorem sp_len {k : Nat} : ∀ {l : List (List UInt8)}, (∀ x ∈ l, x.length ≤ k) → (sp l).length ≤ l.length * (k + 1)
  | [], _ => by simp [sp]
  | x :: l, h => by
    have h1 := h x List.mem_cons_self
    have h2 := sp_len (l := l) fun y hy => h y (List.mem_cons_of_mem _ hy)
    rw [sp_cons, List.length_cons, List.length_append, List.length_cons, Nat.succ_mul]; omega
theorem sp_take {l : List Nm} {k : Nat} (h : k < l.length) : sp ((l.take (k + 1)).map nameT) = sp ((l.take k).map nameT) ++ ([32] ++ nameT (ni l k)) := by
  rw [List.take_succ_eq_append_getElem h, List.map_append, sp_app, ni_of h]; simp [sp]
theorem nms_len {l : List Nm} (h : ∀ a ∈ l, a.In) (h9 : l.length ≤ 1000) (k : Nat) : (sp ((l.take k).map nameT)).length ≤ 44000 := by
  have h1 := sp_len (k := 43) (l := (l.take k).map nameT) fun x hx => by
    obtain ⟨a, ha, rfl⟩ := List.mem_map.1 hx
    exact nameT_len (h a (List.mem_of_mem_take ha))
  rw [List.length_map, List.length_take] at h1
  have h2 : min k l.length ≤ 1000 := by omega
  have h3 := Nat.mul_le_mul_right 44 h2
  omega
set_option maxHeartbeats 4000000 in
theorem LNames_calls (lv : Value) (c : Nat) (l : List Nm) (w : World) (h : NL w lv c l) (hin : ∀ a ∈ l, a.In ∧ 0 ≤ a.n) (h9 : l.length ≤ 1000) :
    Calls Tryd.prog 19 #[lv] w fun e w' => e = .returned (.string (bst (sp (l.map nameT)))) ∧ Ext w w' := by
  obtain ⟨la, n, rfl, hn, hnc, hc9, hat⟩ := h.open
  have HN := Lib.hid (fun i (hi : i < n) w' => LName_calls (ni l i) w' (hin _ (ni_mem (by omega))).1 (hin _ (ni_mem (by omega))).2)
  have HL := Lib.hid (fun i (hi : i < n) => nameT_len (hin _ (ni_mem (l := l) (i := i) (by omega))).1)
  have HS := Lib.hid (fun i (hi : i < n) => sp_take (l := l) (k := i) (by omega))
  have HB := Lib.hid (nms_len (fun a ha => (hin a ha).1) h9)
  have HE := Lib.hid (show sp (l.map nameT) = sp ((l.take n).map nameT) by rw [List.take_of_length_le (by omega)])
  have Hat := Lib.hid hat
  have n9 : n ≤ 1000 := by omega
  rw [HE.out]
  unfold Nm.val at HN
  clear hat hin h hn h9
  go_enter Tryd.func19, Tryd.ntmps19
  go_wp2
  go_loopg [3, 4] n (fun g sv iv wr => ∃ (k : Nat) (B : ByteArray), g + k = n ∧ iv = .int .i64 k ∧ sv = .string B ∧ B.size ≤ 44000 ∧ Hid (Ext w wr ∧ B = bst (sp ((l.take k).map nameT))))
  case atStart => exact ⟨0, bst [], by omega, rfl, rfl, by decide, Lib.hid ⟨Ext.refl _, by rw [List.take_zero]; rfl⟩⟩
  case round =>
    obtain ⟨k, B, hgk, rfl, rfl, hB9, G⟩ := hrel
    have Hgk := Lib.hid hgk
    by_cases hk : k < n
    · have f1 : (k : Int) < n := by omega
      have f2 : (0 : Int) ≤ k := by omega
      clear hgk
      obtain ⟨b, o, rfl, hA⟩ := Hat.out k hk
      obtain ⟨S1, hS1⟩ : ∃ S1, S1 = bst (nameT (ni l k)) := ⟨_, rfl⟩
      have hz : S1.size ≤ 43 := by rw [hS1, bst_size]; exact HL.out k hk
      have HC := Lib.hid (HN.out k hk)
      rw [← hS1] at HC
      have HB2 := Lib.hid (show (B ++ (bst [32] ++ S1)).size ≤ 44000 ∧ B ++ (bst [32] ++ S1) = bst (sp ((l.take (k + 1)).map nameT)) by
        have e : B ++ (bst [32] ++ S1) = bst (sp ((l.take (k + 1)).map nameT)) := by rw [HS.out k hk, G.out.2, hS1, bst_app, bst_app]
        exact ⟨by rw [e, bst_size]; exact HB.out _, e⟩)
      obtain ⟨a, ha⟩ : ∃ a, a = ni l k := ⟨_, rfl⟩
      rw [← ha] at hA HC
      obtain ⟨p0, p1⟩ := hA.ext G.out.1
      have y1 : ¬ 9223372036854775807 < 1 + S1.size := by omega
      have y2 : ¬ 9223372036854775807 < B.size + (1 + S1.size) := by omega
      clear hA hS1 ha
      go_wp2_with fail
      refine (HC.out _).mono ?_
      rintro e w2 ⟨rfl, x2⟩
      have X2 := Lib.hid (G.out.1.trans x2)
      clear x2 p0 p1
      go_wp2_with fail
      go_roundg (n - (k + 1))
      case measure => have := Hgk.out; omega
      case rel => exact ⟨k + 1, _, by omega, by go_num, rfl, HB2.out.1, Lib.hid ⟨X2.out, HB2.out.2⟩⟩
    · obtain rfl : k = n := by omega
      have f1 : ¬ (k : Int) < k := by omega
      have HR := Lib.hid G.out
      go_wp2
      go_ret
      exact ⟨by rw [← List.map_take, ← HR.out.2]; rfl, HR.out.1⟩
end Go.Proofs.YtlhkehfplcclgaaDoor
/- The text of a fabric, line by line, as the law writes it. No program in sight. -/
namespace Go.Proofs.YtlhkehfplcclgaaDoor
set_option linter.unusedVariables false
set_option linter.unusedSimpArgs false
set_option maxRecDepth 8000
open Go Go.RowKit

def P1 (a : Nm) (l : Lp) : List UInt8 := nameT a ++ (32 :: (if l.bed = 1 then backT else frontT))
def P2 (l : Lp) : List UInt8 := if l.new = true then 32 :: newT else []
def P3 (l : Lp) : List UInt8 := if l.thr = [] then [] else (32 :: throughT) ++ sp (l.thr.map nameT)
def P4 (l : Lp) : List UInt8 := if l.past = [] then [] else 32 :: pastT
def P5 (l : Lp) (k : Nat) : List UInt8 := sp ((l.past.take k).map passT)
theorem join_sp (x : List UInt8) (r : List (List UInt8)) : Lib.join (x :: r) [32] = x ++ sp r := by
  rw [Lib.join_cons]; rfl
theorem line_eq (a : Nm) (l : Lp) : lineT (descT a l) = P1 a l ++ P2 l ++ P3 l ++ P4 l ++ P5 l l.past.length ++ [10] := by
  have e : descT a l = nameT a :: ((if l.bed = 1 then backT else frontT) :: ((if l.new = true then [newT] else []) ++ ((if l.thr = [] then [] else throughT :: l.thr.map nameT) ++ ((if l.past = [] then [] else [pastT]) ++ l.past.map passT)))) := by
    unfold descT d4T d3T d2T d1T; simp
  rw [e]
  unfold lineT
  rw [join_sp, sp_cons, sp_app, sp_app, sp_app]
  unfold P1 P2 P3 P4 P5
  rw [List.take_length]
  have h1 : sp (if l.new = true then [newT] else []) = if l.new = true then 32 :: newT else [] := by split <;> simp [sp]
  have h2 : sp (if l.thr = [] then [] else throughT :: l.thr.map nameT) = if l.thr = [] then [] else (32 :: throughT) ++ sp (l.thr.map nameT) := by split <;> simp [sp]
  have h3 : sp (if l.past = [] then [] else [pastT]) = if l.past = [] then [] else 32 :: pastT := by split <;> simp [sp]
  rw [h1, h2, h3]
  simp [List.append_assoc]
theorem P5_succ {l : Lp} {k : Nat} (h : k < l.past.length) : P5 l (k + 1) = P5 l k ++ ([32] ++ passT (qi l.past k)) := by
  unfold P5
  rw [List.take_succ_eq_append_getElem h, List.map_append, sp_app, qi_of h]; simp [sp]
theorem passT_len {p : Ps} (h : p.In) : (passT p).length ≤ 45 := by
  have := nameT_len h.1
  unfold passT
  rw [List.length_append, List.length_append]
  have h1 : (if p.d = 1 then ([62] : List UInt8) else [60]).length = 1 := by split <;> rfl
  have h2 : (if p.f = true then ([43] : List UInt8) else []).length ≤ 1 := by split <;> simp
  omega
theorem P5_len {l : Lp} (h : l.In) (k : Nat) (hk : k ≤ 1000) : (P5 l k).length ≤ 46000 := by
  have h1 := sp_len (k := 45) (l := (l.past.take k).map passT) fun x hx => by
    obtain ⟨p, hp, rfl⟩ := List.mem_map.1 hx
    exact passT_len (h.2.2 p (List.mem_of_mem_take hp))
  rw [List.length_map, List.length_take] at h1
  have h2 : min k l.past.length ≤ 1000 := by omega
  have h3 := Nat.mul_le_mul_right 46 h2
  unfold P5; omega
theorem crW_eq (c : Xg) : lineT (crW c) = crossW ++ sp [nameT c.a, nameT c.b] ++ [32] ++ Lib.itoa c.n ++ [10] := by
  unfold lineT crW
  rw [join_sp]; simp [sp]
theorem nms_eq (w : List UInt8) (l : List Nm) : lineT (w :: l.map nameT) = w ++ sp (l.map nameT) ++ [10] := by
  unfold lineT; rw [join_sp]
/-- The bounds of what the law's text is made of. -/
structure TBd6 (f : Fab) : Prop where
  inn : FIn f
  l6 : f.ys.length = 6
  nn : (∀ a ∈ f.held, 0 ≤ a.n) ∧ (∀ a ∈ f.fallen, 0 ≤ a.n) ∧ ∀ c ∈ f.cr, 0 ≤ c.a.n ∧ 0 ≤ c.b.n
  cn : ∀ c ∈ f.cr, -1000 ≤ c.n ∧ c.n ≤ 1000
  ln : ∀ r ∈ f.ys, ∀ l ∈ r, (l.bed = 0 ∨ l.bed = 1) ∧ (∀ a ∈ l.thr, 0 ≤ a.n) ∧ ∀ p ∈ l.past, 0 ≤ p.id.n ∧ (p.d = 0 ∨ p.d = 1)
theorem yid_in {y n : Nat} (hy : y < 6) (hn : n < 1000) : (⟨(y : Int) + 1, (n : Nat)⟩ : Nm).In := ⟨⟨by dsimp only; omega, by dsimp only; omega⟩, by dsimp only; omega, by dsimp only; omega⟩
theorem rowP_len {f : Fab} (h : TBd6 f) {y : Nat} (hy : y < 6) : ∀ n, n ≤ (yi f.ys y).length → (rowP y (yi f.ys y) n).length ≤ n * 100000
  | 0, _ => by simp [rowP]
  | n + 1, hn => by
    have ih := rowP_len h hy n (by omega)
    have hm := yi_mem (l := f.ys) (i := y) (by rw [h.l6]; exact hy)
    have h5 := h.inn.n5 _ hm
    have h6 := h.inn.n6 _ hm _ (li_mem (l := yi f.ys y) (i := n) (by omega))
    have h7 := (desc_le (a := ⟨(y : Int) + 1, (n : Nat)⟩) (l := li (yi f.ys y) n) (yid_in hy (by omega)) (h.inn.ys _ hm _ (li_mem (by omega))) h6.1 h6.2).2.2
    rw [rowP_succ, List.length_append, Nat.succ_mul]; omega
theorem tabP_len {f : Fab} (h : TBd6 f) : ∀ y, y ≤ 6 → (tabP f.ys y).length ≤ y * 100000000
  | 0, _ => by simp [tabP]
  | y + 1, hy => by
    have ih := tabP_len h y (by omega)
    have h1 := rowP_len h (y := y) (by omega) _ (Nat.le_refl _)
    have h5 := h.inn.n5 _ (yi_mem (l := f.ys) (i := y) (by rw [h.l6]; omega))
    have h3 := Nat.mul_le_mul_right 100000 h5
    rw [tabP_succ, List.length_append, Nat.succ_mul]
    unfold rowT; omega
theorem crP_len {f : Fab} (h : TBd6 f) : ∀ k, k ≤ f.cr.length → (crP f.cr k).length ≤ k * 100000
  | 0, _ => by simp [crP]
  | k + 1, hk => by
    have ih := crP_len h k (by omega)
    have h1 := cr_le (h.inn.cr _ (xi_mem (l := f.cr) (i := k) (by omega)))
    rw [crP_succ (by omega), List.length_append, Nat.succ_mul]; omega
theorem FOk.bd6 {x : FD} (h : FOk x) (hx : x.cross.length ≤ 1000) : TBd6 (ofF x) := by
  have hin := h.fin hx
  have hn : ∀ a, hasB (ofT x.t).t a = true → 0 ≤ a.n := fun a ha => by
    obtain ⟨y, n, rfl, _, _⟩ := hasB_iff ha
    dsimp only; omega
  have hm : ∀ a, a ∈ (ofT x.t).made → 0 ≤ a.n := fun a ha => hn a ((h.inv.cov a).2 ha)
  refine ⟨hin, h.inv.l6, ⟨fun a ha => hm a (h.hm a (List.mem_append_left _ ha)), fun a ha => hm a (h.hm a (List.mem_append_right _ ha)), fun c hc => ⟨hn _ (h.cr.m c hc).1, hn _ (h.cr.m c hc).2.1⟩⟩, fun c hc => by have := h.cr.n c hc; omega, fun r hr l hl => ?_⟩
  have h1 := (h.inv.ri r hr l hl).1
  obtain ⟨d, hd, hd2⟩ := h1.one
  exact ⟨h1.bed, fun a ha => hn a (h1.i1 a ha).2, fun p hp => ⟨hn _ (h1.i2 p hp).2, by rw [hd2 p hp]; exact hd⟩⟩
theorem itoa_neg' {n : Int} (h : n < 0) : Lib.itoa n = 45 :: Lib.itoa (-n) := by
  unfold Lib.itoa
  rw [if_pos h, if_neg (by omega)]
  congr 2; omega
theorem nmsT_eq (w : List UInt8) (l : List Nm) : nmsT w l = if l = [] then [] else w ++ sp (l.map nameT) ++ [10] := by
  unfold nmsT; split
  · rfl
  · exact nms_eq w l
theorem nmsT_len {w : List UInt8} {l : List Nm} (hw : w.length ≤ 43) (hin : ∀ a ∈ l, a.In) (h9 : l.length ≤ 1000) : (nmsT w l).length ≤ 100000 := by
  unfold nmsT; split
  · simp
  · exact names_le hw hin h9
end Go.Proofs.YtlhkehfplcclgaaDoor
/- What a fabric's text tells: the texts of two fabrics are equal only if the fabrics are. No program in sight. -/
namespace Go.Proofs.YtlhkehfplcclgaaDoor
set_option linter.unusedVariables false
set_option linter.unusedSimpArgs false
set_option maxRecDepth 8000
open Go Go.RowKit

/-! ### Numerals -/
theorem dd_rng : ∀ (k u : Nat), u ≤ k → ∀ c ∈ Lib.decDigits u, 48 ≤ c.toNat ∧ c.toNat ≤ 57
  | 0, u, h, c, hc => by
    obtain rfl : u = 0 := by omega
    rw [dec_lt (by decide)] at hc
    simp only [List.mem_singleton] at hc
    subst hc; decide
  | k + 1, u, h, c, hc => by
    by_cases h10 : u < 10
    · rw [dec_lt h10] at hc
      simp only [List.mem_singleton] at hc
      subst hc
      rw [UInt8.toNat_ofNat_of_lt' (by show 48 + u < 256; omega)]; omega
    · rw [dec_ge h10] at hc
      rcases List.mem_append.1 hc with hc | hc
      · exact dd_rng k (u / 10) (by omega) c hc
      · simp only [List.mem_singleton] at hc
        subst hc
        rw [UInt8.toNat_ofNat_of_lt' (by show 48 + u % 10 < 256; omega)]; omega
theorem dd_ne (u : Nat) : Lib.decDigits u ≠ [] := by
  by_cases h10 : u < 10
  · rw [dec_lt h10]; simp
  · rw [dec_ge h10]; simp
theorem dig_inj {a b : Nat} (ha : a < 10) (hb : b < 10) (h : UInt8.ofNat (48 + a) = UInt8.ofNat (48 + b)) : a = b := by
  have := congrArg UInt8.toNat h
  rw [UInt8.toNat_ofNat_of_lt' (by show 48 + a < 256; omega), UInt8.toNat_ofNat_of_lt' (by show 48 + b < 256; omega)] at this
  omega
theorem dd_inj : ∀ (k u v : Nat), u ≤ k → Lib.decDigits u = Lib.decDigits v → u = v
  | 0, u, v, hk, h => by
    obtain rfl : u = 0 := by omega
    by_cases hv : v < 10
    · rw [dec_lt (by decide), dec_lt hv] at h
      exact dig_inj (by decide) hv (List.cons.inj h).1
    · rw [dec_lt (by decide), dec_ge hv] at h
      have := congrArg List.length h
      have h2 := List.length_pos_iff.2 (dd_ne (v / 10))
      rw [List.length_append, List.length_singleton, List.length_singleton] at this; omega
  | k + 1, u, v, hk, h => by
    by_cases hu : u < 10
    · by_cases hv : v < 10
      · rw [dec_lt hu, dec_lt hv] at h
        exact dig_inj hu hv (List.cons.inj h).1
      · rw [dec_lt hu, dec_ge hv] at h
        have := congrArg List.length h
        have h2 := List.length_pos_iff.2 (dd_ne (v / 10))
        rw [List.length_append, List.length_singleton, List.length_singleton] at this; omega
    · by_cases hv : v < 10
      · rw [dec_ge hu, dec_lt hv] at h
        have := congrArg List.length h
        have h2 := List.length_pos_iff.2 (dd_ne (u / 10))
        rw [List.length_append, List.length_singleton, List.length_singleton] at this; omega
      · rw [dec_ge hu, dec_ge hv] at h
        obtain ⟨h1, h2⟩ := List.append_inj' h rfl
        have e1 := dd_inj k (u / 10) (v / 10) (by omega) h1
        have e2 := dig_inj (Nat.mod_lt _ (by decide)) (Nat.mod_lt _ (by decide)) (List.cons.inj h2).1
        omega
/-- The signs of a numeral. -/
theorem itoa_rng (n : Int) : ∀ c ∈ Lib.itoa n, c.toNat = 45 ∨ (48 ≤ c.toNat ∧ c.toNat ≤ 57) := fun c hc => by
  unfold Lib.itoa at hc
  split at hc
  · rcases List.mem_cons.1 hc with rfl | hc
    · exact .inl rfl
    · exact .inr (dd_rng _ _ (Nat.le_refl _) c hc)
  · exact .inr (dd_rng _ _ (Nat.le_refl _) c hc)
theorem itoa_inj {m n : Int} (h : Lib.itoa m = Lib.itoa n) : m = n := by
  have key : ∀ u v : Nat, Lib.decDigits u = 45 :: Lib.decDigits v → False := fun u v e => by
    have := dd_rng _ u (Nat.le_refl _) 45 (by rw [e]; simp)
    exact absurd this.1 (by decide)
  unfold Lib.itoa at h
  by_cases hm : m < 0
  · rw [if_pos hm] at h
    by_cases hn : n < 0
    · rw [if_pos hn] at h
      have := dd_inj _ _ _ (Nat.le_refl _) (List.cons.inj h).2
      omega
    · rw [if_neg hn] at h; exact (key _ _ h.symm).elim
  · rw [if_neg hm] at h
    by_cases hn : n < 0
    · rw [if_pos hn] at h; exact (key _ _ h).elim
    · rw [if_neg hn] at h
      have := dd_inj _ _ _ (Nat.le_refl _) h
      omega
/-! ### Names, passes -/
theorem sep_inj {c : UInt8} : ∀ {a a' b b' : List UInt8}, c ∉ a → c ∉ a' → a ++ c :: b = a' ++ c :: b' → a = a' ∧ b = b'
  | [], [], _, _, _, _, h => ⟨rfl, (List.cons.inj h).2⟩
  | [], x :: a', _, _, _, h2, h => absurd (List.cons.inj h).1 fun e => h2 (by rw [e]; simp)
  | x :: a, [], _, _, h1, _, h => absurd (List.cons.inj h).1 fun e => h1 (by rw [← e]; simp)
  | x :: a, y :: a', b, b', h1, h2, h => by
    obtain ⟨e1, e2⟩ := List.cons.inj h
    obtain ⟨e3, e4⟩ := sep_inj (fun k => h1 (List.mem_cons_of_mem _ k)) (fun k => h2 (List.mem_cons_of_mem _ k)) e2
    exact ⟨by rw [e1, e3], e4⟩
theorem itoa_not {n : Int} {c : UInt8} (h : c.toNat ≠ 45 ∧ (c.toNat < 48 ∨ 57 < c.toNat)) : c ∉ Lib.itoa n := fun hc => by
  have := itoa_rng n c hc; omega
theorem nameT_eq (a : Nm) : nameT a = Lib.itoa a.y ++ 46 :: Lib.itoa a.n := by unfold nameT; simp
theorem nameT_inj {a b : Nm} (h : nameT a = nameT b) : a = b := by
  rw [nameT_eq, nameT_eq] at h
  obtain ⟨h1, h2⟩ := sep_inj (itoa_not (by decide)) (itoa_not (by decide)) h
  obtain ⟨y, n⟩ := a
  obtain ⟨y', n'⟩ := b
  rw [show y = y' from itoa_inj h1, show n = n' from itoa_inj h2]
theorem nameT_not {a : Nm} {c : UInt8} (h : c.toNat < 45 ∨ 57 < c.toNat) : c ∉ nameT a := fun hc => by
  rw [nameT_eq] at hc
  rcases List.mem_append.1 hc with hc | hc
  · exact itoa_not ⟨by omega, by omega⟩ hc
  · rcases List.mem_cons.1 hc with rfl | hc
    · have : (46 : UInt8).toNat = 46 := rfl
      omega
    · exact itoa_not ⟨by omega, by omega⟩ hc
theorem nameT_46 (a : Nm) : (46 : UInt8) ∈ nameT a := by rw [nameT_eq]; simp
def dT (p : Ps) : List UInt8 := if p.d = 1 then [62] else [60]
def fT (p : Ps) : List UInt8 := if p.f = true then [43] else []
theorem passT_eq (p : Ps) : passT p = nameT p.id ++ dT p ++ fT p := rfl
theorem passT_inj {p q : Ps} (hp : p.d = 0 ∨ p.d = 1) (hq : q.d = 0 ∨ q.d = 1) (h : passT p = passT q) : p = q := by
  have m62 : ∀ p : Ps, (62 : UInt8) ∈ passT p ↔ p.d = 1 := fun p => by
    rw [passT_eq, List.mem_append, List.mem_append]
    have h1 : (62 : UInt8) ∉ nameT p.id := nameT_not (by decide)
    unfold dT fT
    by_cases hd : p.d = 1 <;> by_cases hf : p.f = true <;> simp [hd, hf, h1]
  have m43 : ∀ p : Ps, (43 : UInt8) ∈ passT p ↔ p.f = true := fun p => by
    rw [passT_eq, List.mem_append, List.mem_append]
    have h1 : (43 : UInt8) ∉ nameT p.id := nameT_not (by decide)
    unfold dT fT
    by_cases hd : p.d = 1 <;> by_cases hf : p.f = true <;> simp [hd, hf, h1]
  have e1 : p.d = q.d := by
    have := (m62 p).symm.trans ((by rw [h]) : ((62 : UInt8) ∈ passT p ↔ (62 : UInt8) ∈ passT q)) |>.trans (m62 q)
    omega
  have e2 : p.f = q.f := by
    have := (m43 p).symm.trans ((by rw [h]) : ((43 : UInt8) ∈ passT p ↔ (43 : UInt8) ∈ passT q)) |>.trans (m43 q)
    exact Bool.eq_iff_iff.2 this
  have e3 : dT p = dT q := by unfold dT; rw [e1]
  have e4 : fT p = fT q := by unfold fT; rw [e2]
  rw [passT_eq, passT_eq, e3, e4] at h
  have e5 := nameT_inj (List.append_cancel_right (List.append_cancel_right h))
  obtain ⟨i, f, d⟩ := p
  obtain ⟨i', f', d'⟩ := q
  dsimp only at e1 e2 e5
  rw [e1, e2, e5]
/-! ### Words and lines -/
/-- A word has no space and no end of line in it. -/
def okW (x : List UInt8) : Prop := (32 : UInt8) ∉ x ∧ (10 : UInt8) ∉ x
theorem okW_name (a : Nm) : okW (nameT a) := ⟨nameT_not (by decide), nameT_not (by decide)⟩
theorem okW_itoa (n : Int) : okW (Lib.itoa n) := ⟨itoa_not (by decide), itoa_not (by decide)⟩
theorem okW_pass (p : Ps) : okW (passT p) := by
  have h1 := okW_name p.id
  unfold okW at h1 ⊢
  rw [passT_eq]
  simp only [List.mem_append, not_or]
  unfold dT fT
  refine ⟨⟨⟨h1.1, ?_⟩, ?_⟩, ⟨h1.2, ?_⟩, ?_⟩ <;> split <;> decide
theorem sp_inj : ∀ {r r' : List (List UInt8)} {x x' : List UInt8}, (32 : UInt8) ∉ x → (32 : UInt8) ∉ x' → (∀ y ∈ r, (32 : UInt8) ∉ y) → (∀ y ∈ r', (32 : UInt8) ∉ y) → x ++ sp r = x' ++ sp r' → x = x' ∧ r = r'
  | [], [], x, x', _, _, _, _, h => by simpa [sp] using h
  | [], y :: r', x, x', h1, h2, _, _, h => by
    rw [sp_cons] at h
    have e : x = x' ++ (32 :: (y ++ sp r')) := by simpa [sp] using h
    exact absurd (show (32 : UInt8) ∈ x by rw [e]; simp) h1
  | y :: r, [], x, x', h1, h2, _, _, h => by
    rw [sp_cons] at h
    have e : x ++ (32 :: (y ++ sp r)) = x' := by simpa [sp] using h
    exact absurd (show (32 : UInt8) ∈ x' by rw [← e]; simp) h2
  | y :: r, y' :: r', x, x', h1, h2, h3, h4, h => by
    rw [sp_cons, sp_cons] at h
    have e : x ++ 32 :: (y ++ sp r) = x' ++ 32 :: (y' ++ sp r') := by simpa using h
    obtain ⟨e1, e2⟩ := sep_inj h1 h2 e
    obtain ⟨e3, e4⟩ := sp_inj (h3 y (by simp)) (h4 y' (by simp)) (fun z hz => h3 z (List.mem_cons_of_mem _ hz)) (fun z hz => h4 z (List.mem_cons_of_mem _ hz)) e2
    exact ⟨e1, by rw [e3, e4]⟩
/-- The words of a line. -/
def okL (W : List (List UInt8)) : Prop := W ≠ [] ∧ ∀ x ∈ W, okW x
theorem join_inj {A B : List (List UInt8)} (hA : okL A) (hB : okL B) (h : Lib.join A [32] = Lib.join B [32]) : A = B := by
  obtain ⟨x, r, rfl⟩ := List.exists_cons_of_ne_nil hA.1
  obtain ⟨x', r', rfl⟩ := List.exists_cons_of_ne_nil hB.1
  rw [join_sp, join_sp] at h
  obtain ⟨e1, e2⟩ := sp_inj (hA.2 x (by simp)).1 (hB.2 x' (by simp)).1 (fun z hz => (hA.2 z (List.mem_cons_of_mem _ hz)).1) (fun z hz => (hB.2 z (List.mem_cons_of_mem _ hz)).1) h
  rw [e1, e2]
theorem join_10 {A : List (List UInt8)} (hA : okL A) : (10 : UInt8) ∉ Lib.join A [32] := by
  obtain ⟨x, r, rfl⟩ := List.exists_cons_of_ne_nil hA.1
  rw [join_sp]
  intro hc
  have key : ∀ r : List (List UInt8), (∀ y ∈ r, (10 : UInt8) ∉ y) → (10 : UInt8) ∉ sp r := by
    intro r
    induction r with
    | nil => intro _; simp [sp]
    | cons y r ih =>
      intro h
      rw [sp_cons]
      intro hc
      have h1 : (10 : UInt8) ∉ y := h y (by simp)
      have h2 := ih fun z hz => h z (List.mem_cons_of_mem _ hz)
      have : (10 : UInt8) ≠ 32 := by decide
      simp [h1, h2, this] at hc
  rcases List.mem_append.1 hc with hc | hc
  · exact (hA.2 x (by simp)).2 hc
  · exact key r (fun z hz => (hA.2 z (List.mem_cons_of_mem _ hz)).2) hc
theorem lines_inj : ∀ {A B : List (List (List UInt8))}, (∀ W ∈ A, okL W) → (∀ W ∈ B, okL W) → (A.map lineT).flatten = (B.map lineT).flatten → A = B
  | [], [], _, _, _ => rfl
  | [], W :: B, _, _, h => by unfold lineT at h; simp at h
  | W :: A, [], _, _, h => by unfold lineT at h; simp at h
  | W :: A, V :: B, hA, hB, h => by
    have h1 := hA W (by simp)
    have h2 := hB V (by simp)
    have e : Lib.join W [32] ++ 10 :: (A.map lineT).flatten = Lib.join V [32] ++ 10 :: (B.map lineT).flatten := by
      simp only [List.map_cons, List.flatten_cons] at h
      unfold lineT at h ⊢
      simpa using h
    obtain ⟨e1, e2⟩ := sep_inj (join_10 h1) (join_10 h2) e
    rw [join_inj h1 h2 e1, lines_inj (fun X hX => hA X (List.mem_cons_of_mem _ hX)) (fun X hX => hB X (List.mem_cons_of_mem _ hX)) e2]
/-! ### The lines of a fabric -/
def tabW (t : Tab) : List (List (List UInt8)) := ((List.range t.length).map fun y => (List.range (yi t y).length).map fun n => descT ⟨(y : Int) + 1, (n : Nat)⟩ (li (yi t y) n)).flatten
def nmsW (w : List UInt8) (l : List Nm) : List (List (List UInt8)) := if l = [] then [] else [w :: l.map nameT]
def wordsF (f : Fab) : List (List (List UInt8)) := tabW f.ys ++ f.cr.map crW ++ nmsW heldW f.held ++ nmsW fallenW f.fallen
theorem textB_eq (f : Fab) : textB f = ((wordsF f).map lineT).flatten := by
  have h1 : tabP f.ys f.ys.length = ((tabW f.ys).map lineT).flatten := by
    unfold tabP rowT rowP tabW
    rw [List.map_flatten, List.map_map, List.flatten_flatten, List.map_map]
    congr 1
    refine List.map_congr_left fun y _ => ?_
    simp only [Function.comp_apply, List.map_map]
    rfl
  have h2 : crP f.cr f.cr.length = ((f.cr.map crW).map lineT).flatten := by
    unfold crP; rw [List.take_length, List.map_map]; rfl
  have h3 : ∀ w l, nmsT w l = ((nmsW w l).map lineT).flatten := fun w l => by
    unfold nmsT nmsW; split <;> simp
  unfold textB wordsF
  rw [h1, h2, h3, h3]
  simp only [List.map_append, List.flatten_append]
theorem mem_tabW {t : Tab} {W : List (List UInt8)} : W ∈ tabW t ↔ ∃ y, y < t.length ∧ ∃ n, n < (yi t y).length ∧ W = descT ⟨(y : Int) + 1, (n : Nat)⟩ (li (yi t y) n) := by
  unfold tabW
  simp only [List.mem_flatten, List.mem_map, List.mem_range]
  constructor
  · rintro ⟨L, ⟨y, hy, rfl⟩, hW⟩
    simp only [List.mem_map, List.mem_range] at hW
    obtain ⟨n, hn, rfl⟩ := hW
    exact ⟨y, hy, n, hn, rfl⟩
  · rintro ⟨y, hy, n, hn, rfl⟩
    exact ⟨_, ⟨y, hy, rfl⟩, by simp only [List.mem_map, List.mem_range]; exact ⟨n, hn, rfl⟩⟩
/-- A loop's numbers are those that a text can tell. -/
structure TelL (l : Lp) : Prop where
  bed : l.bed = 0 ∨ l.bed = 1
  past : ∀ p ∈ l.past, p.d = 0 ∨ p.d = 1
def bedT (l : Lp) : List UInt8 := if l.bed = 1 then backT else frontT
def rest2 (l : Lp) : List (List UInt8) := (if l.thr = [] then [] else throughT :: l.thr.map nameT) ++ ((if l.past = [] then [] else [pastT]) ++ l.past.map passT)
def newW (l : Lp) : List (List UInt8) := if l.new = true then [newT] else []
theorem desc_eq (a : Nm) (l : Lp) : descT a l = nameT a :: bedT l :: (newW l ++ rest2 l) := by
  unfold descT d4T d3T d2T d1T bedT newW rest2; simp
def isP (x : List UInt8) : Bool := decide ((60 : UInt8) ∈ x ∨ (62 : UInt8) ∈ x)
def isN (x : List UInt8) : Bool := decide ((46 : UInt8) ∈ x) && !isP x
theorem isP_pass (p : Ps) : isP (passT p) = true := by
  unfold isP
  refine decide_eq_true ?_
  rw [passT_eq]
  unfold dT
  by_cases hd : p.d = 1 <;> simp [hd]
theorem isP_name (a : Nm) : isP (nameT a) = false := by
  unfold isP
  refine decide_eq_false ?_
  rintro (h | h)
  · exact nameT_not (by decide) h
  · exact nameT_not (by decide) h
theorem isN_name (a : Nm) : isN (nameT a) = true := by
  unfold isN
  rw [isP_name, decide_eq_true (nameT_46 a)]; rfl
theorem isN_pass (p : Ps) : isN (passT p) = false := by
  unfold isN
  rw [isP_pass, Bool.and_comm]; rfl
theorem map_inj_on {α : Type} {f : α → List UInt8} : ∀ {l m : List α}, (∀ a ∈ l, ∀ b ∈ m, f a = f b → a = b) → l.map f = m.map f → l = m
  | [], [], _, _ => rfl
  | [], b :: m, _, h => by simp at h
  | a :: l, [], _, h => by simp at h
  | a :: l, b :: m, hi, h => by
    simp only [List.map_cons] at h
    obtain ⟨h1, h2⟩ := List.cons.inj h
    rw [hi a (by simp) b (by simp) h1, map_inj_on (fun x hx y hy => hi x (List.mem_cons_of_mem _ hx) y (List.mem_cons_of_mem _ hy)) h2]
theorem filt_all {α : Type} (f : α → List UInt8) (p : List UInt8 → Bool) (b : Bool) (l : List α) (h : ∀ a, p (f a) = b) : (l.map f).filter p = if b then l.map f else [] := by
  induction l with
  | nil => cases b <;> rfl
  | cons a l ih =>
    rw [List.map_cons, List.filter_cons, h, ih]
    cases b <;> rfl
theorem desc_inj {a b : Nm} {l m : Lp} (hl : TelL l) (hm : TelL m) (h : descT a l = descT b m) : a = b ∧ l = m := by
  rw [desc_eq, desc_eq] at h
  obtain ⟨h1, h2⟩ := List.cons.inj h
  obtain ⟨h3, h4⟩ := List.cons.inj h2
  have e1 := nameT_inj h1
  have e2 : l.bed = m.bed := by
    have key : ∀ l : Lp, bedT l = backT ↔ l.bed = 1 := fun l => by
      unfold bedT
      by_cases e : l.bed = 1
      · rw [if_pos e]; exact ⟨fun _ => e, fun _ => rfl⟩
      · rw [if_neg e]; exact ⟨fun k => absurd k (by decide), fun k => absurd k e⟩
    have := (key l).symm.trans ((by rw [h3]) : (bedT l = backT ↔ bedT m = backT)) |>.trans (key m)
    have := hl.bed; have := hm.bed
    omega
  have nw : ∀ l : Lp, newT ∈ newW l ++ rest2 l ↔ l.new = true := fun l => by
    have k1 : ∀ a : Nm, newT ≠ nameT a := fun a e => absurd (nameT_46 a) (by rw [← e]; decide)
    have k2 : ∀ p : Ps, newT ≠ passT p := fun p e => absurd (show (46 : UInt8) ∈ passT p by rw [passT_eq]; simp [nameT_46]) (by rw [← e]; decide)
    have k3 : newT ≠ throughT := by decide
    have k4 : newT ≠ pastT := by decide
    have hr : newT ∉ rest2 l := fun hc => by
      unfold rest2 at hc
      rcases List.mem_append.1 hc with hc | hc
      · split at hc
        · cases hc
        · rcases List.mem_cons.1 hc with e | hc
          · exact k3 e
          · obtain ⟨a, _, e⟩ := List.mem_map.1 hc
            exact k1 a e.symm
      · rcases List.mem_append.1 hc with hc | hc
        · split at hc
          · cases hc
          · exact k4 (List.mem_singleton.1 hc)
        · obtain ⟨p, _, e⟩ := List.mem_map.1 hc
          exact k2 p e.symm
    rw [List.mem_append]
    unfold newW
    by_cases e : l.new = true
    · rw [if_pos e]; exact ⟨fun _ => e, fun _ => .inl (by simp)⟩
    · rw [if_neg e]; exact ⟨fun k => (by rcases k with k | k; cases k; exact absurd k hr), fun k => absurd k e⟩
  have e3 : l.new = m.new := by
    have := (nw l).symm.trans ((by rw [h4]) : (newT ∈ newW l ++ rest2 l ↔ newT ∈ newW m ++ rest2 m)) |>.trans (nw m)
    exact Bool.eq_iff_iff.2 this
  have e4 : newW l = newW m := by unfold newW; rw [e3]
  rw [e4] at h4
  have h5 := List.append_cancel_left h4
  have fN : ∀ l : Lp, (rest2 l).filter isN = l.thr.map nameT := fun l => by
    have k1 := filt_all nameT isN true l.thr isN_name
    have k2 := filt_all passT isN false l.past isN_pass
    unfold rest2
    rw [List.filter_append, List.filter_append, k2]
    have k3 : ((if l.past = [] then [] else [pastT]) : List (List UInt8)).filter isN = [] := by split <;> decide
    rw [k3]
    by_cases e : l.thr = []
    · rw [if_pos e, e]; rfl
    · rw [if_neg e, List.filter_cons, if_neg (by decide), k1]; simp
  have fP : ∀ l : Lp, (rest2 l).filter isP = l.past.map passT := fun l => by
    have k1 := filt_all nameT isP false l.thr isP_name
    have k2 := filt_all passT isP true l.past isP_pass
    unfold rest2
    rw [List.filter_append, List.filter_append, k2]
    have k3 : ((if l.past = [] then [] else [pastT]) : List (List UInt8)).filter isP = [] := by split <;> decide
    rw [k3]
    by_cases e : l.thr = []
    · rw [if_pos e]; rfl
    · rw [if_neg e, List.filter_cons, if_neg (by decide), k1]; simp
  have e5 : l.thr = m.thr := map_inj_on (fun _ _ _ _ => nameT_inj) (by rw [← fN, ← fN, h5])
  have e6 : l.past = m.past := map_inj_on (fun p hp q hq => passT_inj (hl.past p hp) (hm.past q hq)) (by rw [← fP, ← fP, h5])
  obtain ⟨b1, n1, t1, p1⟩ := l
  obtain ⟨b2, n2, t2, p2⟩ := m
  dsimp only at e2 e3 e5 e6
  exact ⟨e1, by rw [e2, e3, e5, e6]⟩
theorem desc_ok (a : Nm) (l : Lp) : okL (descT a l) := by
  refine ⟨by rw [desc_eq]; simp, fun x hx => ?_⟩
  rw [desc_eq] at hx
  rcases List.mem_cons.1 hx with rfl | hx
  · exact okW_name a
  rcases List.mem_cons.1 hx with rfl | hx
  · unfold bedT; split <;> (unfold okW; decide)
  rcases List.mem_append.1 hx with hx | hx
  · unfold newW at hx; split at hx
    · rw [List.mem_singleton.1 hx]; unfold okW; decide
    · cases hx
  unfold rest2 at hx
  rcases List.mem_append.1 hx with hx | hx
  · split at hx
    · cases hx
    · rcases List.mem_cons.1 hx with rfl | hx
      · unfold okW; decide
      · obtain ⟨b, _, rfl⟩ := List.mem_map.1 hx; exact okW_name b
  · rcases List.mem_append.1 hx with hx | hx
    · split at hx
      · cases hx
      · rw [List.mem_singleton.1 hx]; unfold okW; decide
    · obtain ⟨p, _, rfl⟩ := List.mem_map.1 hx; exact okW_pass p
theorem words_ok (f : Fab) : ∀ W ∈ wordsF f, okL W := fun W hW => by
  unfold wordsF at hW
  have key : ∀ w l, okW w → ∀ W ∈ nmsW w l, okL W := fun w l hw W hW => by
    unfold nmsW at hW; split at hW
    · cases hW
    · rw [List.mem_singleton.1 hW]
      refine ⟨by simp, fun x hx => ?_⟩
      rcases List.mem_cons.1 hx with rfl | hx
      · exact hw
      · obtain ⟨b, _, rfl⟩ := List.mem_map.1 hx; exact okW_name b
  rcases List.mem_append.1 hW with hW | hW
  · rcases List.mem_append.1 hW with hW | hW
    · rcases List.mem_append.1 hW with hW | hW
      · obtain ⟨y, _, n, _, rfl⟩ := mem_tabW.1 hW; exact desc_ok _ _
      · obtain ⟨c, _, rfl⟩ := List.mem_map.1 hW
        unfold crW
        refine ⟨by simp, fun x hx => ?_⟩
        simp only [List.mem_cons, List.not_mem_nil, or_false] at hx
        rcases hx with rfl | rfl | rfl | rfl
        · unfold okW; decide
        · exact okW_name _
        · exact okW_name _
        · exact okW_itoa _
    · exact key _ _ (by unfold okW; decide) W hW
  · exact key _ _ (by unfold okW; decide) W hW
/-- A fabric whose text tells everything. -/
structure TelF (f : Fab) : Prop where
  l6 : f.ys.length = 6
  l : ∀ r ∈ f.ys, ∀ l ∈ r, TelL l
def hd1 (W : List (List UInt8)) : List UInt8 := W.headD []
theorem filt_hd (f : Fab) (w : List UInt8) (hw : (46 : UInt8) ∉ w) :
    (wordsF f).filter (fun W => decide (hd1 W = w)) = (if w = crossW then f.cr.map crW else []) ++ (if w = heldW then nmsW heldW f.held else []) ++ (if w = fallenW then nmsW fallenW f.fallen else []) := by
  unfold wordsF
  rw [List.filter_append, List.filter_append, List.filter_append]
  have k1 : (tabW f.ys).filter (fun W => decide (hd1 W = w)) = [] := List.filter_eq_nil_iff.2 fun W hW => by
    obtain ⟨y, _, n, _, rfl⟩ := mem_tabW.1 hW
    rw [desc_eq]
    intro e
    have e2 : nameT ⟨(y : Int) + 1, (n : Nat)⟩ = w := of_decide_eq_true e
    exact hw (by rw [← e2]; exact nameT_46 _)
  have k2 : (f.cr.map crW).filter (fun W => decide (hd1 W = w)) = if w = crossW then f.cr.map crW else [] := by
    by_cases e : w = crossW
    · rw [if_pos e]
      refine List.filter_eq_self.2 fun W hW => ?_
      obtain ⟨c, _, rfl⟩ := List.mem_map.1 hW
      exact decide_eq_true (by rw [e]; rfl)
    · rw [if_neg e]
      refine List.filter_eq_nil_iff.2 fun W hW => ?_
      obtain ⟨c, _, rfl⟩ := List.mem_map.1 hW
      intro k
      exact e (of_decide_eq_true k).symm
  have k3 : ∀ v l, (nmsW v l).filter (fun W => decide (hd1 W = w)) = if w = v then nmsW v l else [] := fun v l => by
    unfold nmsW
    by_cases hl : l = []
    · rw [if_pos hl]; split <;> rfl
    · rw [if_neg hl]
      by_cases e : w = v
      · rw [if_pos e, List.filter_cons, if_pos (decide_eq_true (by rw [e]; rfl))]; rfl
      · rw [if_neg e, List.filter_cons, if_neg (fun k => e (of_decide_eq_true k).symm)]; rfl
  rw [k1, k2, k3, k3]; simp
theorem crW_inj {c d : Xg} (h : crW c = crW d) : c = d := by
  unfold crW at h
  obtain ⟨_, h1⟩ := List.cons.inj h
  obtain ⟨h2, h3⟩ := List.cons.inj h1
  obtain ⟨h4, h5⟩ := List.cons.inj h3
  have h6 := (List.cons.inj h5).1
  obtain ⟨a, b, n⟩ := c
  obtain ⟨a', b', n'⟩ := d
  dsimp only at h2 h4 h6
  rw [nameT_inj h2, nameT_inj h4, itoa_inj h6]
theorem nmsW_inj {w : List UInt8} {l m : List Nm} (h : nmsW w l = nmsW w m) : l = m := by
  unfold nmsW at h
  by_cases hl : l = []
  · rw [if_pos hl] at h
    by_cases hm : m = []
    · rw [hl, hm]
    · rw [if_neg hm] at h; cases h
  · rw [if_neg hl] at h
    by_cases hm : m = []
    · rw [if_pos hm] at h; cases h
    · rw [if_neg hm] at h
      have := (List.cons.inj (List.cons.inj h).1).2
      exact map_inj_on (fun _ _ _ _ => nameT_inj) this
theorem li_ext {r s : List Lp} (hl : r.length = s.length) (h : ∀ n, n < r.length → li r n = li s n) : r = s :=
  List.ext_getElem hl fun n h1 h2 => by
    have := h n h1
    rwa [li_of h1, li_of h2] at this
theorem yi_ext {t u : Tab} (hl : t.length = u.length) (h : ∀ y, y < t.length → yi t y = yi u y) : t = u :=
  List.ext_getElem hl fun n h1 h2 => by
    have := h n h1
    rwa [yi_of h1, yi_of h2] at this
/-- The text tells the fabric. -/
theorem textB_inj {f g : Fab} (hf : TelF f) (hg : TelF g) (h : textB f = textB g) : f = g := by
  rw [textB_eq, textB_eq] at h
  have hw := lines_inj (words_ok f) (words_ok g) h
  have e1 : f.cr = g.cr := by
    have k1 := filt_hd f crossW (by decide)
    rw [hw, filt_hd g crossW (by decide)] at k1
    rw [if_pos rfl, if_neg (by decide), if_neg (by decide), if_pos rfl, if_neg (by decide), if_neg (by decide)] at k1
    simp only [List.append_nil] at k1
    have key : ∀ {l m : List Xg}, l.map crW = m.map crW → l = m := by
      intro l
      induction l with
      | nil => intro m h; cases m with
        | nil => rfl
        | cons b m => simp at h
      | cons a l ih => intro m h; cases m with
        | nil => simp at h
        | cons b m =>
          simp only [List.map_cons] at h
          obtain ⟨h1, h2⟩ := List.cons.inj h
          rw [crW_inj h1, ih h2]
    exact (key k1).symm
  have e2 : f.held = g.held := by
    have k1 := filt_hd f heldW (by decide)
    rw [hw, filt_hd g heldW (by decide)] at k1
    rw [if_neg (by decide), if_pos rfl, if_neg (by decide), if_neg (by decide), if_pos rfl, if_neg (by decide)] at k1
    simp only [List.append_nil, List.nil_append] at k1
    exact (nmsW_inj k1).symm
  have e3 : f.fallen = g.fallen := by
    have k1 := filt_hd f fallenW (by decide)
    rw [hw, filt_hd g fallenW (by decide)] at k1
    rw [if_neg (by decide), if_neg (by decide), if_pos rfl, if_neg (by decide), if_neg (by decide), if_pos rfl] at k1
    simp only [List.append_nil, List.nil_append] at k1
    exact (nmsW_inj k1).symm
  have key : ∀ {f g : Fab}, TelF f → TelF g → wordsF f = wordsF g → ∀ y, y < 6 → ∀ n, n < (yi f.ys y).length → n < (yi g.ys y).length ∧ li (yi f.ys y) n = li (yi g.ys y) n := by
    intro f g hf hg hw y hy n hn
    have h1 : descT ⟨(y : Int) + 1, (n : Nat)⟩ (li (yi f.ys y) n) ∈ wordsF g := by
      rw [← hw]; unfold wordsF
      exact List.mem_append_left _ (List.mem_append_left _ (List.mem_append_left _ (mem_tabW.2 ⟨y, by rw [hf.l6]; exact hy, n, hn, rfl⟩)))
    have h46 : (46 : UInt8) ∈ hd1 (descT ⟨(y : Int) + 1, (n : Nat)⟩ (li (yi f.ys y) n)) := by rw [desc_eq]; exact nameT_46 _
    have hnm : ∀ w l W, (46 : UInt8) ∉ w → W ∈ nmsW w l → (46 : UInt8) ∉ hd1 W := fun w l W hw hW => by
      unfold nmsW at hW; split at hW
      · cases hW
      · rw [List.mem_singleton.1 hW]; exact hw
    unfold wordsF at h1
    rcases List.mem_append.1 h1 with h1 | h1
    · rcases List.mem_append.1 h1 with h1 | h1
      · rcases List.mem_append.1 h1 with h1 | h1
        · obtain ⟨y', hy', n', hn', e⟩ := mem_tabW.1 h1
          obtain ⟨e1, e2⟩ := desc_inj (hf.l _ (yi_mem (by rw [hf.l6]; exact hy)) _ (li_mem hn)) (hg.l _ (yi_mem hy') _ (li_mem hn')) e
          have k1 : (y : Int) + 1 = (y' : Int) + 1 := congrArg Nm.y e1
          have k2 : (n : Int) = (n' : Int) := congrArg Nm.n e1
          obtain rfl : y = y' := by omega
          obtain rfl : n = n' := by omega
          exact ⟨hn', e2⟩
        · obtain ⟨c, _, e⟩ := List.mem_map.1 h1
          rw [← e] at h46
          exact absurd h46 (by show (46 : UInt8) ∉ crossW; decide)
      · exact absurd h46 (hnm _ _ _ (by decide) h1)
    · exact absurd h46 (hnm _ _ _ (by decide) h1)
  have e4 : f.ys = g.ys := yi_ext (by rw [hf.l6, hg.l6]) fun y hy => by
    rw [hf.l6] at hy
    have a1 := key hf hg hw y hy
    have a2 := key hg hf hw.symm y hy
    have hl : (yi f.ys y).length = (yi g.ys y).length := by
      rcases Nat.lt_trichotomy (yi f.ys y).length (yi g.ys y).length with h | h | h
      · have := (a2 _ h).1; omega
      · exact h
      · have := (a1 _ h).1; omega
    exact li_ext hl fun n hn => (a1 n hn).2
  obtain ⟨t1, c1, h1, f1⟩ := f
  obtain ⟨t2, c2, h2, f2⟩ := g
  dsimp only at e1 e2 e3 e4
  rw [e1, e2, e3, e4]
end Go.Proofs.YtlhkehfplcclgaaDoor
