/- Texts of this claim in one file: libraries and walks. -/
import Derived.Test.YtlhkehfplcclgaaDoorL13
import Derived.Test.YtlhkehfplcclgaaDoorL14
import Derived.Test.YtlhkehfplcclgaaDoorL18
/- decimal, name, names. -/
namespace Go.Proofs.YtlhkehfplcclgaaDoor
set_option linter.unusedVariables false
set_option linter.unusedSimpArgs false
set_option maxRecDepth 8000
open Go Go.RowKit Go.Sort

theorem conv1 (x : Int) (W : World) (g : Nat) (hg : g = W.heap.size) :
    (convert 25 9 (.slice (some ⟨g, 0, none⟩) 1 1)).run Tryd.prog (W.alloc (.cells #[.int .u8 x] 5)) = .ok (.string (bst [UInt8.ofNat x.toNat])) (W.alloc (.cells #[.int .u8 x] 5)) := by
  have h : IS .u8 (W.alloc (.cells #[.int .u8 x] 5)) (.slice (some ⟨g, 0, none⟩) 1 1) 1 [x] := IS.lit rfl hg rfl (by omega)
  exact run_bstr h Tryd.underlying25 Tryd.underlying5 Tryd.underlying9
theorem conv1w (x : Int) (w : World) (g : Nat) (hb : w.heap[g]? = some (.cells #[.int .u8 x] 5 (0, 0))) :
    (convert 25 9 (.slice (some ⟨g, 0, none⟩) 1 1)).run Tryd.prog w = .ok (.string (bst [UInt8.ofNat x.toNat])) w := by
  have h : IS .u8 w (.slice (some ⟨g, 0, none⟩) 1 1) 1 [x] := by
    refine ⟨some ⟨g, 0, none⟩, rfl, by simp, by unfold maxLen; omega, fun h => (by cases h), fun a e => ?_⟩
    cases e
    refine ⟨fun _ => rfl, fun j u hj => ?_⟩
    cases j with
    | zero => simp at hj; subst hj; simp [World.cell?, hb]
    | succ j => simp at hj
  exact run_bstr h Tryd.underlying25 Tryd.underlying5 Tryd.underlying9
theorem dec_lt {u : Nat} (h : u < 10) : Lib.decDigits u = [UInt8.ofNat (48 + u)] := by unfold Lib.decDigits; rw [dif_pos h]
theorem dec_ge {u : Nat} (h : ¬ u < 10) : Lib.decDigits u = Lib.decDigits (u / 10) ++ [UInt8.ofNat (48 + u % 10)] := by
  conv => lhs; unfold Lib.decDigits
  rw [dif_neg h]
theorem dec_len {u : Nat} (h : u ≤ 9223372036854775807) : (Lib.decDigits u).length ≤ 21 := by
  have := Lib.itoa_length_le (u : Int) (by omega) (by omega)
  unfold Lib.itoa at this
  rw [if_neg (by omega)] at this; simpa using this
set_option maxHeartbeats 8000000 in
theorem Dec_calls : ∀ (k u : Nat) (w : World), u ≤ 9223372036854775807 → u ≤ k → Calls Tryd.prog 20 #[.int .i64 u] w fun e w' => e = .returned (.string (bst (Lib.decDigits u))) ∧ Ext w w' := by
  intro k
  induction k with
  | zero =>
    intro u w h9 hk
    obtain rfl : u = 0 := by omega
    have hc := conv1
    have HE := Lib.hid (show bst [UInt8.ofNat (48 : Int).toNat] = bst (Lib.decDigits 0) by rw [dec_lt (by decide)]; rfl)
    have X := Lib.hid (show Ext w (w.alloc (.cells #[.int .u8 48] 5)) from (Ext.refl _).alloc _)
    rw [← HE.out]
    go_enter Tryd.func20, Tryd.ntmps20
    go_wp2
    go_ret
    exact ⟨rfl, X.out⟩
  | succ k ih =>
    intro u w h9 hk
    by_cases h10 : u < 10
    · have hc := conv1
      have f1 : (u : Int) < 10 := by omega
      have e1 : IntKind.u8.wrap (u : Int) = u := IntWalk.u8_in _ ⟨by omega, by omega⟩
      have e2 : IntKind.u8.wrap (48 + (u : Int)) = 48 + u := IntWalk.u8_in _ ⟨by omega, by omega⟩
      have HE := Lib.hid (show bst [UInt8.ofNat (48 + (u : Int)).toNat] = bst (Lib.decDigits u) by rw [dec_lt h10]; congr 2)
      have X := Lib.hid (show Ext w (w.alloc (.cells #[.int .u8 (48 + (u : Int))] 5)) from (Ext.refl _).alloc _)
      rw [← HE.out]
      go_enter Tryd.func20, Tryd.ntmps20
      go_wp2
      go_ret
      exact ⟨rfl, X.out⟩
    · have f1 : ¬ (u : Int) < 10 := by omega
      have hdl := dec_len (u := u / 10) (by omega)
      have HD := Lib.hid (show ∀ w', Calls Tryd.prog 20 #[.int .i64 ((u / 10 : Nat) : Int)] w' fun e w'' => e = .returned (.string (bst (Lib.decDigits (u / 10)))) ∧ Ext w' w'' from fun w' => ih (u / 10) w' (by omega) (by omega))
      obtain ⟨S1, hS1⟩ : ∃ S1, S1 = bst (Lib.decDigits (u / 10)) := ⟨_, rfl⟩
      rw [← hS1] at HD
      have z1 : S1.size ≤ 21 := by rw [hS1, bst_size]; exact hdl
      obtain ⟨q, hq⟩ : ∃ q, q = u / 10 := ⟨_, rfl⟩
      obtain ⟨d, hd⟩ : ∃ d, d = u % 10 := ⟨_, rfl⟩
      have hd10 : d < 10 := by omega
      rw [← hq] at HD
      have e0 : (u : Int).tdiv 10 = (q : Int) := by rw [hq, Int.tdiv_eq_ediv_of_nonneg (by omega)]; omega
      have e0' : (u : Int) / 10 = (q : Int) := by omega
      have e1 : (u : Int).tmod 10 = (d : Int) := by rw [hd, Int.tmod_eq_emod_of_nonneg (by omega)]; omega
      have e1' : (u : Int) % 10 = (d : Int) := by omega
      have e2 : IntKind.u8.wrap (d : Int) = d := IntWalk.u8_in _ ⟨by omega, by omega⟩
      have e4 : IntKind.i64.wrap (q : Int) = q := IntWalk.i64_in _ ⟨by omega, by omega⟩
      have e3 : IntKind.u8.wrap (48 + (d : Int)) = 48 + d := IntWalk.u8_in _ ⟨by omega, by omega⟩
      obtain ⟨S2, hS2⟩ : ∃ S2, S2 = bst [UInt8.ofNat (48 + (d : Int)).toNat] := ⟨_, rfl⟩
      have HE := Lib.hid (show S1 ++ S2 = bst (Lib.decDigits u) by rw [dec_ge h10, hS1, hS2, bst_app, ← hd]; congr 3)
      have y1 : S2.size = 1 := by rw [hS2, bst_size]; rfl
      have y2 : ¬ 9223372036854775807 < S1.size + S2.size := by omega
      have y3 : ¬ 9223372036854775807 < S1.size + 1 := by omega
      have hc := conv1
      have hcw := conv1w (48 + (d : Int))
      rw [← hS2] at hcw
      have hc2 := fun W g h => conv1 (48 + (d : Int)) W g h
      rw [← hS2] at hc2
      rw [← HE.out]
      have HC := Lib.hid hc2; have HCw := Lib.hid hcw
      clear hc hc2 hcw hS1 hS2 hq hd hdl ih h10
      go_enter Tryd.func20, Tryd.ntmps20
      go_upto_region 3 with fail
      refine wp_region_held_drew (S := fun w' => True) (by kernel_rfl) ?_ (fun hHeld => ?_)
      · exact trivial
      refine wpAnyH_take (i := 0) (v := ?va94_0) rfl (by kernel_rfl) (by kernel_rfl) (by kernel_rfl) (fun _ _ _ h => h) (Or.inl ⟨by rfl, fun w hSw => ?ti94_0⟩) (by assumption) ?rest94_0
      case ti94_0 => ((try dsimp only at hSw); go_simp; (first | done | with_reducible rfl))
      try simp only [Act.put, List.getElem_toArray, List.getElem_cons_zero, List.getElem_cons_succ, List.setIfInBounds_toArray, List.set_cons_zero, List.set_cons_succ]
      refine wpAnyH_take (i := 1) (v := ?va97_1) rfl (by kernel_rfl) (by kernel_rfl) (by kernel_rfl) (fun _ _ _ h => h) (Or.inl ⟨by rfl, fun w hSw => ?ti97_1⟩) (by assumption) ?rest97_1
      case ti97_1 => ((try dsimp only at hSw); go_simp; (first | done | with_reducible rfl))
      try simp only [Act.put, List.getElem_toArray, List.getElem_cons_zero, List.getElem_cons_succ, List.setIfInBounds_toArray, List.set_cons_zero, List.set_cons_succ]
      refine wpAnyH_take (i := 3) (v := ?va100_3) rfl (by kernel_rfl) (by kernel_rfl) (by kernel_rfl) (fun _ _ _ h => h) (Or.inl ⟨by rfl, fun w hSw => ?ti100_3⟩) (by assumption) ?rest100_3
      case ti100_3 => ((try dsimp only at hSw); go_simp; (first | done | with_reducible rfl))
      try simp only [Act.put, List.getElem_toArray, List.getElem_cons_zero, List.getElem_cons_succ, List.setIfInBounds_toArray, List.set_cons_zero, List.set_cons_succ]
      refine wpAnyH_take (i := 4) (v := ?va103_4) rfl (by kernel_rfl) (by kernel_rfl) (by kernel_rfl) (fun _ _ _ h => h) (Or.inl ⟨by rfl, fun w hSw => ?ti103_4⟩) (by assumption) ?rest103_4
      case ti103_4 => ((try dsimp only at hSw); go_simp; (first | done | with_reducible rfl))
      try simp only [Act.put, List.getElem_toArray, List.getElem_cons_zero, List.getElem_cons_succ, List.setIfInBounds_toArray, List.set_cons_zero, List.set_cons_succ]
      refine wpAnyH_take (i := 5) (v := ?va106_5) rfl (by kernel_rfl) (by kernel_rfl) (by kernel_rfl) (fun _ _ _ h => h) (Or.inl ⟨by rfl, fun w hSw => ?ti106_5⟩) (by assumption) ?rest106_5
      case ti106_5 => ((try dsimp only at hSw); go_simp; (first | done | with_reducible rfl))
      try simp only [Act.put, List.getElem_toArray, List.getElem_cons_zero, List.getElem_cons_succ, List.setIfInBounds_toArray, List.set_cons_zero, List.set_cons_succ]
      refine wpAnyH_take (i := 6) (v := ?va109_6) rfl (by kernel_rfl) (by kernel_rfl) (by kernel_rfl) (fun _ _ _ h => h) (Or.inl ⟨by rfl, fun w hSw => ?ti109_6⟩) (by assumption) ?rest109_6
      case ti109_6 => ((try dsimp only at hSw); go_simp; (first | done | with_reducible rfl))
      try simp only [Act.put, List.getElem_toArray, List.getElem_cons_zero, List.getElem_cons_succ, List.setIfInBounds_toArray, List.set_cons_zero, List.set_cons_succ]
      refine wpAnyH_ready (rs := [2, 7]) (by kernel_rfl) (by simp) ?_
      refine AllReadyH.cons rfl (fun K hK => ?_) (AllReadyH.cons rfl (fun K hK => ?_) AllReadyH.nil)
      · go_simp
        refine (HD.out _).mono ?_
        rintro e w1 ⟨rfl, x⟩
        have Xw1 : Hid (Ext w w1) := Lib.hid (Ext.trans (by (focus (repeat (first | (with_reducible exact Ext.refl _) | (with_reducible apply Ext.drew) | (with_reducible apply Ext.drewN) | (with_reducible apply Ext.alloc))))) x)
        clear x
        go_simp
        refine hK.out _ _ trivial (fun hHeld => ?_)
        clear hK K; try simp only [Act.put, List.getElem_toArray, List.getElem_cons_zero, List.getElem_cons_succ, List.setIfInBounds_toArray, List.set_cons_zero, List.set_cons_succ]
        refine wpAnyH_ready (rs := [7]) (by kernel_rfl) (by simp) ?_
        refine AllReadyH.cons rfl (fun K hK => ?_) AllReadyH.nil
        go_simp
        refine hK.out _ _ trivial (fun hHeld => ?_)
        clear hK K; try simp only [Act.put, List.getElem_toArray, List.getElem_cons_zero, List.getElem_cons_succ, List.setIfInBounds_toArray, List.set_cons_zero, List.set_cons_succ]
        refine wpAnyH_ready (rs := [8]) (by kernel_rfl) (by simp) ?_
        refine AllReadyH.cons rfl (fun K hK => ?_) AllReadyH.nil
        have hcv := HC.out w1 w1.heap.size rfl
        go_simp
        clear hcv
        refine hK.out _ _ trivial (fun hHeld => ?_)
        clear hK K; try simp only [Act.put, List.getElem_toArray, List.getElem_cons_zero, List.getElem_cons_succ, List.setIfInBounds_toArray, List.set_cons_zero, List.set_cons_succ]
        refine wpAnyH_ready (rs := [9]) (by kernel_rfl) (by simp) ?_
        refine AllReadyH.cons rfl (fun K hK => ?_) AllReadyH.nil
        go_simp
        refine hK.out _ _ trivial (fun hHeld => ?_)
        clear hK K; try simp only [Act.put, List.getElem_toArray, List.getElem_cons_zero, List.getElem_cons_succ, List.setIfInBounds_toArray, List.set_cons_zero, List.set_cons_succ]
        refine wpAnyH_ready (rs := [10]) (by kernel_rfl) (by simp) ?_
        refine AllReadyH.cons rfl (fun K hK => ?_) AllReadyH.nil
        go_simp
        refine hK.out _ _ trivial (fun hHeld => ?_)
        clear hK K; try simp only [Act.put, List.getElem_toArray, List.getElem_cons_zero, List.getElem_cons_succ, List.setIfInBounds_toArray, List.set_cons_zero, List.set_cons_succ]
        refine wpAnyH_done (by kernel_rfl) ?_ _
        go_wp2
        go_ret
        exact ⟨rfl, Xw1.out.trans ((Ext.refl _).alloc _)⟩
      · go_simp
        refine hK.out _ _ trivial (fun hHeld => ?_)
        clear hK K; try simp only [Act.put, List.getElem_toArray, List.getElem_cons_zero, List.getElem_cons_succ, List.setIfInBounds_toArray, List.set_cons_zero, List.set_cons_succ]
        refine wpAnyH_ready (rs := [2, 8]) (by kernel_rfl) (by simp) ?_
        refine AllReadyH.cons rfl (fun K hK => ?_) (AllReadyH.cons rfl (fun K hK => ?_) AllReadyH.nil)
        · go_simp
          refine (HD.out _).mono ?_
          rintro e w2 ⟨rfl, x⟩
          have Xw2 : Hid (Ext w w2) := Lib.hid (Ext.trans (by (focus (repeat (first | (with_reducible exact Ext.refl _) | (with_reducible apply Ext.drew) | (with_reducible apply Ext.drewN) | (with_reducible apply Ext.alloc))))) x)
          have hcv := HCw.out w2 w.heap.size (Ext.block x (Deep.blk_alloc_new w _))
          clear x
          go_simp
          refine hK.out _ _ trivial (fun hHeld => ?_)
          clear hK K; try simp only [Act.put, List.getElem_toArray, List.getElem_cons_zero, List.getElem_cons_succ, List.setIfInBounds_toArray, List.set_cons_zero, List.set_cons_succ]
          refine wpAnyH_ready (rs := [8]) (by kernel_rfl) (by simp) ?_
          refine AllReadyH.cons rfl (fun K hK => ?_) AllReadyH.nil
          go_simp
          clear hcv
          refine hK.out _ _ trivial (fun hHeld => ?_)
          clear hK K; try simp only [Act.put, List.getElem_toArray, List.getElem_cons_zero, List.getElem_cons_succ, List.setIfInBounds_toArray, List.set_cons_zero, List.set_cons_succ]
          refine wpAnyH_ready (rs := [9]) (by kernel_rfl) (by simp) ?_
          refine AllReadyH.cons rfl (fun K hK => ?_) AllReadyH.nil
          go_simp
          refine hK.out _ _ trivial (fun hHeld => ?_)
          clear hK K; try simp only [Act.put, List.getElem_toArray, List.getElem_cons_zero, List.getElem_cons_succ, List.setIfInBounds_toArray, List.set_cons_zero, List.set_cons_succ]
          refine wpAnyH_ready (rs := [10]) (by kernel_rfl) (by simp) ?_
          refine AllReadyH.cons rfl (fun K hK => ?_) AllReadyH.nil
          go_simp
          refine hK.out _ _ trivial (fun hHeld => ?_)
          clear hK K; try simp only [Act.put, List.getElem_toArray, List.getElem_cons_zero, List.getElem_cons_succ, List.setIfInBounds_toArray, List.set_cons_zero, List.set_cons_succ]
          refine wpAnyH_done (by kernel_rfl) ?_ _
          go_wp2
          go_ret
          exact ⟨rfl, Xw2.out⟩
        · have hcv := HCw.out ((w.alloc (.cells #[.int .u8 (48 + (d : Int))] 5))).drew w.heap.size (Deep.blk_alloc_new w _)
          go_simp
          clear hcv
          refine hK.out _ _ trivial (fun hHeld => ?_)
          clear hK K; try simp only [Act.put, List.getElem_toArray, List.getElem_cons_zero, List.getElem_cons_succ, List.setIfInBounds_toArray, List.set_cons_zero, List.set_cons_succ]
          refine wpAnyH_ready (rs := [2]) (by kernel_rfl) (by simp) ?_
          refine AllReadyH.cons rfl (fun K hK => ?_) AllReadyH.nil
          go_simp
          refine (HD.out _).mono ?_
          rintro e w2 ⟨rfl, x⟩
          have Xw2 : Hid (Ext w w2) := Lib.hid (Ext.trans (by (focus (repeat (first | (with_reducible exact Ext.refl _) | (with_reducible apply Ext.drew) | (with_reducible apply Ext.drewN) | (with_reducible apply Ext.alloc))))) x)
          clear x
          go_simp
          refine hK.out _ _ trivial (fun hHeld => ?_)
          clear hK K; try simp only [Act.put, List.getElem_toArray, List.getElem_cons_zero, List.getElem_cons_succ, List.setIfInBounds_toArray, List.set_cons_zero, List.set_cons_succ]
          refine wpAnyH_ready (rs := [9]) (by kernel_rfl) (by simp) ?_
          refine AllReadyH.cons rfl (fun K hK => ?_) AllReadyH.nil
          go_simp
          refine hK.out _ _ trivial (fun hHeld => ?_)
          clear hK K; try simp only [Act.put, List.getElem_toArray, List.getElem_cons_zero, List.getElem_cons_succ, List.setIfInBounds_toArray, List.set_cons_zero, List.set_cons_succ]
          refine wpAnyH_ready (rs := [10]) (by kernel_rfl) (by simp) ?_
          refine AllReadyH.cons rfl (fun K hK => ?_) AllReadyH.nil
          go_simp
          refine hK.out _ _ trivial (fun hHeld => ?_)
          clear hK K; try simp only [Act.put, List.getElem_toArray, List.getElem_cons_zero, List.getElem_cons_succ, List.setIfInBounds_toArray, List.set_cons_zero, List.set_cons_succ]
          refine wpAnyH_done (by kernel_rfl) ?_ _
          go_wp2
          go_ret
          exact ⟨rfl, Xw2.out⟩
theorem itoa_nn {n : Int} (h : 0 ≤ n) : Lib.itoa n = Lib.decDigits n.toNat := by unfold Lib.itoa; rw [if_neg (by omega)]
theorem Dec2_calls (n : Int) (w : World) (h0 : 0 ≤ n) (h9 : n ≤ 9223372036854775807) : Calls Tryd.prog 20 #[.int .i64 n] w fun e w' => e = .returned (.string (bst (Lib.itoa n))) ∧ Ext w w' := by
  have h := Dec_calls n.toNat n.toNat w (by omega) (Nat.le_refl _)
  rw [Int.toNat_of_nonneg h0] at h
  rw [itoa_nn h0]; exact h
set_option maxHeartbeats 4000000 in
theorem LName_calls (a : Nm) (w : World) (ha : a.In) (h0 : 0 ≤ a.n) : Calls Tryd.prog 18 #[a.val] w fun e w' => e = .returned (.string (bst (nameT a))) ∧ Ext w w' := by
  obtain ⟨⟨h1, h2⟩, h3, h4⟩ := ha
  have k1 := Lib.itoa_length_le a.y (by omega) (by omega)
  have k2 := Lib.itoa_length_le a.n h3 h4
  obtain ⟨W, hW⟩ : ∃ W, W = w.alloc (.cells #[.int .u8 a.y, .int .i64 a.n] 41) := ⟨_, rfl⟩
  have XW := Lib.hid (show Ext w W by rw [hW]; exact (Ext.refl _).alloc _)
  obtain ⟨q0_1, q0_2⟩ := (show BN W w.heap.size a by rw [hW]; exact BN.new w a).at
  simp only [Nat.zero_add] at q0_2
  obtain ⟨S1, hS1⟩ : ∃ S1, S1 = bst (Lib.itoa a.y) := ⟨_, rfl⟩
  obtain ⟨S2, hS2⟩ : ∃ S2, S2 = bst (Lib.itoa a.n) := ⟨_, rfl⟩
  have H1 := Lib.hid (show ∀ w', Ext w w' → Calls Tryd.prog 20 #[.int .i64 a.y] w' fun e w'' => e = .returned (.string S1) ∧ Ext w' w'' from fun w' x => by rw [hS1]; exact Dec2_calls a.y w' h1 (by omega))
  have H2 := Lib.hid (show ∀ w', Ext w w' → Calls Tryd.prog 20 #[.int .i64 a.n] w' fun e w'' => e = .returned (.string S2) ∧ Ext w' w'' from fun w' x => by rw [hS2]; exact Dec2_calls a.n w' h0 h4)
  have z1 : S1.size ≤ 21 := by rw [hS1, bst_size]; exact k1
  have z2 : S2.size ≤ 21 := by rw [hS2, bst_size]; exact k2
  have y1 : ¬ 9223372036854775807 < S1.size + 1 := by omega
  have y2 : ¬ 9223372036854775807 < S1.size + 1 + S2.size := by omega
  have HE := Lib.hid (show S1 ++ bst [46] ++ S2 = bst (nameT a) by rw [hS1, hS2, bst_app, bst_app]; rfl)
  rw [← HE.out]
  have t1 : IntKind.i64.wrap a.y = a.y := IntWalk.i64_in _ ⟨by omega, by omega⟩
  have HW := Lib.hid hW
  unfold Nm.val
  clear hW hS1 hS2 k1 k2
  go_enter Tryd.func18, Tryd.ntmps18
  go_wp2
  rw [← HW.out]
  generalize a.y = Y at *
  generalize a.n = N at *
  go_region_held3 (fun w' => w'.cell? ⟨w.heap.size, 0, Option.none⟩ = some (.int .u8 Y) ∧ w'.cell? ⟨w.heap.size, 1, Option.none⟩ = some (.int .i64 N)) (first | (with_reducible exact ⟨q0_1, q0_2⟩) | (with_reducible exact ⟨q1_1, q1_2⟩) | (with_reducible exact ⟨q2_1, q2_2⟩) | go_keep) (first
    | (go_at_call_of 20 (Value.int .i64 Y); (refine (H1.out _ ?_).mono ?_); (focus (refine Ext.trans XW.out ?_; (focus (repeat (first | (with_reducible exact Ext.refl _) | (with_reducible apply Ext.drew) | (with_reducible apply Ext.drewN) | (with_reducible apply Ext.alloc)))))); intro e w1 hh; obtain ⟨rfl, x⟩ := hh; have Xa : Hid (Ext W w1) := Lib.hid (Ext.trans (by ((repeat (first | (with_reducible exact Ext.refl _) | (with_reducible apply Ext.drew) | (with_reducible apply Ext.drewN) | (with_reducible apply Ext.alloc))); done)) x); have q1_1 := Xa.out.cell q0_1; have q1_2 := Xa.out.cell q0_2; clear x)
    | (go_at_call_of 20 (Value.int .i64 N); (refine (H2.out _ ?_).mono ?_); (focus (refine Ext.trans (XW.out.trans Xa.out) ?_; (focus (repeat (first | (with_reducible exact Ext.refl _) | (with_reducible apply Ext.drew) | (with_reducible apply Ext.drewN) | (with_reducible apply Ext.alloc)))))); intro e w2 hh; obtain ⟨rfl, x⟩ := hh; have Xb : Hid (Ext W w2) := Lib.hid (Ext.trans Xa.out (Ext.trans (by ((repeat (first | (with_reducible exact Ext.refl _) | (with_reducible apply Ext.drew) | (with_reducible apply Ext.drewN) | (with_reducible apply Ext.alloc))); done)) x)); have q2_1 := Xb.out.cell q0_1; have q2_2 := Xb.out.cell q0_2; clear x))
  all_goals go_wp2
  all_goals go_ret
  all_goals exact ⟨rfl, XW.out.trans Xb.out⟩
/-- Words, each behind a space. -/
def sp (l : List (List UInt8)) : List UInt8 := (l.map fun x => 32 :: x).flatten
theorem sp_nil : sp [] = [] := rfl
theorem sp_cons (x : List UInt8) (l : List (List UInt8)) : sp (x :: l) = 32 :: (x ++ sp l) := by unfold sp; simp
theorem sp_app (l m : List (List UInt8)) : sp (l ++ m) = sp l ++ sp m := by unfold sp; simp
theorem sp_len {k : Nat} : ∀ {l : List (List UInt8)}, (∀ x ∈ l, x.length ≤ k) → (sp l).length ≤ l.length * (k + 1)
  | [], _ => by simp [sp]
  | x :: l, h => by
    have h1 := h x List.mem_cons_self
    have h2 := sp_len (l := l) fun y hy => h y (List.mem_cons_of_mem _ hy)
    rw [sp_cons, List.length_cons, List.length_append, List.length_cons, Nat.succ_mul]; omega
theorem sp_take {l : List Nm} {k : Nat} (h : k < l.length) : sp ((l.take (k + 1)).map nameT) = sp ((l.take k).map nameT) ++ ([32] ++ nameT (ni l k)) := by
  rw [List.take_succ_eq_append_getElem h, List.map_append, sp_app, ni_of h]; simp [sp]
theorem nms_len {l : List Nm} (h : ∀ a ∈ l, a.In) (h9 : l.length ≤ 1000) (k : Nat) : (sp ((l.take k).map nameT)).length ≤ 44000 := by
  have h1 := sp_len (k := 43) (l := (l.take k).map nameT) fun x hx => by
    obtain ⟨a, ha, rfl⟩ := List.mem_map.1 hx
    exact nameT_len (h a (List.mem_of_mem_take ha))
  rw [List.length_map, List.length_take] at h1
  have h2 : min k l.length ≤ 1000 := by omega
  have h3 := Nat.mul_le_mul_right 44 h2
  omega
set_option maxHeartbeats 4000000 in
theorem LNames_calls (lv : Value) (c : Nat) (l : List Nm) (w : World) (h : NL w lv c l) (hin : ∀ a ∈ l, a.In ∧ 0 ≤ a.n) (h9 : l.length ≤ 1000) :
    Calls Tryd.prog 19 #[lv] w fun e w' => e = .returned (.string (bst (sp (l.map nameT)))) ∧ Ext w w' := by
  obtain ⟨la, n, rfl, hn, hnc, hc9, hat⟩ := h.open
  have HN := Lib.hid (fun i (hi : i < n) w' => LName_calls (ni l i) w' (hin _ (ni_mem (by omega))).1 (hin _ (ni_mem (by omega))).2)
  have HL := Lib.hid (fun i (hi : i < n) => nameT_len (hin _ (ni_mem (l := l) (i := i) (by omega))).1)
  have HS := Lib.hid (fun i (hi : i < n) => sp_take (l := l) (k := i) (by omega))
  have HB := Lib.hid (nms_len (fun a ha => (hin a ha).1) h9)
  have HE := Lib.hid (show sp (l.map nameT) = sp ((l.take n).map nameT) by rw [List.take_of_length_le (by omega)])
  have Hat := Lib.hid hat
  have n9 : n ≤ 1000 := by omega
  rw [HE.out]
  unfold Nm.val at HN
  clear hat hin h hn h9
  go_enter Tryd.func19, Tryd.ntmps19
  go_wp2
  go_loopg [3, 4] n (fun g sv iv wr => ∃ (k : Nat) (B : ByteArray), g + k = n ∧ iv = .int .i64 k ∧ sv = .string B ∧ B.size ≤ 44000 ∧ Hid (Ext w wr ∧ B = bst (sp ((l.take k).map nameT))))
  case atStart => exact ⟨0, bst [], by omega, rfl, rfl, by decide, Lib.hid ⟨Ext.refl _, by rw [List.take_zero]; rfl⟩⟩
  case round =>
    obtain ⟨k, B, hgk, rfl, rfl, hB9, G⟩ := hrel
    have Hgk := Lib.hid hgk
    by_cases hk : k < n
    · have f1 : (k : Int) < n := by omega
      have f2 : (0 : Int) ≤ k := by omega
      clear hgk
      obtain ⟨b, o, rfl, hA⟩ := Hat.out k hk
      obtain ⟨S1, hS1⟩ : ∃ S1, S1 = bst (nameT (ni l k)) := ⟨_, rfl⟩
      have hz : S1.size ≤ 43 := by rw [hS1, bst_size]; exact HL.out k hk
      have HC := Lib.hid (HN.out k hk)
      rw [← hS1] at HC
      have HB2 := Lib.hid (show (B ++ (bst [32] ++ S1)).size ≤ 44000 ∧ B ++ (bst [32] ++ S1) = bst (sp ((l.take (k + 1)).map nameT)) by
        have e : B ++ (bst [32] ++ S1) = bst (sp ((l.take (k + 1)).map nameT)) := by rw [HS.out k hk, G.out.2, hS1, bst_app, bst_app]
        exact ⟨by rw [e, bst_size]; exact HB.out _, e⟩)
      obtain ⟨a, ha⟩ : ∃ a, a = ni l k := ⟨_, rfl⟩
      rw [← ha] at hA HC
      obtain ⟨p0, p1⟩ := hA.ext G.out.1
      have y1 : ¬ 9223372036854775807 < 1 + S1.size := by omega
      have y2 : ¬ 9223372036854775807 < B.size + (1 + S1.size) := by omega
      clear hA hS1 ha
      go_wp2_with fail
      refine (HC.out _).mono ?_
      rintro e w2 ⟨rfl, x2⟩
      have X2 := Lib.hid (G.out.1.trans x2)
      clear x2 p0 p1
      go_wp2_with fail
      go_roundg (n - (k + 1))
      case measure => have := Hgk.out; omega
      case rel => exact ⟨k + 1, _, by omega, by go_num, rfl, HB2.out.1, Lib.hid ⟨X2.out, HB2.out.2⟩⟩
    · obtain rfl : k = n := by omega
      have f1 : ¬ (k : Int) < k := by omega
      have HR := Lib.hid G.out
      go_wp2
      go_ret
      exact ⟨by rw [← List.map_take, ← HR.out.2]; rfl, HR.out.1⟩
end Go.Proofs.YtlhkehfplcclgaaDoor
/- The text of a fabric, line by line, as the law writes it. No program in sight. -/
namespace Go.Proofs.YtlhkehfplcclgaaDoor
set_option linter.unusedVariables false
set_option linter.unusedSimpArgs false
set_option maxRecDepth 8000
open Go Go.RowKit

def P1 (a : Nm) (l : Lp) : List UInt8 := nameT a ++ (32 :: (if l.bed = 1 then backT else frontT))
def P2 (l : Lp) : List UInt8 := if l.new = true then 32 :: newT else []
def P3 (l : Lp) : List UInt8 := if l.thr = [] then [] else (32 :: throughT) ++ sp (l.thr.map nameT)
def P4 (l : Lp) : List UInt8 := if l.past = [] then [] else 32 :: pastT
def P5 (l : Lp) (k : Nat) : List UInt8 := sp ((l.past.take k).map passT)
theorem join_sp (x : List UInt8) (r : List (List UInt8)) : Lib.join (x :: r) [32] = x ++ sp r := by
  rw [Lib.join_cons]; rfl
theorem line_eq (a : Nm) (l : Lp) : lineT (descT a l) = P1 a l ++ P2 l ++ P3 l ++ P4 l ++ P5 l l.past.length ++ [10] := by
  have e : descT a l = nameT a :: ((if l.bed = 1 then backT else frontT) :: ((if l.new = true then [newT] else []) ++ ((if l.thr = [] then [] else throughT :: l.thr.map nameT) ++ ((if l.past = [] then [] else [pastT]) ++ l.past.map passT)))) := by
    unfold descT d4T d3T d2T d1T; simp
  rw [e]
  unfold lineT
  rw [join_sp, sp_cons, sp_app, sp_app, sp_app]
  unfold P1 P2 P3 P4 P5
  rw [List.take_length]
  have h1 : sp (if l.new = true then [newT] else []) = if l.new = true then 32 :: newT else [] := by split <;> simp [sp]
  have h2 : sp (if l.thr = [] then [] else throughT :: l.thr.map nameT) = if l.thr = [] then [] else (32 :: throughT) ++ sp (l.thr.map nameT) := by split <;> simp [sp]
  have h3 : sp (if l.past = [] then [] else [pastT]) = if l.past = [] then [] else 32 :: pastT := by split <;> simp [sp]
  rw [h1, h2, h3]
  simp [List.append_assoc]
theorem P5_succ {l : Lp} {k : Nat} (h : k < l.past.length) : P5 l (k + 1) = P5 l k ++ ([32] ++ passT (qi l.past k)) := by
  unfold P5
  rw [List.take_succ_eq_append_getElem h, List.map_append, sp_app, qi_of h]; simp [sp]
theorem passT_len {p : Ps} (h : p.In) : (passT p).length ≤ 45 := by
  have := nameT_len h.1
  unfold passT
  rw [List.length_append, List.length_append]
  have h1 : (if p.d = 1 then ([62] : List UInt8) else [60]).length = 1 := by split <;> rfl
  have h2 : (if p.f = true then ([43] : List UInt8) else []).length ≤ 1 := by split <;> simp
  omega
theorem P5_len {l : Lp} (h : l.In) (k : Nat) (hk : k ≤ 1000) : (P5 l k).length ≤ 46000 := by
  have h1 := sp_len (k := 45) (l := (l.past.take k).map passT) fun x hx => by
    obtain ⟨p, hp, rfl⟩ := List.mem_map.1 hx
    exact passT_len (h.2.2 p (List.mem_of_mem_take hp))
  rw [List.length_map, List.length_take] at h1
  have h2 : min k l.past.length ≤ 1000 := by omega
  have h3 := Nat.mul_le_mul_right 46 h2
  unfold P5; omega
theorem crW_eq (c : Xg) : lineT (crW c) = crossW ++ sp [nameT c.a, nameT c.b] ++ [32] ++ Lib.itoa c.n ++ [10] := by
  unfold lineT crW
  rw [join_sp]; simp [sp]
theorem nms_eq (w : List UInt8) (l : List Nm) : lineT (w :: l.map nameT) = w ++ sp (l.map nameT) ++ [10] := by
  unfold lineT; rw [join_sp]
/-- The bounds of what the law's text is made of. -/
structure TBd6 (f : Fab) : Prop where
  inn : FIn f
  l6 : f.ys.length = 6
  nn : (∀ a ∈ f.held, 0 ≤ a.n) ∧ (∀ a ∈ f.fallen, 0 ≤ a.n) ∧ ∀ c ∈ f.cr, 0 ≤ c.a.n ∧ 0 ≤ c.b.n
  cn : ∀ c ∈ f.cr, -1000 ≤ c.n ∧ c.n ≤ 1000
  ln : ∀ r ∈ f.ys, ∀ l ∈ r, (l.bed = 0 ∨ l.bed = 1) ∧ (∀ a ∈ l.thr, 0 ≤ a.n) ∧ ∀ p ∈ l.past, 0 ≤ p.id.n ∧ (p.d = 0 ∨ p.d = 1)
theorem yid_in {y n : Nat} (hy : y < 6) (hn : n < 1000) : (⟨(y : Int) + 1, (n : Nat)⟩ : Nm).In := ⟨⟨by dsimp only; omega, by dsimp only; omega⟩, by dsimp only; omega, by dsimp only; omega⟩
theorem rowP_len {f : Fab} (h : TBd6 f) {y : Nat} (hy : y < 6) : ∀ n, n ≤ (yi f.ys y).length → (rowP y (yi f.ys y) n).length ≤ n * 100000
  | 0, _ => by simp [rowP]
  | n + 1, hn => by
    have ih := rowP_len h hy n (by omega)
    have hm := yi_mem (l := f.ys) (i := y) (by rw [h.l6]; exact hy)
    have h5 := h.inn.n5 _ hm
    have h6 := h.inn.n6 _ hm _ (li_mem (l := yi f.ys y) (i := n) (by omega))
    have h7 := (desc_le (a := ⟨(y : Int) + 1, (n : Nat)⟩) (l := li (yi f.ys y) n) (yid_in hy (by omega)) (h.inn.ys _ hm _ (li_mem (by omega))) h6.1 h6.2).2.2
    rw [rowP_succ, List.length_append, Nat.succ_mul]; omega
theorem tabP_len {f : Fab} (h : TBd6 f) : ∀ y, y ≤ 6 → (tabP f.ys y).length ≤ y * 100000000
  | 0, _ => by simp [tabP]
  | y + 1, hy => by
    have ih := tabP_len h y (by omega)
    have h1 := rowP_len h (y := y) (by omega) _ (Nat.le_refl _)
    have h5 := h.inn.n5 _ (yi_mem (l := f.ys) (i := y) (by rw [h.l6]; omega))
    have h3 := Nat.mul_le_mul_right 100000 h5
    rw [tabP_succ, List.length_append, Nat.succ_mul]
    unfold rowT; omega
theorem crP_len {f : Fab} (h : TBd6 f) : ∀ k, k ≤ f.cr.length → (crP f.cr k).length ≤ k * 100000
  | 0, _ => by simp [crP]
  | k + 1, hk => by
    have ih := crP_len h k (by omega)
    have h1 := cr_le (h.inn.cr _ (xi_mem (l := f.cr) (i := k) (by omega)))
    rw [crP_succ (by omega), List.length_append, Nat.succ_mul]; omega
theorem FOk.bd6 {x : FD} (h : FOk x) (hx : x.cross.length ≤ 1000) : TBd6 (ofF x) := by
  have hin := h.fin hx
  have hn : ∀ a, hasB (ofT x.t).t a = true → 0 ≤ a.n := fun a ha => by
    obtain ⟨y, n, rfl, _, _⟩ := hasB_iff ha
    dsimp only; omega
  have hm : ∀ a, a ∈ (ofT x.t).made → 0 ≤ a.n := fun a ha => hn a ((h.inv.cov a).2 ha)
  refine ⟨hin, h.inv.l6, ⟨fun a ha => hm a (h.hm a (List.mem_append_left _ ha)), fun a ha => hm a (h.hm a (List.mem_append_right _ ha)), fun c hc => ⟨hn _ (h.cr.m c hc).1, hn _ (h.cr.m c hc).2.1⟩⟩, fun c hc => by have := h.cr.n c hc; omega, fun r hr l hl => ?_⟩
  have h1 := (h.inv.ri r hr l hl).1
  obtain ⟨d, hd, hd2⟩ := h1.one
  exact ⟨h1.bed, fun a ha => hn a (h1.i1 a ha).2, fun p hp => ⟨hn _ (h1.i2 p hp).2, by rw [hd2 p hp]; exact hd⟩⟩
theorem itoa_neg' {n : Int} (h : n < 0) : Lib.itoa n = 45 :: Lib.itoa (-n) := by
  unfold Lib.itoa
  rw [if_pos h, if_neg (by omega)]
  congr 2; omega
theorem nmsT_eq (w : List UInt8) (l : List Nm) : nmsT w l = if l = [] then [] else w ++ sp (l.map nameT) ++ [10] := by
  unfold nmsT; split
  · rfl
  · exact nms_eq w l
theorem nmsT_len {w : List UInt8} {l : List Nm} (hw : w.length ≤ 43) (hin : ∀ a ∈ l, a.In) (h9 : l.length ≤ 1000) : (nmsT w l).length ≤ 100000 := by
  unfold nmsT; split
  · simp
  · exact names_le hw hin h9
end Go.Proofs.YtlhkehfplcclgaaDoor
/- The law FabricsUndone: the walk. -/
namespace Go.Proofs.YtlhkehfplcclgaaDoor
set_option linter.unusedVariables false
set_option linter.unusedSimpArgs false
set_option maxRecDepth 8000
open Go Go.RowKit

/-- What Of returns: a fabric and its loops. -/
theorem RetFD.open {w w' : World} {x : FD} {en : Ending} (h : RetFD w x en w') : ∃ g0 ca cn cc ha hn hc fa fn fc ma mn mc, en = .returned (.tuple #[.agg #[.slice (some ⟨g0, 0, none⟩) 6 6, .slice ca cn cc, .slice ha hn hc, .slice fa fn fc], .slice ma mn mc]) ∧
    (cn = (ofF x).cr.length ∧ hn = (ofF x).held.length ∧ fn = (ofF x).fallen.length ∧ mn = (ofT x.t).made.length) ∧ FB w' (.slice (some ⟨g0, 0, none⟩) 6 6) (.slice ca cn cc) (.slice ha hn hc) (.slice fa fn fc) (ofF x) ∧ NL w' (.slice ma mn mc) mc (ofT x.t).made ∧ Ext w w' := by
  obtain ⟨g0, F, us, vs, lv, mv, w1, cv, hv, fv, rfl, _, hO, hA, _, hx, hF⟩ := h
  have hfb := OF.fb hO hA hF
  obtain ⟨mc, hm⟩ := (hO.agr hA).nl
  obtain ⟨ma, mn, rfl, h4, _⟩ := hm.open
  obtain ⟨ca, cc, rfl, _⟩ := own_slice hF.c
  obtain ⟨ha, hc, rfl, _⟩ := own_slice hF.h
  obtain ⟨fa, fc, rfl, _⟩ := own_slice hF.f
  exact ⟨g0, ca, _, cc, ha, _, hc, fa, _, fc, ma, mn, mc, rfl, ⟨rfl, rfl, rfl, h4⟩, hfb, hm, hx⟩
theorem FDm.ext {w w' : World} {tv : Value} {fal : Int} {hv cv : Value} {x : FD} (h : FDm w tv fal hv cv x) (e : Ext w w') : FDm w' tv fal hv cv x := by
  obtain ⟨⟨c1, h1⟩, h2, ⟨c3, h3⟩, ⟨c4, h4⟩, h5, h6, h7, h8⟩ := h
  exact ⟨⟨c1, h1.ext e⟩, h2, ⟨c3, h3.ext e⟩, ⟨c4, h4.ext e⟩, h5, h6, h7, h8⟩
/-- Twice as many pairs. -/
theorem srt_bd2 {l : List Xg} {m : List Nm} (h : List.Pairwise ltX l) (hm : ∀ c ∈ l, c.a ∈ m ∧ c.b ∈ m) (ho : ∀ c ∈ l, cmpN c.a c.b < 0) : 2 * l.length ≤ m.length * m.length := by
  have h1 : (l.map fun c => (c.a, c.b)).Nodup := by
    unfold List.Nodup
    rw [List.pairwise_map]
    refine h.imp fun {a b} hab e => ?_
    have e := Prod.mk.inj e
    unfold ltX at hab
    rw [e.1, e.2] at hab
    rcases hab with k | ⟨_, k⟩ <;> exact ltN_irr k
  have h2 : (l.map fun c => (c.b, c.a)).Nodup := by
    unfold List.Nodup
    rw [List.pairwise_map]
    refine h.imp fun {a b} hab e => ?_
    have e := Prod.mk.inj e
    unfold ltX at hab
    rw [e.1, e.2] at hab
    rcases hab with k | ⟨_, k⟩ <;> exact ltN_irr k
  have h3 : ((l.map fun c => (c.a, c.b)) ++ l.map fun c => (c.b, c.a)).Nodup := List.nodup_append.2 ⟨h1, h2, fun p hp q hq e => by
    obtain ⟨c, hc, rfl⟩ := List.mem_map.1 hp
    obtain ⟨d, hd, rfl⟩ := List.mem_map.1 hq
    have e := Prod.mk.inj e
    have k1 := cmpN_lt.1 (ho c hc)
    have k2 := cmpN_lt.1 (ho d hd)
    rw [e.1, e.2] at k1
    exact ltN_irr (ltN_trans k1 k2)⟩
  have h4 := nodup_len (m := (m.map fun a => m.map fun b => (a, b)).flatten) h3 fun p hp => by
    rcases List.mem_append.1 hp with hp | hp
    · obtain ⟨c, hc, rfl⟩ := List.mem_map.1 hp
      have := hm c hc
      exact List.mem_flatten.2 ⟨_, List.mem_map.2 ⟨c.a, this.1, rfl⟩, List.mem_map.2 ⟨c.b, this.2, rfl⟩⟩
    · obtain ⟨c, hc, rfl⟩ := List.mem_map.1 hp
      have := hm c hc
      exact List.mem_flatten.2 ⟨_, List.mem_map.2 ⟨c.b, this.2, rfl⟩, List.mem_map.2 ⟨c.a, this.1, rfl⟩⟩
  rw [List.length_append, List.length_map, List.length_map] at h4
  have : ∀ k : List Nm, ((k.map fun a => m.map fun b => (a, b)).flatten).length = k.length * m.length := fun k => by
    induction k with
    | nil => simp
    | cons a k ih => simp only [List.map_cons, List.flatten_cons, List.length_append, List.length_map, ih, List.length_cons]; rw [Nat.succ_mul]; omega
  have := this m
  omega
theorem FOk.fin40 {x : FD} (h : FOk x) (h40 : (ofT x.t).made.length ≤ 40) (hx : x.cross.length ≤ 9223372036854775807) : FIn (ofF x) := by
  have hin : ∀ a, a ∈ (ofT x.t).made → a.In := fun a ha => nm_in h.inv.l6 (by rw [h.inv.cnt]; have := h.m60; omega) ((h.inv.cov a).2 ha)
  have hb : ∀ a, hasB (ofT x.t).t a = true → a.In := fun a ha => hin a ((h.inv.cov a).1 ha)
  have hl := h.len
  have hbd := srt_bd2 (m := (ofT x.t).made) h.cr.s (fun c hc => ⟨(h.inv.cov _).1 (h.cr.m c hc).1, (h.inv.cov _).1 (h.cr.m c hc).2.1⟩) fun c hc => (h.cr.m c hc).2.2
  have hq : (ofT x.t).made.length * (ofT x.t).made.length ≤ 40 * 40 := Nat.mul_le_mul h40 h40
  refine ⟨fun a ha => hin a (h.hm a (List.mem_append_left _ ha)), fun a ha => hin a (h.hm a (List.mem_append_right _ ha)), fun c hc => ?_, fun r hr l hl => ?_, by omega, by omega, by omega, ?_, fun r hr => ?_, fun r hr l hl => ?_⟩
  · have h1 := h.cr.m c hc
    have h2 := h.cr.n c hc
    exact ⟨hb _ h1.1, hb _ h1.2.1, by omega, by omega⟩
  · have h1 := (h.inv.ri r hr l hl).1
    exact ⟨by rcases h1.bed with e | e <;> rw [e] <;> decide, fun a ha => (h1.i1 a ha).1, fun p hp => (h1.i2 p hp).1⟩
  · rw [show (ofF x).ys.length = 6 from h.inv.l6]; decide
  · exact h.ok.r.n5 r hr
  · have h1 := h.inv.ri r hr l hl
    have h2 := h1.1.n1
    omega
set_option maxHeartbeats 16000000 in
theorem FabricsUndone_walk (tv hv cv : Value) (fal : Int) (x : FD) (w : World) (ht : PTab w) (h : FDm w tv fal hv cv x) :
    Calls Tryd.prog 5 #[.agg #[tv, .int .u64 fal, hv, cv]] w fun e w' => e = .returned (.bool true) ∧ Ext w w' := by
  have HM := Lib.hid h
  obtain ⟨⟨tc, hT⟩, hfal, ⟨hc, hH⟩, ⟨cc, hC⟩, _⟩ := h
  obtain ⟨ta, tn, rfl, htn, -⟩ := hT.open
  obtain ⟨ha, hn, rfl, -⟩ := hH.atD
  obtain ⟨ca, cn, rfl, hcn, hcc, hc9, -⟩ := hC.open
  obtain ⟨W0, hW0⟩ : ∃ W0, W0 = w.alloc (.cells #[.slice ta tn tc, .int .u64 fal, .slice ha hn hc, .slice ca cn cc] 28) := ⟨_, rfl⟩
  have xW : Ext w W0 := by rw [hW0]; exact (Ext.refl _).alloc _
  have HW0 := Lib.hid hW0; have XW := Lib.hid xW
  have HB := Lib.hid (show B4 W0 w.heap.size (.slice ta tn tc) (.int .u64 fal) (.slice ha hn hc) (.slice ca cn cc) 28 by rw [hW0]; exact B4.new _ _ _ _ _ _)
  have HT := Lib.hid ht; have Htn := Lib.hid htn; have Hcn := Lib.hid (show x.cross.length ≤ 9223372036854775807 by omega)
  obtain ⟨q0, q1, q2, q3⟩ := B4.cells HB.out
  rw [hW0] at q0 q1 q2 q3
  clear hT hfal hH hC htn hcn hcc hc9 hW0 xW ht
  go_enter Tryd.func5, Tryd.ntmps5
  by_cases h40 : 40 < tn
  · have f1 : (40 : Int) < tn := by omega
    go_wp2_with fail
    rw [← HW0.out]
    clear q0 q1 q2 q3
    refine (Lives_calls W0 (HT.out.ext XW.out)).mono ?_
    rintro e w2 ⟨rfl, x2⟩
    have X2 := Lib.hid (XW.out.trans x2)
    clear x2
    go_wp2
    go_ret
    exact ⟨rfl, X2.out⟩
  · have f1 : ¬ (40 : Int) < tn := by omega
    go_wp2_with fail
    rw [← HW0.out]
    clear q0 q1 q2 q3
    refine (OfF_calls _ _ _ fal x W0 (HM.out.ext XW.out)).mono ?_
    rintro e w2 hR
    obtain ⟨g0, ka, kn, kc, la, ln, lc, fa, fn, fc, ma, mn, mc, rfl, ⟨hkn, hln, hfn, hmn⟩, hFB, hNL, hx⟩ := hR.open
    have hok := fok x
    have hm40 : (ofT x.t).made.length ≤ 40 := by rw [(ofT_inv x.t).2, List.length_take]; have := Htn.out; omega
    have hfin := hok.fin40 hm40 Hcn.out
    obtain ⟨f, hf⟩ : ∃ f, f = ofF x := ⟨_, rfl⟩
    rw [← hf] at hkn hln hfn hFB hfin
    obtain ⟨W2, hW2⟩ : ∃ W2, W2 = w2.alloc (.cells #[.slice (some ⟨g0, 0, none⟩) 6 6, .slice ka kn kc, .slice la ln lc, .slice fa fn fc] 35) := ⟨_, rfl⟩
    have X2 := Lib.hid (show Ext w W2 by rw [hW2]; exact (XW.out.trans hx).alloc _)
    have hFB2 : FB W2 (.slice (some ⟨g0, 0, none⟩) 6 6) (.slice ka kn kc) (.slice la ln lc) (.slice fa fn fc) f := by rw [hW2]; exact hFB.ext ((Ext.refl _).alloc _)
    obtain ⟨gb, hgb⟩ : ∃ gb, gb = w2.heap.size := ⟨_, rfl⟩
    have HB2 := Lib.hid (show B4 W2 gb (.slice (some ⟨g0, 0, none⟩) 6 6) (.slice ka kn kc) (.slice la ln lc) (.slice fa fn fc) 35 by rw [hW2, hgb]; exact B4.new _ _ _ _ _ _)
    have HFB := Lib.hid hFB2; have HW2 := Lib.hid hW2; have HFI := Lib.hid hfin; have Hgb := Lib.hid hgb
    have n40 : fn ≤ 1000 := by have := hfin.n2; omega
    obtain ⟨c1, hT2⟩ := hFB2.t
    obtain ⟨c2, hF2⟩ := hFB2.f
    have HT2 := Lib.hid hT2
    obtain ⟨fa', fn', e, hfn', -, -, hFat⟩ := hF2.open
    cases e
    have HFat := Lib.hid hFat; have Hfn := Lib.hid hfn
    have HHas := Lib.hid (show ∀ i, i < fn → hasB f.ys (ni f.fallen i) = true from fun i hi => by rw [hf]; exact (hok.inv.cov _).2 (hok.hm _ (List.mem_append_right _ (by rw [← hf]; exact ni_mem (by omega)))))
    have H6 := Lib.hid (show f.ys.length = 6 by rw [hf]; exact hok.inv.l6)
    obtain ⟨U, hU⟩ : ∃ U : Nat → List Nm, U = fun k => und f.ys (f.fallen.take k) := ⟨_, rfl⟩
    have HU0 := Lib.hid (show U 0 = [] by rw [hU]; rfl)
    have HUy := Lib.hid (show ∀ k, k < fn → fastB f.ys (ni f.fallen k) = false → U (k + 1) = U k ++ [ni f.fallen k] from fun k hk hh => by rw [hU]; exact und_yes (by omega) hh)
    have HUn := Lib.hid (show ∀ k, k < fn → fastB f.ys (ni f.fallen k) = true → U (k + 1) = U k from fun k hk hh => by rw [hU]; exact und_no (by omega) hh)
    have HUE := Lib.hid (show und f.ys f.fallen = U fn by rw [hU, hfn]; dsimp only; rw [List.take_length])
    have HUl := Lib.hid (show ∀ k, (U k).length ≤ 1000 from fun k => by
      rw [hU]
      have h1 := und_len f.ys (f.fallen.take k)
      have h2 : (f.fallen.take k).length ≤ f.fallen.length := by simp; omega
      dsimp only
      omega)
    clear hR hkn hln hfn hmn hFB hNL hx hok hm40 hfin hf hW2 hFB2 hgb hT2 hF2 hfn' hFat hU h40 f1
    go_upto_region 5 with fail
    rw [← HW2.out, ← Hgb.out]
    obtain ⟨q0, q1, q2, q3⟩ := B4.cells HB2.out
    go_wp2_with fail
    clear q0 q1 q2 q3
    go_loopg [5, 6, 7, 8] fn (fun g wv iv _ _ wr => ∃ k : Nat, g + k = fn ∧ iv = .int .i64 k ∧ Hid (Ext W2 wr ∧ wr.ownsRow W2.heap.size 41 2 wv (U k).length ((U k).map Nm.cs).flatten))
    case atStart => exact ⟨0, by omega, rfl, Lib.hid ⟨Ext.refl _, by rw [HU0.out]; exact own_none _ _ _ _⟩⟩
    case round =>
      obtain ⟨k, hgk, rfl, G⟩ := hrel
      have Hgk := Lib.hid hgk
      obtain ⟨ar, cr, hr, -⟩ := own_slice G.out.2
      obtain ⟨L, hL⟩ : ∃ L, L = (U k).length := ⟨_, rfl⟩
      have hL9 := HUl.out k
      rw [← hL] at hr hL9
      subst hr
      have HL := Lib.hid hL
      clear hL
      obtain ⟨q0, q1, q2, q3⟩ := B4.cells (HB2.out.ext G.out.1)
      by_cases hlt : k < fn
      · have e1 : (k : Int) < fn := by omega
        have e2 : (0 : Int) ≤ k := by omega
        clear hgk
        obtain ⟨b', o', rfl, hA⟩ := HFat.out k hlt
        obtain ⟨A, hAd⟩ : ∃ A, A = ni f.fallen k := ⟨_, rfl⟩
        have hhas := HHas.out k hlt
        have huy := HUy.out k hlt; have hun := HUn.out k hlt
        rw [← hAd] at hA hhas huy hun
        obtain ⟨y, m, rfl, hy6, hmm⟩ := hasB_iff hhas
        rw [H6.out] at hy6
        obtain ⟨ta0, tn0, e, htn, -, -, htt⟩ := HT2.out.open
        cases e
        obtain ⟨b2, o2, ra, rm, rd, e2', hcell, hrm, hLR⟩ := htt y hy6
        cases e2'
        obtain ⟨ra', rn', e3, hrn, hrd, hrd9, hrat⟩ := hLR.open
        cases e3
        obtain ⟨rb, ro, a1, n1, d1, a2, n2, d2, rfl, hAL, hn1, hn2, hNL, hPL⟩ := hrat m (by omega)
        have Hbig := Lib.hid (And.intro hA (And.intro hcell hAL))
        have hE : fastB f.ys ⟨(y : Int) + 1, (m : Nat)⟩ = (decide (m + 1 = rm) && decide (0 < n1)) := by
          unfold fastB
          rw [hhas]
          dsimp only
          rw [show ((y : Int) + 1 - 1).toNat = y by omega, show ((m : Nat) : Int).toNat = m by omega, ← hn1, ← hrm, Bool.true_and]
          congr 1
          rw [Bool.eq_iff_iff]; simp only [decide_eq_true_eq]; omega
        obtain ⟨p0, p1⟩ := hA.ext G.out.1
        have HE := Lib.hid hE; have Huy := Lib.hid huy; have Hun := Lib.hid hun
        have hmrm : m < rm := by omega
        clear hA hcell hAL hNL hPL hn1 hn2 hrm hrn hrat htt hLR htn hhas hmm huy hun hE hAd
        dsimp only at p0 p1
        go_upto_region 9 with fail
        obtain ⟨WB, hWB⟩ : ∃ WB, WB = wr.alloc (.cells #[.int .u8 ((y : Int) + 1), .int .i64 (m : Int)] 41) := ⟨_, rfl⟩
        obtain ⟨gi', hgi⟩ : ∃ gi', gi' = wr.heap.size := ⟨_, rfl⟩
        rw [← hWB, ← hgi]
        have XB := Lib.hid (show Ext W2 WB by rw [hWB]; exact G.out.1.trans ((Ext.refl _).alloc _))
        have HI := Lib.hid (show BN WB gi' ⟨(y : Int) + 1, (m : Nat)⟩ by rw [hWB, hgi]; exact BN.new wr ⟨(y : Int) + 1, (m : Nat)⟩)
        have HO := Lib.hid (show WB.ownsRow W2.heap.size 41 2 (.slice ar L cr) L ((U k).map Nm.cs).flatten by rw [hWB]; have h1 := G.out.2; rw [← HL.out] at h1; exact own_extk h1 ((Ext.refl _).alloc _))
        clear p0 p1 q0 q1 q2 q3 hWB hgi
        obtain ⟨q0, q1, q2, q3⟩ := B4.cells (HB2.out.ext XB.out)
        obtain ⟨i0, i1⟩ := HI.out.at
        simp only [Nat.zero_add] at i1
        have p2 := XB.out.cell Hbig.out.2.1
        rw [Nat.zero_add] at p2
        obtain ⟨p3, p4, p5, p6⟩ := Hbig.out.2.2.ext XB.out
        have f1 : IntKind.u8.wrap ((y : Int) + 1 - 1) = y := by rw [show (y : Int) + 1 - 1 = y by omega]; exact IntWalk.u8_in _ ⟨by omega, by omega⟩
        have f2 : (y : Int) < 6 := by omega
        have f3 : (0 : Int) ≤ y := by omega
        have f4 : (m : Int) < rm := by omega
        have f5 : (0 : Int) ≤ m := by omega
        have f6 : IntKind.i64.wrap ((rm : Int) - 1) = (rm : Int) - 1 := IntWalk.i64_in _ ⟨by omega, by omega⟩
        go_upto_region 10 with fail
        clear q0 q1 q2 q3 p2 p3 p4 p6 f1 f2 f3
        obtain ⟨FB', hFB'⟩ : ∃ FB', FB' = !fastB f.ys ⟨(y : Int) + 1, (m : Nat)⟩ := ⟨_, rfl⟩
        have HFb := Lib.hid hFB'
        clear hFB'
        go_cut [55] from 21 to 59 (fun c wx => c = .bool FB' ∧ WB = wx)
        case first =>
          by_cases hlast : m + 1 = rm
          · have g1 : ¬ (m : Int) < (rm : Int) - 1 := by omega
            have g2 : decide ((m : Int) < (rm : Int) - 1) = false := decide_eq_false g1
            have hF2 : FB' = ((n1 : Int) == 0) := by
              rw [HFb.out, HE.out, decide_eq_true hlast, Bool.true_and, Bool.eq_iff_iff]; simp
            go_wp2_with fail
            go_meet
            case rel => exact ⟨by rw [hF2], rfl⟩
          · have g1 : (m : Int) < (rm : Int) - 1 := by omega
            have g2 : decide ((m : Int) < (rm : Int) - 1) = true := decide_eq_true g1
            have hF2 : FB' = true := by
              rw [HFb.out, HE.out, decide_eq_false hlast]; rfl
            subst hF2
            go_wp2_with fail
            go_meet
            case rel => exact ⟨rfl, rfl⟩
        case rest =>
          obtain ⟨rfl, rfl⟩ := hcut
          cases FB' with
          | true =>
            have hu := Huy.out (by have := HFb.out; simpa using this.symm)
            have Hu := Lib.hid hu
            have Hsz := Lib.hid (XB.out.size)
            clear hu
            go_wp2_with (at_builtin; refine app_at ekN rfl _ _ rfl W2.heap.size _ L ((U k).map Nm.cs) rfl (own_extk HO.out ((Ext.refl _).alloc _)) _ 1 [Nm.cs ⟨(y : Int) + 1, (m : Nat)⟩] rfl (CK.of_blk (Deep.blk_alloc_new _ _) (Ks.nm [⟨(y : Int) + 1, (m : Nat)⟩]) rfl (Nat.le_refl _) (by omega) rfl) (Ks.nm [⟨(y : Int) + 1, (m : Nat)⟩]) ?g1 ?g2 ?g3 ?_)
            case g1 => first | omega | (simp; omega)
            case g2 => first | omega | (simp; omega)
            case g3 => have h1 := Hsz.out; simp; omega
            intro v8 w8 hown hgr hat
            have hl : L + 1 = (U (k + 1)).length := by rw [Hu.out, List.length_append, HL.out]; rfl
            have HN := Lib.hid (show Ext W2 w8 ∧ w8.ownsRow W2.heap.size 41 2 v8 (U (k + 1)).length ((U (k + 1)).map Nm.cs).flatten from ⟨Ext.grown (XB.out.trans ((Ext.refl _).alloc _)) hgr fun g hg => (HO.out.lt g hg).1, by rw [← hl, Hu.out]; simpa using hown⟩)
            clear hown hgr hat hl
            go_wp2_with fail
            go_roundg (fn - (k + 1))
            case measure => have := Hgk.out; omega
            case rel => exact ⟨k + 1, by have := Hgk.out; omega, by go_num, HN⟩
          | false =>
            have hu := Hun.out (by have := HFb.out; simpa using this.symm)
            have HN := Lib.hid (show Ext W2 WB ∧ WB.ownsRow W2.heap.size 41 2 (.slice ar L cr) (U (k + 1)).length ((U (k + 1)).map Nm.cs).flatten from ⟨XB.out, by rw [hu, ← HL.out]; exact HO.out⟩)
            clear hu
            go_wp2_with fail
            go_roundg (fn - (k + 1))
            case measure => have := Hgk.out; omega
            case rel => exact ⟨k + 1, by have := Hgk.out; omega, by go_num, HN⟩
      · have e1 : ¬ (k : Int) < fn := by omega
        have hk : k = fn := by omega
        have hO := G.out.2
        rw [hk, ← HUE.out] at hO
        rw [hk, ← HUE.out] at HL
        have HO := Lib.hid hO
        have HUd := Lib.hid (Undone_calls (.slice (some ⟨g0, 0, none⟩) 6 6) (.slice ka kn kc) (.slice la ln lc) (.slice fa fn fc) f wr (HFB.out.ext G.out.1) HFI.out)
        clear hk hO hgk hlt
        go_wp2_with fail
        clear q0 q1 q2 q3
        refine HUd.out.mono ?_
        rintro e w6 ⟨gu, nu, hnu, rfl, hgu, hbu, hx⟩
        rw [List.length_map, ← HL.out] at hnu
        subst hnu
        have X6 := Lib.hid hx
        have hO6 := own_extk HO.out hx
        rw [← HL.out] at hO6
        have HOw := Lib.hid hO6
        have hUK : CK 2 w6 (.slice (some ⟨gu, 0, none⟩) nu nu) nu ((und f.ys f.fallen).map Nm.cs) := blk_ck (by rw [List.length_map]; exact HL.out) (Ks.nm _) hbu (by omega)
        obtain ⟨ua, un, e, hun, -, -, hUat⟩ := NL.open hUK
        cases e
        have HUat := Lib.hid hUat
        have HWX := Lib.hid (show Ext w w6 from X2.out.trans (G.out.1.trans hx))
        clear hbu hx hO6 hUK hun hUat hgu
        have t1 : ((nu : Int) != nu) = false := by simp
        go_wp2_with fail
        go_loopg [10] nu (fun g iv wr => ∃ i : Nat, g + i = nu ∧ iv = .int .i64 i ∧ Hid (Ext w6 wr))
        case atStart => exact ⟨0, by omega, rfl, Lib.hid (Ext.refl _)⟩
        case round =>
          obtain ⟨i, hgi, rfl, G2⟩ := hrel
          have Hgi := Lib.hid hgi
          by_cases hlt : i < nu
          · have e3 : (i : Int) < nu := by omega
            have e4 : (0 : Int) ≤ i := by omega
            clear hgi
            obtain ⟨b1, o1, e, hA⟩ := HUat.out i hlt
            cases e
            obtain ⟨b2, o2, rfl, hB⟩ := own_at2 HOw.out HL.out hlt
            obtain ⟨A, hAd⟩ : ∃ A, A = ni (und f.ys f.fallen) i := ⟨_, rfl⟩
            rw [← hAd] at hA hB
            obtain ⟨p0, p1⟩ := hA.ext G2.out
            obtain ⟨p2, p3⟩ := hB.ext G2.out
            rw [Nat.zero_add] at p0 p1
            clear hA hB hAd
            go_wp2_with fail
            go_quiet (fail)
            go_wp2_with fail
            go_roundg (nu - (i + 1))
            case measure => have := Hgi.out; omega
            case rel => exact ⟨i + 1, by have := Hgi.out; omega, by go_num, Lib.hid (G2.out.trans (by (focus (repeat (first | (with_reducible exact Ext.refl _) | (with_reducible apply Ext.drew) | (with_reducible apply Ext.drewN) | (with_reducible apply Ext.alloc))))))⟩
          · have e3 : ¬ (i : Int) < nu := by omega
            have XA := Lib.hid (HWX.out.trans G2.out)
            clear hgi
            go_wp2_with fail
            refine (Lives_calls wr (HT.out.ext XA.out)).mono ?_
            rintro e w7 ⟨rfl, x7⟩
            have X7 := Lib.hid (XA.out.trans x7)
            clear x7
            go_wp2
            go_ret
            exact ⟨rfl, X7.out⟩
end Go.Proofs.YtlhkehfplcclgaaDoor
