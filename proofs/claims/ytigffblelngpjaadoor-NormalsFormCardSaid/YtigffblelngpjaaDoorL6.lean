/- Texts of this claim in one file: libraries and walks. -/
import Derived.Deep.RegionHeld3
import Derived.Test.YtigffblelngpjaaDoorL0
import Derived.Test.YtigffblelngpjaaDoorL4
import Derived.Test.YtigffblelngpjaaDoorL5
/- Contract of the law's Other. -/
namespace Go.Proofs.YtigffblelngpjaaDoor
set_option linter.unusedVariables false
set_option linter.unusedSimpArgs false
set_option maxRecDepth 8000
open Go Go.RowKit

/-- The word behind all changes. -/
def oth (n : Int) (w : List Int) (ms : List (Int × Int)) : List Int := if n ≤ 1 then w else mvs n w (ms.take 24)
theorem mvs_zero (n : Int) (w : List Int) : mvs n w [] = w := rfl
theorem val_bd {n : Int} {w : List Int} (h1 : 1 ≤ n) (h8 : n ≤ 8) (h : Val n w) : ∀ i, i < w.length → -100 ≤ gi w i ∧ gi w i ≤ 100 := fun i hi => by
  have := h.at i hi
  unfold wbad at this
  simp only [Bool.or_eq_false_iff, beq_eq_false_iff_ne, decide_eq_false_iff_not] at this
  omega
theorem mv_ins {n : Int} {w : List Int} {x y : Int} {i : Nat} (h : y % 4 = 0) (hl : w.length < 20) (hi : x % (w.length + 1) = i) : mv n w x y = w.take i ++ [1 + y / 4 % (n - 1), -(1 + y / 4 % (n - 1))] ++ w.drop i := by
  unfold mv; rw [if_pos ⟨h, hl⟩, hi]; rfl
theorem mv_red {n : Int} {w : List Int} {x y : Int} (h : y % 4 = 1) : mv n w x y = red w := by
  unfold mv; rw [if_neg (by omega), if_pos h]
theorem mv_exch {n : Int} {w : List Int} {x y : Int} {i : Nat} (h : ¬ (y % 4 = 0 ∧ w.length < 20)) (h1 : ¬ y % 4 = 1) (hi : x % (w.length + 1) = i) : mv n w x y = exch w i := by
  unfold mv; rw [if_neg h, if_neg h1, hi]; rfl

set_option maxHeartbeats 4000000 in
theorem Other_calls (n : Int) (va vb : Value) (ca cb : Nat) (xs : List Int) (ms : List (Int × Int)) (w : World) (h : IS .u8 w va ca xs) (hp : PS w vb cb ms) (hb : ∀ i, i < xs.length → 0 ≤ gi xs i ∧ gi xs i ≤ 255)
    (hm : ∀ i, i < ms.length → 0 ≤ (pi ms i).1 ∧ (pi ms i).1 ≤ 255 ∧ 0 ≤ (pi ms i).2 ∧ (pi ms i).2 ≤ 255) (hn : 1 ≤ n ∧ n ≤ 8) (hl12 : (wordOf n xs).length ≤ 24) :
    Calls Tryd.prog 11 #[.agg #[va, vb], .int .i64 n] w (RetX .i64 w (oth n (wordOf n xs) ms)) := by
  obtain ⟨a1, n1, c1, rfl, hn1, rfl, h1⟩ := h.out
  obtain ⟨a2, N, rfl, hN, hNc, hcm, hcell⟩ := hp.open
  obtain ⟨W, hW⟩ : ∃ W, W = wordOf n xs := ⟨_, rfl⟩
  have hmem := wordOf_mem (n := n) (by omega) hb
  rw [← hW] at hl12 hmem ⊢
  have hv : Val n W := fun x hx => (hmem x hx).1
  obtain ⟨n1', n8⟩ := hn
  have hOf := fun w' (x : Ext w w') => WOf_calls n (.slice a1 n1 c1) c1 xs w' (h1.ext x) hb ⟨n1', n8⟩
  rw [← hW] at hOf
  have hkeep : ∀ k, k ≤ N → 1 < n → Val n (mvs n W (ms.take k)) ∧ (mvs n W (ms.take k)).length ≤ 24 := fun k hk h1 => (mvs_br h1 _ hv (by omega)).2
  have hstep : ∀ k, k < N → mvs n W (ms.take (k + 1)) = mv n (mvs n W (ms.take k)) (pi ms k).1 (pi ms k).2 := fun k hk => by rw [pi_take (by omega), mvs_snoc]
  have hfin : ∀ k, (k = N ∨ k = 24) → k ≤ 24 → 1 < n → oth n W ms = mvs n W (ms.take k) := fun k hk hk2 h1 => by
    unfold oth
    rw [if_neg (by omega)]
    rcases hk with rfl | rfl
    · rw [List.take_of_length_le (by omega), List.take_of_length_le (by omega)]
    · rfl
  have hfin0 : n ≤ 1 → oth n W ms = W := fun h => by unfold oth; rw [if_pos h]
  obtain ⟨M, hM⟩ : ∃ M : Nat → List Int, M = fun k => mvs n W (ms.take k) := ⟨_, rfl⟩
  have hM0 : M 0 = W := by rw [hM]; rfl
  have hkeep' : ∀ k, k ≤ N → 1 < n → Val n (M k) ∧ (M k).length ≤ 24 := by rw [hM]; exact hkeep
  have hstep' : ∀ k, k < N → M (k + 1) = mv n (M k) (pi ms k).1 (pi ms k).2 := by rw [hM]; exact hstep
  have hfin' : ∀ k, (k = N ∨ k = 24) → k ≤ 24 → 1 < n → oth n W ms = M k := by rw [hM]; exact hfin
  rw [← hN] at hm
  have HOf := Lib.hid hOf; have HK := Lib.hid hkeep'; have HS := Lib.hid hstep'; have HF := Lib.hid hfin'; have HF0 := Lib.hid hfin0; have HM0 := Lib.hid hM0
  have HC := Lib.hid hcell; have HM := Lib.hid hm
  clear hOf hkeep hkeep' hstep hstep' hfin hfin' hfin0 hM0 hM hcell hm hv hmem hW hn1 h h1 hp hb hN
  unfold maxLen at hcm
  go_enter Tryd.func11, Tryd.ntmps11
  go_wp2_with fail
  refine (HOf.out _ ((Ext.refl w).alloc _)).mono ?_
  intro e w1 hh
  obtain ⟨a3, n3, c3, rfl, hn3, h3, x3⟩ := hh.open
  have hB := (B2.new w (.slice a1 n1 c1) (.slice a2 N cb) 26).ext x3
  obtain ⟨BX, hBX⟩ : ∃ BX, BX = w.heap.size := ⟨_, rfl⟩
  have X3 := Lib.hid (show Ext w w1 from ((Ext.refl w).alloc _).trans x3)
  have hBlt := hB.lt
  rw [← hBX] at hB hBlt ⊢
  have HB := Lib.hid hB; have H3 := Lib.hid h3
  clear hh hn3 h3 x3 hB hBX
  have hb0 := HB.out.c0
  have hb1 := HB.out.c1
  by_cases hn1 : n ≤ 1
  · have hd : decide (1 < n) = false := by simp; omega
    by_cases hN0 : N = 0
    · subst hN0
      go_wp2
      refine wp_loop_rounds 1 ?_
      rw [rounds_succ]
      go_wp2
      go_ret
      exact ⟨_, _, rfl, by rw [HF0.out hn1]; exact H3.out, X3.out⟩
    · have hNp : 0 < N := by omega
      go_wp2
      refine wp_loop_rounds 1 ?_
      rw [rounds_succ]
      go_wp2
      go_ret
      exact ⟨_, _, rfl, by rw [HF0.out hn1]; exact H3.out, X3.out⟩
  clear hb0 hb1
  have hgt : 1 < n := by omega
  go_wp2
  go_loopw [5, 6, 7, 8, 9, 56] (fun u i _ _ _ _ wr => ∃ (k cc : Nat), k ≤ N ∧ k ≤ 24 ∧ i = .int .i64 k ∧ Hid (IS .i64 wr u cc (M k)) ∧ Hid (Ext w1 wr)) (fun _ i _ _ _ _ _ => N - (intOf i).toNat)
  case atStart => exact ⟨0, _, Nat.zero_le _, by omega, rfl, by rw [HM0.out]; exact H3, Lib.hid (Ext.refl _)⟩
  case round =>
    obtain ⟨k, cc, hk, hk24, rfl, HI, Hx⟩ := hrel
    have hBr := HB.out.ext Hx.out
    have hb0 := hBr.c0
    have hb1 := hBr.c1
    clear hBr
    by_cases hlt : k < N ∧ k < 24
    · obtain ⟨hlt, h24⟩ := hlt
      obtain ⟨b, o, rfl, hc1, hc2⟩ := HC.out k hlt
      replace hc1 := Hx.out.cell (X3.out.cell hc1)
      replace hc2 := Hx.out.cell (X3.out.cell hc2)
      obtain ⟨g1, g2, g3, g4⟩ := HM.out k hlt
      have hst := HS.out k hlt
      obtain ⟨hv, hvl⟩ := HK.out k hk hgt
      have hbd := val_bd n1' n8 hv
      obtain ⟨a5, n5, c5, rfl, hn5, rfl, hI⟩ := HI.out.out
      rw [← hn5] at hvl
      generalize (pi ms k).1 = x at hc1 g1 g2 hst
      generalize (pi ms k).2 = y at hc2 g3 g4 hst
      obtain ⟨i, hi⟩ : ∃ i : Nat, x % ((n5 : Int) + 1) = i := ⟨(x % ((n5 : Int) + 1)).toNat, by have := Int.emod_nonneg x (show (n5 : Int) + 1 ≠ 0 by omega); omega⟩
      have hi5 : i ≤ n5 := by have := Int.emod_lt_of_pos x (show 0 < (n5 : Int) + 1 by omega); omega
      have HI5 := Lib.hid hI; have HN5 := Lib.hid hn5; have HST := Lib.hid hst; have HBD := Lib.hid hbd; have Hi := Lib.hid hi
      clear hI hn5 hst hbd hv HI hi
      have q1 : 0 ≤ y / 4 % (n - 1) := Int.emod_nonneg _ (by omega)
      have q2 : y / 4 % (n - 1) < n - 1 := Int.emod_lt_of_pos _ (by omega)
      by_cases hA : y % 4 = 0 ∧ n5 < 20
      · obtain ⟨hA1, hA2⟩ := hA
        have hmv := mv_ins (n := n) (w := M k) (x := x) (y := y) (i := i) hA1 (by rw [← HN5.out]; exact hA2) (by rw [← HN5.out]; exact Hi.out)
        have t1 : (y % 4 == 0) = true := beq_iff_eq.2 hA1
        have t2 : (n5 : Int) < 20 := by omega
        have t3 : (y / 2 % 2 == 1) = false := beq_eq_false_iff_ne.2 (by omega)
        rw [hmv] at HST
        clear hmv hA1
        obtain ⟨K, hK⟩ : ∃ K : Int, K = 1 + y / 4 % (n - 1) := ⟨_, rfl⟩
        have HKK := Lib.hid hK
        have K1 : 1 ≤ K := by omega
        have K2 : K ≤ 8 := by omega
        clear hK
        go_wp2
        rw [← HKK.out]
        (try rw [Hi.out])
        clear q1 q2 t1 t2 t3 hb0 hb1 hc1 hc2
        have r1 : (i : Int) ≤ (c5 : Int) := by have := HI5.out.len.2.2; rw [← HN5.out] at this; omega
        have r2 : (0 : Int) ≤ (i : Int) := by omega
        have r3 : (i : Int) ≤ (n5 : Int) := by omega
        have Hlo := Lib.hid (HI5.out.upto (m := i) hi5)
        rcases HI5.out.from i hi5 with ⟨b5, o5, rfl, hhi⟩ | ⟨rfl, rfl, rfl, h0⟩
        · have Hhi := Lib.hid hhi
          clear hhi
          have hwk : IntKind.i64.wrap (-K) = -K := IntWalk.i64_in _ ⟨by omega, by omega⟩
          go_region_held3 (fun w' => True) (trivial) (first
            | ((refine step_app_grown weiInt (by rfl) (.tmp 71) (.tmp 74) (by rfl) wr.heap.size (.slice (some ⟨wr.heap.size, 0, none⟩) 0 0) 0 [] (by rfl) ?_ (.slice (some ⟨b5, o5, none⟩) i c5) c5 (((M k).take i).map (Value.int .i64)) (by rfl) ?_ (onesI _) ?_ ?_ ?_ ?_; (focus (refine own0 ?_ ?_; (focus (repeat (first | (with_reducible exact blk_at rfl) | (with_reducible refine blk_at ?_; simp; done) | (with_reducible apply blk_drew) | (with_reducible apply blk_drewN) | (with_reducible apply blk_old)))); (focus (first | (exact Nat.le_refl _) | (exact Nat.le_succ _) | (simp; done) | (simp; omega))))); (focus (refine VS.ext Hlo.out ?_; (repeat (first | (with_reducible exact Ext.refl _) | (with_reducible apply Ext.drew) | (with_reducible apply Ext.drewN) | (with_reducible apply Ext.alloc))))); (focus (have := HN5.out; simp; omega)); (focus (have := HN5.out; simp; omega)); (focus (first | (simp; done) | (simp; omega))); intro v75 w75 o75 g75; have x75 : Hid (Ext wr w75) := Lib.hid (Ext.grown (by (repeat (first | (with_reducible exact Ext.refl _) | (with_reducible apply Ext.drew) | (with_reducible apply Ext.drewN) | (with_reducible apply Ext.alloc)))) g75 (by intro k' hk'; simp [Value.ownBlock] at hk'; omega))))
            | ((refine step_app_grown weiInt (by rfl) (.tmp 71) (.tmp 74) (by rfl) wr.heap.size (.slice (some ⟨(wr.heap.size + 1), 0, none⟩) 0 0) 0 [] (by rfl) ?_ (.slice (some ⟨b5, o5, none⟩) i c5) c5 (((M k).take i).map (Value.int .i64)) (by rfl) ?_ (onesI _) ?_ ?_ ?_ ?_; (focus (refine own0 ?_ ?_; (focus (repeat (first | (with_reducible exact blk_at rfl) | (with_reducible refine blk_at ?_; simp; done) | (with_reducible apply blk_drew) | (with_reducible apply blk_drewN) | (with_reducible apply blk_old)))); (focus (first | (exact Nat.le_refl _) | (exact Nat.le_succ _) | (simp; done) | (simp; omega))))); (focus (refine VS.ext Hlo.out ?_; (repeat (first | (with_reducible exact Ext.refl _) | (with_reducible apply Ext.drew) | (with_reducible apply Ext.drewN) | (with_reducible apply Ext.alloc))))); (focus (have := HN5.out; simp; omega)); (focus (have := HN5.out; simp; omega)); (focus (first | (simp; done) | (simp; omega))); intro v75 w75 o75 g75; have x75 : Hid (Ext wr w75) := Lib.hid (Ext.grown (by (repeat (first | (with_reducible exact Ext.refl _) | (with_reducible apply Ext.drew) | (with_reducible apply Ext.drewN) | (with_reducible apply Ext.alloc)))) g75 (by intro k' hk'; simp [Value.ownBlock] at hk'; omega))))
            | ((refine step_app_grown weiInt (by rfl) (.tmp 75) (.tmp 79) (by rfl) wr.heap.size v75 (0 + (((M k).take i).map (Value.int .i64)).length) ([] ++ ((M k).take i).map (Value.int .i64)) (by rfl) ?_ (.slice (some ⟨w75.heap.size, 0, none⟩) 2 2) 2 ([K, -K].map (Value.int .i64)) (by rfl) ?_ (onesI _) ?_ ?_ ?_ ?_; (focus (repeat (first | (with_reducible exact o75) | (with_reducible apply World.ownsRow.drew) | (with_reducible apply World.ownsRow.alloc)))); (focus (refine two_is (e := 3) ?_; (repeat (first | (with_reducible exact blk_at rfl) | (with_reducible refine blk_at ?_; simp; done) | (with_reducible apply blk_drew) | (with_reducible apply blk_drewN) | (with_reducible apply blk_old))))); (focus (have := HN5.out; simp; omega)); (focus (have := HN5.out; simp; omega)); (focus (have := x75.out.size; simp; omega)); intro v80 w80 o80 g80; have x80 : Hid (Ext wr w80) := Lib.hid (Ext.grown (by (repeat (first | (with_reducible exact x75.out) | (with_reducible apply Ext.drew) | (with_reducible apply Ext.drewN) | (with_reducible apply Ext.alloc)))) g80 (fun k' hk' => (o75.lt k' hk').1))))
            | ((refine step_app_grown weiInt (by rfl) (.tmp 75) (.tmp 79) (by rfl) wr.heap.size v75 (0 + (((M k).take i).map (Value.int .i64)).length) ([] ++ ((M k).take i).map (Value.int .i64)) (by rfl) ?_ (.slice (some ⟨(wr.heap.size + 1), 0, none⟩) 2 2) 2 ([K, -K].map (Value.int .i64)) (by rfl) ?_ (onesI _) ?_ ?_ ?_ ?_; (focus (repeat (first | (with_reducible exact o75) | (with_reducible apply World.ownsRow.drew) | (with_reducible apply World.ownsRow.alloc)))); (focus ((refine two_is (e := 3) ((g75.block _ (by simp <;> omega) (by simp [Value.ownBlock] <;> omega)).trans ?_); (repeat (first | (with_reducible exact blk_at rfl) | (with_reducible refine blk_at ?_; simp; done) | (with_reducible apply blk_drew) | (with_reducible apply blk_drewN) | (with_reducible apply blk_old)))))); (focus (have := HN5.out; simp; omega)); (focus (have := HN5.out; simp; omega)); (focus (have := x75.out.size; simp; omega)); intro v80 w80 o80 g80; have x80 : Hid (Ext wr w80) := Lib.hid (Ext.grown (by (repeat (first | (with_reducible exact x75.out) | (with_reducible apply Ext.drew) | (with_reducible apply Ext.drewN) | (with_reducible apply Ext.alloc)))) g80 (fun k' hk' => (o75.lt k' hk').1))))
            | ((refine step_app_grown weiInt (by rfl) (.tmp 75) (.tmp 79) (by rfl) wr.heap.size v75 (0 + (((M k).take i).map (Value.int .i64)).length) ([] ++ ((M k).take i).map (Value.int .i64)) (by rfl) ?_ (.slice (some ⟨wr.heap.size, 0, none⟩) 2 2) 2 ([K, -K].map (Value.int .i64)) (by rfl) ?_ (onesI _) ?_ ?_ ?_ ?_; (focus (repeat (first | (with_reducible exact o75) | (with_reducible apply World.ownsRow.drew) | (with_reducible apply World.ownsRow.alloc)))); (focus ((refine two_is (e := 3) ((g75.block _ (by simp <;> omega) (by simp [Value.ownBlock] <;> omega)).trans ?_); (repeat (first | (with_reducible exact blk_at rfl) | (with_reducible refine blk_at ?_; simp; done) | (with_reducible apply blk_drew) | (with_reducible apply blk_drewN) | (with_reducible apply blk_old)))))); (focus (have := HN5.out; simp; omega)); (focus (have := HN5.out; simp; omega)); (focus (have := x75.out.size; simp; omega)); intro v80 w80 o80 g80; have x80 : Hid (Ext wr w80) := Lib.hid (Ext.grown (by (repeat (first | (with_reducible exact x75.out) | (with_reducible apply Ext.drew) | (with_reducible apply Ext.drewN) | (with_reducible apply Ext.alloc)))) g80 (fun k' hk' => (o75.lt k' hk').1))))
            | ((refine step_app_grown weiInt (by rfl) (.tmp 80) (.tmp 83) (by rfl) wr.heap.size v80 _ _ (by rfl) o80 (.slice (if c5 = i then some ⟨b5, o5, none⟩ else some ⟨b5, o5 + i, none⟩) (n5 - i) (c5 - i)) (c5 - i) (((M k).drop i).map (Value.int .i64)) (by rfl) ?_ (onesI _) ?_ ?_ ?_ ?_; (focus (exact VS.ext Hhi.out x80.out)); (focus (have := HN5.out; simp; omega)); (focus (have := HN5.out; simp; omega)); (focus (exact x80.out.size)); intro v84 w84 o84 g84; have x84 : Hid (Ext wr w84) := Lib.hid (Ext.grown x80.out g84 (fun k' hk' => (o80.lt k' hk').1)))))
          all_goals
            have hfin : Hid (∃ cc, IS .i64 w84 v84 cc (M (k + 1))) := by
              have hh := o84
              rw [List.nil_append, ← List.map_append, ← List.map_append] at hh
              obtain ⟨cc, hcc⟩ := IS.of_own (n := _) (by
                have e : 0 + (List.map (Value.int .i64) (List.take i (M k))).length + ([K, -K].map (Value.int .i64)).length + (List.map (Value.int .i64) (List.drop i (M k))).length = 0 + (List.map (Value.int .i64) (List.take i (M k))).length + ([K, -K].map (Value.int .i64)).length + (List.map (Value.int .i64) (List.drop i (M k))).length := rfl
                exact hh)
              exact ⟨cc, by rw [HST.out, ← HKK.out]; exact hcc⟩
            obtain ⟨cc, hcc⟩ := hfin.out
            have Hcc := Lib.hid hcc
            have HX := Lib.hid (Hx.out.trans x84.out)
            clear hcc hfin o75 g75 x75 o80 g80 x80 o84 g84 x84
            go_wp2
            go_roundw
            case rel => exact ⟨k + 1, cc, by omega, by omega, by go_num, Hcc, HX⟩
            case measure => simp [intOf]; omega
        · have HM0k := Lib.hid h0
          have hwk : IntKind.i64.wrap (-K) = -K := IntWalk.i64_in _ ⟨by omega, by omega⟩
          rw [show ((0 : Nat) : Int) = 0 from rfl]
          clear r1 r2 r3 Hlo h0
          cases a5 with
          | none =>
            have Hlo := Lib.hid (IS.empty (k := .i64) (w := wr) none)
            have Hhi := Hlo
            go_region_held3 (fun w' => True) (trivial) (first
              | ((refine step_app_grown weiInt (by rfl) (.tmp 71) (.tmp 74) (by rfl) wr.heap.size (.slice (some ⟨wr.heap.size, 0, none⟩) 0 0) 0 [] (by rfl) ?_ (.slice none 0 0) 0 ((([] : List Int)).map (Value.int .i64)) (by rfl) ?_ (onesI _) ?_ ?_ ?_ ?_; (focus (refine own0 ?_ ?_; (focus (repeat (first | (with_reducible exact blk_at rfl) | (with_reducible refine blk_at ?_; simp; done) | (with_reducible apply blk_drew) | (with_reducible apply blk_drewN) | (with_reducible apply blk_old)))); (focus (first | (exact Nat.le_refl _) | (exact Nat.le_succ _) | (simp; done) | (simp; omega))))); (focus (refine VS.ext Hlo.out ?_; (repeat (first | (with_reducible exact Ext.refl _) | (with_reducible apply Ext.drew) | (with_reducible apply Ext.drewN) | (with_reducible apply Ext.alloc))))); (focus (first | (simp; done) | (simp; omega))); (focus (first | (simp; done) | (simp; omega))); (focus (first | (simp; done) | (simp; omega))); intro v75 w75 o75 g75; have x75 : Hid (Ext wr w75) := Lib.hid (Ext.grown (by (repeat (first | (with_reducible exact Ext.refl _) | (with_reducible apply Ext.drew) | (with_reducible apply Ext.drewN) | (with_reducible apply Ext.alloc)))) g75 (by intro k' hk'; simp [Value.ownBlock] at hk'; omega))))
              | ((refine step_app_grown weiInt (by rfl) (.tmp 71) (.tmp 74) (by rfl) wr.heap.size (.slice (some ⟨(wr.heap.size + 1), 0, none⟩) 0 0) 0 [] (by rfl) ?_ (.slice none 0 0) 0 ((([] : List Int)).map (Value.int .i64)) (by rfl) ?_ (onesI _) ?_ ?_ ?_ ?_; (focus (refine own0 ?_ ?_; (focus (repeat (first | (with_reducible exact blk_at rfl) | (with_reducible refine blk_at ?_; simp; done) | (with_reducible apply blk_drew) | (with_reducible apply blk_drewN) | (with_reducible apply blk_old)))); (focus (first | (exact Nat.le_refl _) | (exact Nat.le_succ _) | (simp; done) | (simp; omega))))); (focus (refine VS.ext Hlo.out ?_; (repeat (first | (with_reducible exact Ext.refl _) | (with_reducible apply Ext.drew) | (with_reducible apply Ext.drewN) | (with_reducible apply Ext.alloc))))); (focus (first | (simp; done) | (simp; omega))); (focus (first | (simp; done) | (simp; omega))); (focus (first | (simp; done) | (simp; omega))); intro v75 w75 o75 g75; have x75 : Hid (Ext wr w75) := Lib.hid (Ext.grown (by (repeat (first | (with_reducible exact Ext.refl _) | (with_reducible apply Ext.drew) | (with_reducible apply Ext.drewN) | (with_reducible apply Ext.alloc)))) g75 (by intro k' hk'; simp [Value.ownBlock] at hk'; omega))))
              | ((refine step_app_grown weiInt (by rfl) (.tmp 75) (.tmp 79) (by rfl) wr.heap.size v75 (0 + ((([] : List Int)).map (Value.int .i64)).length) ([] ++ ([] : List Int).map (Value.int .i64)) (by rfl) ?_ (.slice (some ⟨w75.heap.size, 0, none⟩) 2 2) 2 ([K, -K].map (Value.int .i64)) (by rfl) ?_ (onesI _) ?_ ?_ ?_ ?_; (focus (repeat (first | (with_reducible exact o75) | (with_reducible apply World.ownsRow.drew) | (with_reducible apply World.ownsRow.alloc)))); (focus (refine two_is (e := 3) ?_; (repeat (first | (with_reducible exact blk_at rfl) | (with_reducible refine blk_at ?_; simp; done) | (with_reducible apply blk_drew) | (with_reducible apply blk_drewN) | (with_reducible apply blk_old))))); (focus (first | (simp; done) | (simp; omega))); (focus (first | (simp; done) | (simp; omega))); (focus (have := x75.out.size; simp; omega)); intro v80 w80 o80 g80; have x80 : Hid (Ext wr w80) := Lib.hid (Ext.grown (by (repeat (first | (with_reducible exact x75.out) | (with_reducible apply Ext.drew) | (with_reducible apply Ext.drewN) | (with_reducible apply Ext.alloc)))) g80 (fun k' hk' => (o75.lt k' hk').1))))
              | ((refine step_app_grown weiInt (by rfl) (.tmp 75) (.tmp 79) (by rfl) wr.heap.size v75 (0 + ((([] : List Int)).map (Value.int .i64)).length) ([] ++ ([] : List Int).map (Value.int .i64)) (by rfl) ?_ (.slice (some ⟨(wr.heap.size + 1), 0, none⟩) 2 2) 2 ([K, -K].map (Value.int .i64)) (by rfl) ?_ (onesI _) ?_ ?_ ?_ ?_; (focus (repeat (first | (with_reducible exact o75) | (with_reducible apply World.ownsRow.drew) | (with_reducible apply World.ownsRow.alloc)))); (focus ((refine two_is (e := 3) ((g75.block _ (by simp <;> omega) (by simp [Value.ownBlock] <;> omega)).trans ?_); (repeat (first | (with_reducible exact blk_at rfl) | (with_reducible refine blk_at ?_; simp; done) | (with_reducible apply blk_drew) | (with_reducible apply blk_drewN) | (with_reducible apply blk_old)))))); (focus (first | (simp; done) | (simp; omega))); (focus (first | (simp; done) | (simp; omega))); (focus (have := x75.out.size; simp; omega)); intro v80 w80 o80 g80; have x80 : Hid (Ext wr w80) := Lib.hid (Ext.grown (by (repeat (first | (with_reducible exact x75.out) | (with_reducible apply Ext.drew) | (with_reducible apply Ext.drewN) | (with_reducible apply Ext.alloc)))) g80 (fun k' hk' => (o75.lt k' hk').1))))
              | ((refine step_app_grown weiInt (by rfl) (.tmp 75) (.tmp 79) (by rfl) wr.heap.size v75 (0 + ((([] : List Int)).map (Value.int .i64)).length) ([] ++ ([] : List Int).map (Value.int .i64)) (by rfl) ?_ (.slice (some ⟨wr.heap.size, 0, none⟩) 2 2) 2 ([K, -K].map (Value.int .i64)) (by rfl) ?_ (onesI _) ?_ ?_ ?_ ?_; (focus (repeat (first | (with_reducible exact o75) | (with_reducible apply World.ownsRow.drew) | (with_reducible apply World.ownsRow.alloc)))); (focus ((refine two_is (e := 3) ((g75.block _ (by simp <;> omega) (by simp [Value.ownBlock] <;> omega)).trans ?_); (repeat (first | (with_reducible exact blk_at rfl) | (with_reducible refine blk_at ?_; simp; done) | (with_reducible apply blk_drew) | (with_reducible apply blk_drewN) | (with_reducible apply blk_old)))))); (focus (first | (simp; done) | (simp; omega))); (focus (first | (simp; done) | (simp; omega))); (focus (have := x75.out.size; simp; omega)); intro v80 w80 o80 g80; have x80 : Hid (Ext wr w80) := Lib.hid (Ext.grown (by (repeat (first | (with_reducible exact x75.out) | (with_reducible apply Ext.drew) | (with_reducible apply Ext.drewN) | (with_reducible apply Ext.alloc)))) g80 (fun k' hk' => (o75.lt k' hk').1))))
              | ((refine step_app_grown weiInt (by rfl) (.tmp 80) (.tmp 83) (by rfl) wr.heap.size v80 _ _ (by rfl) o80 (.slice none 0 0) 0 ((([] : List Int)).map (Value.int .i64)) (by rfl) ?_ (onesI _) ?_ ?_ ?_ ?_; (focus (exact VS.ext Hhi.out x80.out)); (focus (first | (simp; done) | (simp; omega))); (focus (first | (simp; done) | (simp; omega))); (focus (exact x80.out.size)); intro v84 w84 o84 g84; have x84 : Hid (Ext wr w84) := Lib.hid (Ext.grown x80.out g84 (fun k' hk' => (o80.lt k' hk').1)))))
            all_goals
              have hfin : Hid (∃ cc, IS .i64 w84 v84 cc (M (k + 1))) := by
                obtain ⟨cc, hcc⟩ := IS.of_own (k := .i64) (xs := [K, -K]) o84
                exact ⟨cc, by rw [HST.out, ← HKK.out, HM0k.out]; exact hcc⟩
              obtain ⟨cc, hcc⟩ := hfin.out
              have Hcc := Lib.hid hcc
              have HX := Lib.hid (Hx.out.trans x84.out)
              clear hcc hfin o75 g75 x75 o80 g80 x80 o84 g84 x84
              go_wp2
              go_roundw
              case rel => exact ⟨k + 1, cc, by omega, by omega, by go_num, Hcc, HX⟩
              case measure => simp [intOf]; omega

          | some ad =>
            have Hlo := Lib.hid (IS.empty (k := .i64) (w := wr) (some ad))
            have Hhi := Hlo
            go_region_held3 (fun w' => True) (trivial) (first
              | ((refine step_app_grown weiInt (by rfl) (.tmp 71) (.tmp 74) (by rfl) wr.heap.size (.slice (some ⟨wr.heap.size, 0, none⟩) 0 0) 0 [] (by rfl) ?_ (.slice (some ad) 0 0) 0 ((([] : List Int)).map (Value.int .i64)) (by rfl) ?_ (onesI _) ?_ ?_ ?_ ?_; (focus (refine own0 ?_ ?_; (focus (repeat (first | (with_reducible exact blk_at rfl) | (with_reducible refine blk_at ?_; simp; done) | (with_reducible apply blk_drew) | (with_reducible apply blk_drewN) | (with_reducible apply blk_old)))); (focus (first | (exact Nat.le_refl _) | (exact Nat.le_succ _) | (simp; done) | (simp; omega))))); (focus (refine VS.ext Hlo.out ?_; (repeat (first | (with_reducible exact Ext.refl _) | (with_reducible apply Ext.drew) | (with_reducible apply Ext.drewN) | (with_reducible apply Ext.alloc))))); (focus (first | (simp; done) | (simp; omega))); (focus (first | (simp; done) | (simp; omega))); (focus (first | (simp; done) | (simp; omega))); intro v75 w75 o75 g75; have x75 : Hid (Ext wr w75) := Lib.hid (Ext.grown (by (repeat (first | (with_reducible exact Ext.refl _) | (with_reducible apply Ext.drew) | (with_reducible apply Ext.drewN) | (with_reducible apply Ext.alloc)))) g75 (by intro k' hk'; simp [Value.ownBlock] at hk'; omega))))
              | ((refine step_app_grown weiInt (by rfl) (.tmp 71) (.tmp 74) (by rfl) wr.heap.size (.slice (some ⟨(wr.heap.size + 1), 0, none⟩) 0 0) 0 [] (by rfl) ?_ (.slice (some ad) 0 0) 0 ((([] : List Int)).map (Value.int .i64)) (by rfl) ?_ (onesI _) ?_ ?_ ?_ ?_; (focus (refine own0 ?_ ?_; (focus (repeat (first | (with_reducible exact blk_at rfl) | (with_reducible refine blk_at ?_; simp; done) | (with_reducible apply blk_drew) | (with_reducible apply blk_drewN) | (with_reducible apply blk_old)))); (focus (first | (exact Nat.le_refl _) | (exact Nat.le_succ _) | (simp; done) | (simp; omega))))); (focus (refine VS.ext Hlo.out ?_; (repeat (first | (with_reducible exact Ext.refl _) | (with_reducible apply Ext.drew) | (with_reducible apply Ext.drewN) | (with_reducible apply Ext.alloc))))); (focus (first | (simp; done) | (simp; omega))); (focus (first | (simp; done) | (simp; omega))); (focus (first | (simp; done) | (simp; omega))); intro v75 w75 o75 g75; have x75 : Hid (Ext wr w75) := Lib.hid (Ext.grown (by (repeat (first | (with_reducible exact Ext.refl _) | (with_reducible apply Ext.drew) | (with_reducible apply Ext.drewN) | (with_reducible apply Ext.alloc)))) g75 (by intro k' hk'; simp [Value.ownBlock] at hk'; omega))))
              | ((refine step_app_grown weiInt (by rfl) (.tmp 75) (.tmp 79) (by rfl) wr.heap.size v75 (0 + ((([] : List Int)).map (Value.int .i64)).length) ([] ++ ([] : List Int).map (Value.int .i64)) (by rfl) ?_ (.slice (some ⟨w75.heap.size, 0, none⟩) 2 2) 2 ([K, -K].map (Value.int .i64)) (by rfl) ?_ (onesI _) ?_ ?_ ?_ ?_; (focus (repeat (first | (with_reducible exact o75) | (with_reducible apply World.ownsRow.drew) | (with_reducible apply World.ownsRow.alloc)))); (focus (refine two_is (e := 3) ?_; (repeat (first | (with_reducible exact blk_at rfl) | (with_reducible refine blk_at ?_; simp; done) | (with_reducible apply blk_drew) | (with_reducible apply blk_drewN) | (with_reducible apply blk_old))))); (focus (first | (simp; done) | (simp; omega))); (focus (first | (simp; done) | (simp; omega))); (focus (have := x75.out.size; simp; omega)); intro v80 w80 o80 g80; have x80 : Hid (Ext wr w80) := Lib.hid (Ext.grown (by (repeat (first | (with_reducible exact x75.out) | (with_reducible apply Ext.drew) | (with_reducible apply Ext.drewN) | (with_reducible apply Ext.alloc)))) g80 (fun k' hk' => (o75.lt k' hk').1))))
              | ((refine step_app_grown weiInt (by rfl) (.tmp 75) (.tmp 79) (by rfl) wr.heap.size v75 (0 + ((([] : List Int)).map (Value.int .i64)).length) ([] ++ ([] : List Int).map (Value.int .i64)) (by rfl) ?_ (.slice (some ⟨(wr.heap.size + 1), 0, none⟩) 2 2) 2 ([K, -K].map (Value.int .i64)) (by rfl) ?_ (onesI _) ?_ ?_ ?_ ?_; (focus (repeat (first | (with_reducible exact o75) | (with_reducible apply World.ownsRow.drew) | (with_reducible apply World.ownsRow.alloc)))); (focus ((refine two_is (e := 3) ((g75.block _ (by simp <;> omega) (by simp [Value.ownBlock] <;> omega)).trans ?_); (repeat (first | (with_reducible exact blk_at rfl) | (with_reducible refine blk_at ?_; simp; done) | (with_reducible apply blk_drew) | (with_reducible apply blk_drewN) | (with_reducible apply blk_old)))))); (focus (first | (simp; done) | (simp; omega))); (focus (first | (simp; done) | (simp; omega))); (focus (have := x75.out.size; simp; omega)); intro v80 w80 o80 g80; have x80 : Hid (Ext wr w80) := Lib.hid (Ext.grown (by (repeat (first | (with_reducible exact x75.out) | (with_reducible apply Ext.drew) | (with_reducible apply Ext.drewN) | (with_reducible apply Ext.alloc)))) g80 (fun k' hk' => (o75.lt k' hk').1))))
              | ((refine step_app_grown weiInt (by rfl) (.tmp 75) (.tmp 79) (by rfl) wr.heap.size v75 (0 + ((([] : List Int)).map (Value.int .i64)).length) ([] ++ ([] : List Int).map (Value.int .i64)) (by rfl) ?_ (.slice (some ⟨wr.heap.size, 0, none⟩) 2 2) 2 ([K, -K].map (Value.int .i64)) (by rfl) ?_ (onesI _) ?_ ?_ ?_ ?_; (focus (repeat (first | (with_reducible exact o75) | (with_reducible apply World.ownsRow.drew) | (with_reducible apply World.ownsRow.alloc)))); (focus ((refine two_is (e := 3) ((g75.block _ (by simp <;> omega) (by simp [Value.ownBlock] <;> omega)).trans ?_); (repeat (first | (with_reducible exact blk_at rfl) | (with_reducible refine blk_at ?_; simp; done) | (with_reducible apply blk_drew) | (with_reducible apply blk_drewN) | (with_reducible apply blk_old)))))); (focus (first | (simp; done) | (simp; omega))); (focus (first | (simp; done) | (simp; omega))); (focus (have := x75.out.size; simp; omega)); intro v80 w80 o80 g80; have x80 : Hid (Ext wr w80) := Lib.hid (Ext.grown (by (repeat (first | (with_reducible exact x75.out) | (with_reducible apply Ext.drew) | (with_reducible apply Ext.drewN) | (with_reducible apply Ext.alloc)))) g80 (fun k' hk' => (o75.lt k' hk').1))))
              | ((refine step_app_grown weiInt (by rfl) (.tmp 80) (.tmp 83) (by rfl) wr.heap.size v80 _ _ (by rfl) o80 (.slice (some ad) 0 0) 0 ((([] : List Int)).map (Value.int .i64)) (by rfl) ?_ (onesI _) ?_ ?_ ?_ ?_; (focus (exact VS.ext Hhi.out x80.out)); (focus (first | (simp; done) | (simp; omega))); (focus (first | (simp; done) | (simp; omega))); (focus (exact x80.out.size)); intro v84 w84 o84 g84; have x84 : Hid (Ext wr w84) := Lib.hid (Ext.grown x80.out g84 (fun k' hk' => (o80.lt k' hk').1)))))
            all_goals
              have hfin : Hid (∃ cc, IS .i64 w84 v84 cc (M (k + 1))) := by
                obtain ⟨cc, hcc⟩ := IS.of_own (k := .i64) (xs := [K, -K]) o84
                exact ⟨cc, by rw [HST.out, ← HKK.out, HM0k.out]; exact hcc⟩
              obtain ⟨cc, hcc⟩ := hfin.out
              have Hcc := Lib.hid hcc
              have HX := Lib.hid (Hx.out.trans x84.out)
              clear hcc hfin o75 g75 x75 o80 g80 x80 o84 g84 x84
              go_wp2
              go_roundw
              case rel => exact ⟨k + 1, cc, by omega, by omega, by go_num, Hcc, HX⟩
              case measure => simp [intOf]; omega

      · by_cases hR : y % 4 = 1
        · have hmv := mv_red (n := n) (w := M k) (x := x) (y := y) hR
          have t1 : (y % 4 == 0) = false := beq_eq_false_iff_ne.2 (by omega)
          have t2 : (y % 4 == 1) = true := beq_iff_eq.2 hR
          rw [hmv] at HST
          clear hmv hR hA
          go_wp2_with fail
          refine (reduced_calls _ _ (M k) _ HI5.out (by rw [← HN5.out]; omega) HBD.out).mono ?_
          intro e w4 hh
          obtain ⟨a6, n6, c6, rfl, hn6, h6, x6⟩ := hh.open
          rw [← HST.out] at h6
          have H6 := Lib.hid h6; have HX := Lib.hid (Hx.out.trans x6)
          clear hh hn6 h6 x6 hb0 hb1 hc1 hc2
          go_wp2
          go_roundw
          case rel => exact ⟨k + 1, c6, by omega, by omega, by go_num, H6, HX⟩
          case measure => simp [intOf]; omega
        · have hmv := mv_exch (n := n) (w := M k) (x := x) (y := y) (i := i) (by rw [← HN5.out]; exact hA) hR (by rw [← HN5.out]; exact Hi.out)
          rw [hmv] at HST
          have t2 : (y % 4 == 1) = false := beq_eq_false_iff_ne.2 hR
          have hi1000 : i ≤ 1000 := by omega
          have hl1000 : n5 ≤ 1000 := by omega
          by_cases h4 : y % 4 = 0
          · have t1 : (y % 4 == 0) = true := beq_iff_eq.2 h4
            have t3 : ¬ (n5 : Int) < 20 := by omega
            clear hmv hR hA h4
            go_wp2_with fail
            (try rw [Hi.out])
            refine (exchanged_calls i _ _ (M k) _ HI5.out hi1000 (by rw [← HN5.out]; exact hl1000) HBD.out).mono ?_
            intro e w4 hh
            obtain ⟨a6, n6, c6, rfl, hn6, h6, x6⟩ := hh.open
            rw [← HST.out] at h6
            have H6 := Lib.hid h6; have HX := Lib.hid (Hx.out.trans x6)
            clear hh hn6 h6 x6 hb0 hb1 hc1 hc2
            go_wp2
            go_roundw
            case rel => exact ⟨k + 1, c6, by omega, by omega, by go_num, H6, HX⟩
            case measure => simp [intOf]; omega
          · have t1 : (y % 4 == 0) = false := beq_eq_false_iff_ne.2 h4
            clear hmv hR hA h4
            go_wp2_with fail
            (try rw [Hi.out])
            refine (exchanged_calls i _ _ (M k) _ HI5.out hi1000 (by rw [← HN5.out]; exact hl1000) HBD.out).mono ?_
            intro e w4 hh
            obtain ⟨a6, n6, c6, rfl, hn6, h6, x6⟩ := hh.open
            rw [← HST.out] at h6
            have H6 := Lib.hid h6; have HX := Lib.hid (Hx.out.trans x6)
            clear hh hn6 h6 x6 hb0 hb1 hc1 hc2
            go_wp2
            go_roundw
            case rel => exact ⟨k + 1, c6, by omega, by omega, by go_num, H6, HX⟩
            case measure => simp [intOf]; omega
    · have hend : k = N ∨ k = 24 := by omega
      have hf := HF.out k hend hk24 hgt
      obtain ⟨a5, n5, c5, rfl, hn5, rfl, hI⟩ := HI.out.out
      rw [← hf] at hI
      have HI5 := Lib.hid hI; have HX := Lib.hid (X3.out.trans Hx.out)
      clear hI hn5 HI hf
      by_cases hkN : k < N
      · have h24 : ¬ (k : Int) < 24 := by omega
        have hkN' : (k : Int) < N := by omega
        clear hlt hend
        go_wp2
        go_ret
        exact ⟨_, c5, rfl, HI5.out, HX.out⟩
      · have hkN' : ¬ (k : Int) < N := by omega
        clear hlt hend
        go_wp2
        go_ret
        exact ⟨_, c5, rfl, HI5.out, HX.out⟩
end Go.Proofs.YtigffblelngpjaaDoor
