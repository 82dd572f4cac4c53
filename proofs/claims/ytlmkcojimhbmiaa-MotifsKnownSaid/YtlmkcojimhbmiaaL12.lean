/- Texts of this claim in one file: libraries and walks. -/
import Derived.Deep.QuietTactic
import Derived.Deep.CutRange
import Derived.BigQuiet
import Derived.Test.YtlmkcojimhbmiaaL11
/- ganseyref15.Check. -/
namespace Go.Proofs.Ytlmkcojimhbmiaa
set_option linter.unusedVariables false
set_option linter.unusedSimpArgs false
set_option maxRecDepth 8000
open Go Go.RowKit

theorem lrg_01 (rows : List (List St)) : lrg rows = 0 ∨ lrg rows = 1 := by unfold lrg; split <;> simp
theorem smallB3 {L T R : List (List St)} : smallB [L, T, R] = false ↔ lrg L = 1 ∨ lrg T = 1 ∨ lrg R = 1 := by
  unfold smallB lrg
  simp only [List.any_cons, List.any_nil, Bool.or_false]
  cases big L <;> cases big T <;> cases big R <;> simp
def mW (n0 n1 n2 : Nat) : Bool := decide ((0 < n0 ∧ n0 ≠ n1) ∨ (0 < n2 ∧ n2 ≠ n1))
theorem mchk_3 {L T R : List (List St)} (h : lrg L = 1 ∨ lrg T = 1 ∨ lrg R = 1) : mchk L T R = 3 := by unfold mchk; rw [if_pos (smallB3.2 h)]
theorem mchk_5 {L T R : List (List St)} (h : ¬ (lrg L = 1 ∨ lrg T = 1 ∨ lrg R = 1)) (h5 : mW L.length T.length R.length = true) : mchk L T R = 5 := by
  unfold mchk; rw [if_neg (fun e => h (smallB3.1 e)), if_pos (of_decide_eq_true h5)]
theorem mchk_r {L T R : List (List St)} (h : ¬ (lrg L = 1 ∨ lrg T = 1 ∨ lrg R = 1)) (h5 : mW L.length T.length R.length = false) : mchk L T R = if T.length = 0 ∨ goodB [L, T, R] = false then 1 else if T.any (fun r => decide (r.length = 0)) then 1 else 0 := by
  unfold mchk; rw [if_neg (fun e => h (smallB3.1 e)), if_neg (of_decide_eq_false h5)]
theorem vld_iff {s : St} : s.vld = 0 ↔ s.chk ≠ 0 := by unfold St.vld; split <;> simp_all
theorem vld_01 (s : St) : s.vld = 0 ∨ s.vld = 1 := by unfold St.vld; split <;> simp
set_option maxHeartbeats 8000000 in
theorem RMCheck_calls (u0 u1 u2 : Value) (c0 c1 c2 : Nat) (L T R : List (List St)) (w : World) (h0 : RR w u0 c0 L) (h1 : RR w u1 c1 T) (h2 : RR w u2 c2 R)
    (hs : ∀ k, k < 3 → ∀ i, i < (bw [L, T, R] k).length → ∀ j, j < (sw (bw [L, T, R] k) i).length → 0 ≤ (si (sw (bw [L, T, R] k) i) j).k ∧ 0 ≤ (si (sw (bw [L, T, R] k) i) j).y) :
    Calls Try.prog 12 #[.agg #[u0, u1, u2]] w fun e w' => e = .returned (.int .i64 (mchk L T R)) ∧ Ext w w' := by
  have k0 := fun w' (x : Ext w w') => Large_calls _ _ _ w' (h0.ext x)
  have k1 := fun w' (x : Ext w w') => Large_calls _ _ _ w' (h1.ext x)
  have k2 := fun w' (x : Ext w w') => Large_calls _ _ _ w' (h2.ext x)
  have hB := fun w' g t (x : Ext w w') (hb : w'.heap[g]? = some (Obj.cells #[u0, u1, u2] t (0, 0))) => BB.lit3 hb (h0.ext x) (h1.ext x) (h2.ext x)
  obtain ⟨a0, n0, rfl, hn0, hc0, hm0, _⟩ := h0.open
  obtain ⟨a1, n1, rfl, hn1, hc1, hm1, hat⟩ := h1.open
  obtain ⟨a2, n2, rfl, hn2, hc2, hm2, _⟩ := h2.open
  unfold maxLen at hm0 hm1 hm2
  have m3 := @mchk_3 L T R
  have m5 := @mchk_5 L T R
  have mr := @mchk_r L T R
  have l0 := lrg_01 L; have l1 := lrg_01 T; have l2 := lrg_01 R
  rw [← hn0, ← hn1, ← hn2] at m5
  rw [← hn0, ← hn1, ← hn2] at mr
  obtain ⟨S0, hS0⟩ : ∃ S, S = lrg L := ⟨_, rfl⟩
  obtain ⟨S1, hS1⟩ : ∃ S, S = lrg T := ⟨_, rfl⟩
  obtain ⟨S2, hS2⟩ : ∃ S, S = lrg R := ⟨_, rfl⟩
  obtain ⟨M, hMM⟩ : ∃ M, M = mchk L T R := ⟨_, rfl⟩
  rw [← hS0] at k0 l0 m3 m5 mr
  rw [← hS1] at k1 l1 m3 m5 mr
  rw [← hS2] at k2 l2 m3 m5 mr
  rw [← hMM] at m3 m5 mr ⊢
  obtain ⟨W, hW⟩ : ∃ W, W = w.alloc (.cells #[.slice a0 n0 c0, .slice a1 n1 c1, .slice a2 n2 c2] 26) := ⟨_, rfl⟩
  have xW : Ext w W := by rw [hW]; exact (Ext.refl w).alloc _
  have hbx : W.heap[w.heap.size]? = some (Obj.cells #[.slice a0 n0 c0, .slice a1 n1 c1, .slice a2 n2 c2] 26 (0, 0)) := by rw [hW]; exact blk_at rfl
  have b0 : W.cell? ⟨w.heap.size, 0, none⟩ = some (.slice a0 n0 c0) := by simp [World.cell?, hbx]
  have b1 : W.cell? ⟨w.heap.size, 1, none⟩ = some (.slice a1 n1 c1) := by simp [World.cell?, hbx]
  have b2 : W.cell? ⟨w.heap.size, 2, none⟩ = some (.slice a2 n2 c2) := by simp [World.cell?, hbx]
  have HB0 := Lib.hid (fun w' (x : Ext W w') => x.cell b0); have HB1 := Lib.hid (fun w' (x : Ext W w') => x.cell b1); have HB2 := Lib.hid (fun w' (x : Ext W w') => x.cell b2)
  have K0 := Lib.hid k0; have K1 := Lib.hid k1; have K2 := Lib.hid k2; have HB := Lib.hid hB; have M3 := Lib.hid m3; have M5 := Lib.hid m5; have Mr := Lib.hid mr; have XW := Lib.hid xW; have HW := Lib.hid hW
  have Hn0 := Lib.hid hn0; have Hn1 := Lib.hid hn1; have Hn2 := Lib.hid hn2; have L1 := Lib.hid l1; have L2 := Lib.hid l2; have Hs := Lib.hid hs
  rw [hW] at b0 b1 b2
  clear h0 h1 h2 hn0 hn1 hn2 k0 k1 k2 hB m3 m5 mr l1 l2 hS0 hS1 hS2 hMM xW hW hat hbx hs
  go_enter Try.func12, Try.ntmps12
  go_wp2_with fail
  rw [← HW.out]
  refine (K0.out W XW.out).mono ?_
  rintro e w3 ⟨rfl, x3⟩
  have X3 := Lib.hid x3
  clear x3 b0 b1 b2 K0
  rcases l0 with rfl | rfl
  rotate_left
  · have hM := M3.out (.inl rfl)
    subst hM
    clear M5 Mr
    go_wp2
    go_ret
    exact ⟨rfl, XW.out.trans X3.out⟩
  have b1 := HB1.out _ X3.out
  go_wp2_with fail
  refine (K1.out w3 (XW.out.trans X3.out)).mono ?_
  rintro e w4 ⟨rfl, x4⟩
  have X4 := Lib.hid (X3.out.trans x4)
  clear x4 b1 K1
  rcases L1.out with rfl | rfl
  rotate_left
  · have hM := M3.out (.inr (.inl rfl))
    subst hM
    clear M5 Mr
    go_wp2
    go_ret
    exact ⟨rfl, XW.out.trans X4.out⟩
  have b2 := HB2.out _ X4.out
  go_wp2_with fail
  refine (K2.out w4 (XW.out.trans X4.out)).mono ?_
  rintro e w5 ⟨rfl, x5⟩
  have X5 := Lib.hid (X4.out.trans x5)
  clear x5 b2 K2
  rcases L2.out with rfl | rfl
  rotate_left
  · have hM := M3.out (.inr (.inr rfl))
    subst hM
    clear M5 Mr
    go_wp2
    go_ret
    exact ⟨rfl, XW.out.trans X5.out⟩
  have M5' := Lib.hid (M5.out (by decide)); have Mr' := Lib.hid (Mr.out (by decide))
  clear M3 M5 Mr L1 L2
  have b0 := HB0.out _ X5.out; have b1 := HB1.out _ X5.out; have b2 := HB2.out _ X5.out
  go_upto_region 4 with fail
  go_cut [55] from 28 to 55 (fun x wx => x = .bool (mW n0 n1 n2) ∧ wx = w5)
  case first =>
    have hmw : mW n0 n1 n2 = if n0 ≠ 0 ∧ n0 ≠ n1 then true else decide (n2 ≠ 0 ∧ n2 ≠ n1) := by
      unfold mW
      by_cases e : n0 ≠ 0 ∧ n0 ≠ n1
      · rw [if_pos e, decide_eq_true]; exact .inl ⟨by omega, e.2⟩
      · rw [if_neg e]; congr 1; apply propext; omega
    by_cases e0 : n0 = 0
    · have t1 : ((n0 : Int) != 0) = false := by rw [bne, beq_iff_eq.2 (by omega)]; rfl
      rw [if_neg (by omega)] at hmw
      by_cases e2 : n2 = 0
      · have t2 : ((n2 : Int) != 0) = false := by rw [bne, beq_iff_eq.2 (by omega)]; rfl
        have hv : mW n0 n1 n2 = false := by rw [hmw, decide_eq_false]; omega
        clear hmw e0 e2
        go_wp2_with fail
        go_meet
        case rel => exact ⟨by rw [hv], rfl⟩
      · have t2 : ((n2 : Int) != 0) = true := by rw [bne, beq_eq_false_iff_ne.2 (by omega)]; rfl
        obtain ⟨E, hE⟩ : ∃ E, E = ((n2 : Int) != n1) := ⟨_, rfl⟩
        have hv : mW n0 n1 n2 = E := by
          rw [hmw, hE]
          by_cases e : n2 = n1
          · rw [decide_eq_false (by omega), bne, beq_iff_eq.2 (by omega)]; rfl
          · rw [decide_eq_true ⟨e2, e⟩, bne, beq_eq_false_iff_ne.2 (by omega)]; rfl
        have t3 : ((n2 : Int) != n1) = E := hE.symm
        clear hmw e0 e2 hE
        go_wp2_with fail
        go_meet
        case rel => exact ⟨by rw [hv], rfl⟩
    · have t1 : ((n0 : Int) != 0) = true := by rw [bne, beq_eq_false_iff_ne.2 (by omega)]; rfl
      by_cases e1 : n0 = n1
      · have t4 : ((n0 : Int) != n1) = false := by rw [bne, beq_iff_eq.2 (by omega)]; rfl
        rw [if_neg (by omega)] at hmw
        by_cases e2 : n2 = 0
        · have t2 : ((n2 : Int) != 0) = false := by rw [bne, beq_iff_eq.2 (by omega)]; rfl
          have hv : mW n0 n1 n2 = false := by rw [hmw, decide_eq_false]; omega
          clear hmw e0 e2 e1
          go_wp2_with fail
          go_meet
          case rel => exact ⟨by rw [hv], rfl⟩
        · have t2 : ((n2 : Int) != 0) = true := by rw [bne, beq_eq_false_iff_ne.2 (by omega)]; rfl
          obtain ⟨E, hE⟩ : ∃ E, E = ((n2 : Int) != n1) := ⟨_, rfl⟩
          have hv : mW n0 n1 n2 = E := by
            rw [hmw, hE]
            by_cases e : n2 = n1
            · rw [decide_eq_false (by omega), bne, beq_iff_eq.2 (by omega)]; rfl
            · rw [decide_eq_true ⟨e2, e⟩, bne, beq_eq_false_iff_ne.2 (by omega)]; rfl
          have t3 : ((n2 : Int) != n1) = E := hE.symm
          clear hmw e0 e2 hE e1
          go_wp2_with fail
          go_meet
          case rel => exact ⟨by rw [hv], rfl⟩
      · have t4 : ((n0 : Int) != n1) = true := by rw [bne, beq_eq_false_iff_ne.2 (by omega)]; rfl
        have hv : mW n0 n1 n2 = true := by rw [hmw, if_pos ⟨e0, e1⟩]
        clear hmw e0 e1
        go_wp2_with fail
        go_meet
        case rel => exact ⟨by rw [hv], rfl⟩
  case rest =>
    obtain ⟨rfl, rfl⟩ := hcut
    obtain ⟨V, hV⟩ : ∃ V, V = mW n0 n1 n2 := ⟨_, rfl⟩
    rw [← hV] at M5' Mr' ⊢
    clear hV
    cases V
    rotate_left
    · have hM := M5'.out rfl
      subst hM
      clear Mr'
      go_wp2
      go_ret
      exact ⟨rfl, XW.out.trans X5.out⟩
    have Mq := Lib.hid (Mr'.out rfl)
    clear M5' Mr'
    by_cases e1 : n1 = 0
    · have hM := Mq.out
      rw [if_pos (.inl e1)] at hM
      subst hM
      have t1 : ((n1 : Int) == 0) = true := by rw [e1]; rfl
      clear Mq e1
      go_wp2
      go_ret
      exact ⟨rfl, XW.out.trans X5.out⟩
    have t1 : ((n1 : Int) == 0) = false := beq_eq_false_iff_ne.2 (by omega)
    have htb := fun i (hi : i < n1) (h0 : (sw T i).length = 0) => show M = 1 by
      rw [Mq.out]; split; rfl; rw [if_pos (tile_bad (T := T) (i := i) (by rw [← Hn1.out]; exact hi) h0)]
    have hgb := fun k i j (hk : k < 3) (hi : i < (bw [L, T, R] k).length) (hj : j < (sw (bw [L, T, R] k) i).length) (hc : (si (sw (bw [L, T, R] k) i) j).chk ≠ 0) => show M = 1 by
      rw [Mq.out, if_pos (.inr (goodB_bad (bs := [L, T, R]) hk hi hj hc))]
    have hok := fun (hg : ∀ k, k < 3 → ∀ i, i < (bw [L, T, R] k).length → ∀ j, j < (sw (bw [L, T, R] k) i).length → (si (sw (bw [L, T, R] k) i) j).chk = 0) (ht : ∀ i, i < n1 → (sw T i).length ≠ 0) => show M = 0 by
      rw [Mq.out, if_neg, tile_ok (fun i hi => ht i (by rw [Hn1.out]; exact hi))]; rfl
      rintro (h | h)
      · exact e1 h
      · rw [goodB_ok (fun k hk => hg k hk)] at h; cases h
    obtain ⟨B, hBB⟩ : ∃ B, B = [L, T, R] := ⟨_, rfl⟩
    have hB1 : bw B 1 = T := by rw [hBB]; rfl
    have hBl : bw B 1 = T ∧ n1 = (bw B 1).length := ⟨hB1, by rw [hB1]; exact Hn1.out⟩
    rw [← hBB] at hgb hok HB Hs
    rw [← hB1] at htb hok
    rw [hBl.2] at htb hok
    have HTb := Lib.hid htb; have HGb := Lib.hid hgb; have HOk := Lib.hid hok
    obtain ⟨W6, hW6⟩ : ∃ W6, W6 = wc.alloc (.cells #[.slice a0 n0 c0, .slice a1 n1 c1, .slice a2 n2 c2] 63) := ⟨_, rfl⟩
    have x6 : Ext wc W6 := by rw [hW6]; exact (Ext.refl wc).alloc _
    have hat : ∀ k, k < 3 → ∃ a m d, W6.cell? ⟨wc.heap.size, k, none⟩ = some (.slice a m d) ∧ m = (bw B k).length ∧ RR W6 (.slice a m d) d (bw B k) := fun k hk => by
      obtain ⟨ao, n, e1, _, _, _, hat⟩ := (HB.out W6 wc.heap.size _ (XW.out.trans (X5.out.trans x6)) (by rw [hW6]; exact blk_at rfl)).open
      simp only [Value.slice.injEq] at e1
      obtain ⟨rfl, rfl, _⟩ := e1
      obtain ⟨b, o, a, m, d, e2, h⟩ := hat k hk
      simp only [Option.some.injEq, Addr.mk.injEq] at e2
      obtain ⟨rfl, rfl, _⟩ := e2
      rw [Nat.zero_add] at h
      exact ⟨a, m, d, h⟩
    have HAt := Lib.hid hat; have HW6 := Lib.hid hW6; have X6 := Lib.hid (XW.out.trans (X5.out.trans x6))
    have HVd := Lib.hid (fun s w' h => Valid_calls s w' h)
    clear htb hgb hok Mq e1 hBB hB1 hBl hat hW6 x6 HB hm0 hm1 hm2 hc0 hc1 hc2
    go_upto_region 10 with fail
    rw [← HW6.out]
    clear b0 b1 b2 t1
    go_loopw [5, 6, 7] (fun i _ _ wr => ∃ k : Nat, k ≤ 3 ∧ i = .int .i64 k ∧ Hid (Ext W6 wr) ∧ Hid (∀ k', k' < k → ∀ i, i < (bw B k').length → ∀ j, j < (sw (bw B k') i).length → (si (sw (bw B k') i) j).chk = 0) ∧ Hid (1 < k → ∀ i, i < (bw B 1).length → (sw (bw B 1) i).length ≠ 0)) (fun i _ _ _ => 3 - (intOf i).toNat)
    case atStart => exact ⟨0, by omega, rfl, Lib.hid (Ext.refl _), Lib.hid (fun j hj => by omega), Lib.hid (fun h => by omega)⟩
    case round =>
      obtain ⟨k, hk, rfl, HX, HG, HT⟩ := hrel
      by_cases hlt : k < 3
      · obtain ⟨a, m, d, y1, y2, y3⟩ := HAt.out k hlt
        have HY1 := Lib.hid (fun w' (x : Ext W6 w') => x.cell y1)
        have t1 : (k : Int) < 3 := by omega
        have HBk := Lib.hid (fun i j => HGb.out k i j hlt)
        have HSk := Lib.hid (fun i hi j hj => Hs.out k hlt i hi j hj)
        have HTk := Lib.hid (fun (h : k = 1) i (hi : i < (bw B k).length) => HTb.out i (by rw [← h]; exact hi))
        have HTk2 := Lib.hid (show k = 1 → ∀ i, i < (bw B k).length → (sw (bw B k) i).length = 0 → M = 1 from fun h => by subst h; exact HTb.out)
        clear HTk
        obtain ⟨C, hC⟩ : ∃ C, C = bw B k := ⟨_, rfl⟩
        rw [← hC] at y2 y3 HBk HSk HTk2
        obtain ⟨_, _, e1, e2, e3, e4, e5⟩ := y3.open
        simp only [Value.slice.injEq] at e1
        obtain ⟨rfl, rfl, _⟩ := e1
        unfold maxLen at e4
        have HR := Lib.hid e5; have Hm := Lib.hid y2; have HCC := Lib.hid hC
        clear y1 y2 y3 e2 e5 hC
        go_wp2
        go_loopw [6, 7] (fun i _ wr => ∃ j : Nat, j ≤ m ∧ i = .int .i64 j ∧ Hid (Ext W6 wr) ∧ Hid (∀ i, i < j → ∀ j, j < (sw C i).length → (si (sw C i) j).chk = 0) ∧ Hid (k = 1 → ∀ i, i < j → (sw C i).length ≠ 0)) (fun i _ _ => m - (intOf i).toNat)
        case atStart => exact ⟨0, Nat.zero_le _, rfl, HX, Lib.hid (fun j hj => by omega), Lib.hid (fun _ j hj => by omega)⟩
        case round =>
          obtain ⟨j, hj, rfl, HX2, HG2, HT2⟩ := hrel
          have y1 := HY1.out _ HX2.out
          by_cases hlt2 : j < m
          · obtain ⟨b', o', a', m', d', rfl, z1, z2⟩ := HR.out j hlt2
            have HZ1 := Lib.hid (fun w' (x : Ext W6 w') => x.cell z1)
            replace z1 := HX2.out.cell z1
            have t3 : (j : Int) < m := by omega
            obtain ⟨Lr, hL⟩ : ∃ L, L = sw C j := ⟨_, rfl⟩
            have hjm : j < C.length := by rw [← Hm.out]; exact hlt2
            have HBj := Lib.hid (fun i => HBk.out j i hjm)
            have HSj := Lib.hid (fun i hi => HSk.out j hjm i hi)
            have HTj := Lib.hid (fun h => HTk2.out h j hjm)
            rw [← hL] at z2 HBj HSj HTj
            obtain ⟨_, _, f1, f2, f3, f4, f5⟩ := z2.open
            simp only [Value.slice.injEq] at f1
            obtain ⟨rfl, rfl, _⟩ := f1
            unfold maxLen at f4
            have Hl := Lib.hid f2; have HLs := Lib.hid f5; have HLL := Lib.hid hL
            clear z2 f2 f5 hL hjm
            go_upto_region 15 with fail
            go_cut [90] from 78 to 90 (fun x wx => x = .bool (decide (k = 1 ∧ m' = 0)) ∧ wx = wr)
            case first =>
              by_cases hk1 : k = 1
              · have q1 : ((k : Int) == 1) = true := by rw [hk1]; rfl
                obtain ⟨E, hE⟩ : ∃ E, E = ((m' : Int) == 0) := ⟨_, rfl⟩
                have hv : decide (k = 1 ∧ m' = 0) = E := by
                  rw [hE]
                  by_cases e : m' = 0
                  · rw [decide_eq_true ⟨hk1, e⟩, beq_iff_eq.2 (by omega)]
                  · rw [decide_eq_false (by omega), beq_eq_false_iff_ne.2 (by omega)]
                have q2 : ((m' : Int) == 0) = E := hE.symm
                clear hk1 hE
                go_wp2_with fail
                go_meet
                case rel => exact ⟨by rw [hv], rfl⟩
              · have q1 : ((k : Int) == 1) = false := beq_eq_false_iff_ne.2 (by omega)
                have hv : decide (k = 1 ∧ m' = 0) = false := decide_eq_false (by omega)
                clear hk1
                go_wp2_with fail
                go_meet
                case rel => exact ⟨by rw [hv], rfl⟩
            case rest =>
              obtain ⟨rfl, rfl⟩ := hcut
              obtain ⟨V, hV⟩ : ∃ V, V = decide (k = 1 ∧ m' = 0) := ⟨_, rfl⟩
              rw [← hV]
              cases V
              rotate_left
              · obtain ⟨h1, h2⟩ := of_decide_eq_true hV.symm
                have hS := HTj.out h1 (by rw [← Hl.out]; exact h2)
                subst hS
                clear hV h1 h2
                go_wp2
                go_ret
                exact ⟨rfl, X6.out.trans HX2.out⟩
              have HT4 := Lib.hid (show k = 1 → ∀ i, i < j + 1 → (sw C i).length ≠ 0 from fun h i hi => by
                by_cases e : i = j
                · rw [e, ← HLL.out, ← Hl.out]
                  intro h0
                  exact of_decide_eq_false hV.symm ⟨h, h0⟩
                · exact HT2.out h i (by omega))
              clear hV z1 y1
              go_wp2
              go_loopw [7] (fun i wr => ∃ q : Nat, q ≤ m' ∧ i = .int .i64 q ∧ Hid (Ext W6 wr) ∧ Hid (∀ i, i < q → (si Lr i).chk = 0)) (fun i _ => m' - (intOf i).toNat)
              case atStart => exact ⟨0, Nat.zero_le _, rfl, HX2, Lib.hid (fun j hj => by omega)⟩
              case round =>
                obtain ⟨q, hq, rfl, HX3, HG3⟩ := hrel
                have y1 := HY1.out _ HX3.out
                have z1 := HZ1.out _ HX3.out
                by_cases hlt3 : q < m'
                · obtain ⟨b3, o3, rfl, h5⟩ := HLs.out q hlt3
                  obtain ⟨u0, u1, u2, u3, u4⟩ := h5.ext HX3.out
                  have t5 : (q : Int) < m' := by omega
                  have hql : q < Lr.length := by rw [← Hl.out]; exact hlt3
                  have HBq := Lib.hid (HBj.out q hql)
                  obtain ⟨s, hs⟩ : ∃ s, s = si Lr q := ⟨_, rfl⟩
                  have hvl := HVd.out (si Lr q) wr (HSj.out q hql)
                  rw [← hs] at u0 u1 u2 u3 u4 HBq hvl
                  have Hss := Lib.hid hs
                  have hcc := vld_01 s
                  have hvi := vld_iff (s := s)
                  obtain ⟨E, hE⟩ : ∃ E, E = s.vld := ⟨_, rfl⟩
                  rw [← hE] at hvl hcc hvi
                  unfold St.val at hvl
                  have HC := Lib.hid hvl; have HVi := Lib.hid hvi
                  clear hs h5 hE hvl hvi hql
                  go_wp2_with fail
                  refine HC.out.mono ?_
                  rintro e w9 ⟨rfl, x9⟩
                  have X9 := Lib.hid (HX3.out.trans x9)
                  clear x9 HC u0 u1 u2 u3 u4 y1 z1
                  rcases hcc with rfl | rfl
                  · have hS := HBq.out (HVi.out.1 rfl)
                    subst hS
                    go_wp2
                    go_ret
                    exact ⟨rfl, X6.out.trans X9.out⟩
                  · have HG4 := Lib.hid (show ∀ i, i < q + 1 → (si Lr i).chk = 0 from fun i hi => by
                      by_cases e : i = q
                      · rw [e, ← Hss.out]
                        by_cases h0 : s.chk = 0
                        · exact h0
                        · have := HVi.out.2 h0; omega
                      · exact HG3.out i (by omega))
                    go_wp2
                    go_roundw
                    case rel => exact ⟨q + 1, by omega, by go_num, X9, HG4⟩
                    case measure => simp [intOf]; omega
                · obtain rfl : m' = q := by omega
                  have t5 : ¬ (m' : Int) < m' := by omega
                  have HG4 := Lib.hid (show ∀ i, i < j + 1 → ∀ j, j < (sw C i).length → (si (sw C i) j).chk = 0 from fun i hi => by
                    by_cases e : i = j
                    · rw [e, ← HLL.out]; exact fun i hi => HG3.out i (by rw [Hl.out]; exact hi)
                    · exact HG2.out i (by omega))
                  go_wp2
                  go_roundw
                  case rel => exact ⟨j + 1, by omega, by go_num, HX3, HG4, HT4⟩
                  case measure => simp [intOf]; omega
          · obtain rfl : m = j := by omega
            have t3 : ¬ (m : Int) < m := by omega
            have HG3 := Lib.hid (show ∀ k', k' < k + 1 → ∀ i, i < (bw B k').length → ∀ j, j < (sw (bw B k') i).length → (si (sw (bw B k') i) j).chk = 0 from fun k' hk' => by
              by_cases e : k' = k
              · rw [e, ← HCC.out]; exact fun i hi => HG2.out i (by rw [Hm.out]; exact hi)
              · exact HG.out k' (by omega))
            have HT3 := Lib.hid (show 1 < k + 1 → ∀ i, i < (bw B 1).length → (sw (bw B 1) i).length ≠ 0 from fun h => by
              by_cases e : k = 1
              · intro i hi
                have := HT2.out e i
                rw [HCC.out, e] at this
                exact this (by rw [Hm.out, HCC.out, e]; exact hi)
              · exact HT.out (by omega))
            go_wp2
            go_roundw
            case rel => exact ⟨k + 1, by omega, by go_num, HX2, HG3, HT3⟩
            case measure => simp [intOf]; omega
      · obtain rfl : k = 3 := by omega
        have hS := HOk.out HG.out (HT.out (by omega))
        subst hS
        go_wp2
        go_ret
        exact ⟨rfl, X6.out.trans HX.out⟩
end Go.Proofs.Ytlmkcojimhbmiaa
/- ganseyref15.Beside. -/
namespace Go.Proofs.Ytlmkcojimhbmiaa
set_option linter.unusedVariables false
set_option linter.unusedSimpArgs false
set_option maxRecDepth 8000
open Go Go.RowKit

/-- A chart and an error code. -/
def RetCF (w0 : World) (rows : List (List St)) (err : Int) (e : Ending) (w' : World) : Prop := ∃ v c, e = .returned (.tuple #[.agg #[v], .int .i64 err]) ∧ RR w' v c rows ∧ Ext w0 w'
theorem bes_big {bs : List (List (List St))} : big (besRows bs) = true ↔ 31 < (bw bs 0).length ∨ (besRows bs).any (fun r => decide (16 < r.length)) = true := by
  unfold big
  rw [Bool.or_eq_true, decide_eq_true_iff, besRows_len]
theorem besE_ref {bs : List (List (List St))} (h0 : 0 < bs.length) (h : ∀ k, k < bs.length → (bw bs k).length = (bw bs 0).length) : besE bs = if 64 < bs.length ∨ lrg (besRows bs) = 1 then 3 else 0 := by
  have hb := bes_big (bs := bs)
  have hl : lrg (besRows bs) = 1 ↔ big (besRows bs) = true := by unfold lrg; split <;> simp_all
  unfold besE
  rw [if_neg (fun e => by rw [e] at h0; simp at h0), if_neg (by rw [bes_eq h]; simp)]
  by_cases h64 : 64 < bs.length
  · rw [if_pos (.inl h64), if_pos (.inl h64)]
  · by_cases h31 : 31 < (bw bs 0).length
    · rw [if_pos (.inr h31), if_pos (.inr (hl.2 (hb.2 (.inl h31))))]
    · rw [if_neg (by omega)]
      by_cases ha : (besRows bs).any (fun r => decide (16 < r.length)) = true
      · rw [if_pos ha, if_pos (.inr (hl.2 (hb.2 (.inr ha))))]
      · rw [if_neg ha, if_neg]
        rintro (h | h)
        · exact h64 h
        · rcases hb.1 (hl.1 h) with h | h
          · exact h31 h
          · exact ha h
theorem part_bd {bs : List (List (List St))} {i : Nat} (hr : ∀ k, k < bs.length → ∀ i, i < (bw bs k).length → (sw (bw bs k) i).length ≤ 1000) (hi : ∀ k, k < bs.length → i < (bw bs k).length) : ∀ k, k ≤ bs.length → (partB bs i k).flatten.length ≤ 1000 * k
  | 0, _ => by simp [partB]
  | k + 1, hk => by
    rw [partB_succ (by omega), List.flatten_append, List.length_append]
    have := part_bd hr hi k (by omega)
    have := hr k (by omega) i (hi k (by omega))
    have e : [sw (bw bs k) i].flatten.length = (sw (bw bs k) i).length := by simp
    omega
theorem rows_succ (bs : List (List (List St))) (k : Nat) : (List.range (k + 1)).map (rowB bs) = (List.range k).map (rowB bs) ++ [rowB bs k] := by rw [List.range_succ]; simp
set_option maxHeartbeats 8000000 in
theorem RBeside_calls (v : Value) (c : Nat) (bs : List (List (List St))) (w : World) (h : BB w v c bs) (hl : bs.length ≤ 100) (hh : ∀ k, k < bs.length → (bw bs k).length ≤ 1000) (hr : ∀ k, k < bs.length → ∀ i, i < (bw bs k).length → (sw (bw bs k) i).length ≤ 1000) :
    Calls Try.prog 20 #[v] w (RetCF w (besR bs) (besE bs)) := by
  obtain ⟨ao, n, rfl, hn, hc, hcm, hat⟩ := h.open
  unfold maxLen at hcm
  obtain ⟨W, hW⟩ : ∃ W, W = w.alloc (.cells #[.slice none 0 0] 24) := ⟨_, rfl⟩
  have xW : Ext w W := by rw [hW]; exact (Ext.refl w).alloc _
  have hWs : W.heap.size = w.heap.size + 1 := by rw [hW]; simp
  have hres : W.heap[w.heap.size]? = some (Obj.cells #[.slice none 0 0] 24 (0, 0)) := by rw [hW]; exact blk_at rfl
  obtain ⟨W2, hW2⟩ : ∃ W2, W2 = W.alloc (.cells #[.slice none 0 0] 24) := ⟨_, rfl⟩
  have x2 : Ext W W2 := by rw [hW2]; exact (Ext.refl W).alloc _
  have hout : W2.heap[w.heap.size + 1]? = some (Obj.cells #[.slice none 0 0] 24 (0, 0)) := by rw [hW2]; exact blk_at hWs.symm
  have HRes := Lib.hid (fun w' (x : Ext W w') => x.block hres)
  have hbad : ∀ w' e, Ext w w' → besE bs = e → e ≠ 0 → RetCF w (besR bs) (besE bs) (.returned (.tuple #[.agg #[.slice none 0 0], .int .i64 e])) (w'.setCell ⟨w.heap.size, 0, none⟩ (.slice none 0 0)) := fun w' e x he h0 => by
    rw [besR_bad (by omega), he]
    exact ⟨_, 0, rfl, RR.nil _, x.setCell (Nat.le_refl _) _⟩
  have XW := Lib.hid xW; have X2 := Lib.hid x2; have HBad := Lib.hid hbad; have HW := Lib.hid hW; have HW2 := Lib.hid hW2; have HA := Lib.hid hat; have Hn := Lib.hid hn; have HWs := Lib.hid hWs
  have Hr := Lib.hid hr; have Hh := Lib.hid hh; have HOut := Lib.hid hout
  have hn100 : n ≤ 100 := by omega
  clear hat h hn hW hW2 xW x2 hres hout hbad hr hh hWs hl
  go_enter Try.func20, Try.ntmps20
  go_wp2
  rw [← HW.out, ← HW2.out]
  go_loopw [5] (fun i wr => ∃ k : Nat, k ≤ n ∧ i = .int .i64 k ∧ Hid (Ext W2 wr) ∧ Hid (∀ j, j < k → (bw bs j).length = (bw bs 0).length)) (fun i _ => n - (intOf i).toNat)
  case atStart => exact ⟨0, Nat.zero_le _, rfl, Lib.hid (Ext.refl _), Lib.hid (fun j hj => by omega)⟩
  case round =>
    obtain ⟨k, hk, rfl, HX, HG⟩ := hrel
    by_cases hlt : k < n
    · obtain ⟨b, o, a, m, d, rfl, y1, y2, y3⟩ := HA.out k hlt
      obtain ⟨b', o', a0, m0, d0, hbo, z1, z2, z3⟩ := HA.out 0 (by omega)
      obtain ⟨rfl, rfl⟩ : b = b' ∧ o = o' := by simpa using hbo
      rw [Nat.add_zero] at z1
      have xx := XW.out.trans (X2.out.trans HX.out)
      replace y1 := xx.cell y1
      replace z1 := xx.cell z1
      have t3 : (k : Int) < n := by omega
      have t4 : (0 : Int) < n := by omega
      have t5 : 0 < n := by omega
      have Hm := Lib.hid y2; have Hm0 := Lib.hid z2
      clear y2 y3 z2 z3 hbo xx
      by_cases hm : m = m0
      · have t6 : ((m : Int) != (m0 : Int)) = false := by rw [bne, beq_iff_eq.2 (by omega)]; rfl
        have HG2 := Lib.hid (show ∀ j, j < k + 1 → (bw bs j).length = (bw bs 0).length from fun j hj => by
          by_cases e : j = k
          · rw [e, ← Hm.out, ← Hm0.out]; exact hm
          · exact HG.out j (by omega))
        clear hm
        go_wp2
        go_quiet (fail)
        clear y1 z1 t4 t5
        go_wp2
        go_roundw
        case rel => exact ⟨k + 1, by omega, by go_num, Lib.hid (by first | exact HX.out | exact (HX.out.drewN _)), HG2⟩
        case measure => simp [intOf]; omega
      · have t6 : ((m : Int) != (m0 : Int)) = true := by rw [bne, beq_eq_false_iff_ne.2 (by omega)]; rfl
        have H5 := Lib.hid (besE_5 (bs := bs) (k := k) (by have := Hn.out; omega) (by rw [← Hm.out, ← Hm0.out]; exact hm))
        clear hm
        go_wp2
        go_quiet (fail)
        have hxx : Ext W2 (wr.drewN nq) := HX.out.drewN _
        obtain ⟨w3, hw3⟩ : ∃ w3, w3 = wr.drewN nq := ⟨_, rfl⟩
        rw [← hw3] at hxx ⊢
        have hR := HRes.out _ (X2.out.trans hxx)
        have r1 : w3.cell? ⟨w.heap.size, 0, none⟩ = some (.slice none 0 0) := by simp [World.cell?, hR]
        have r2 : w3.frozen? ⟨w.heap.size, 0, none⟩ = false := by simp [World.frozen?, hR]
        have r3 : (w3.setCell ⟨w.heap.size, 0, none⟩ (.slice none 0 0)).cell? ⟨w.heap.size, 0, none⟩ = some (.slice none 0 0) := by simp [World.cell?, blk_one hR _]
        have HF := Lib.hid (HBad.out w3 5 (XW.out.trans (X2.out.trans hxx)) H5.out (by decide))
        have R3 := Lib.hid r3
        clear hR r3 hxx hw3 y1 z1 t4 t5
        go_wp2
        have r3 := R3.out
        exact bodyPost_ret (v := .tuple #[.agg #[.slice none 0 0], .int .i64 5]) (by simp [results, Try.results20, go_sem, r3]) rfl HF.out
    · obtain rfl : n = k := by omega
      obtain ⟨w3, hw3⟩ : ∃ w3 : World, w3 = wr := ⟨_, rfl⟩
      rw [← hw3] at HX ⊢
      have HGa := Lib.hid (show ∀ k, k < bs.length → (bw bs k).length = (bw bs 0).length from fun k hk => HG.out k (by rw [Hn.out]; exact hk))
      have hO := HX.out.block HOut.out
      have HO3 := Lib.hid hO
      have X3 := Lib.hid (X2.out.trans HX.out)
      clear hw3 hlt hk HG hO HX
      by_cases hn0 : n = 0
      · have t1 : ((n : Int) == 0) = true := by rw [hn0]; rfl
        obtain ⟨z1, z2⟩ := besE_nil (bs := bs) (by have := Hn.out; omega)
        have hR := HRes.out _ X3.out
        have r0 : w3.cell? ⟨w.heap.size + 1, 0, none⟩ = some (.slice none 0 0) := by simp [World.cell?, HO3.out]
        have r1 : w3.cell? ⟨w.heap.size, 0, none⟩ = some (.slice none 0 0) := by simp [World.cell?, hR]
        have r2 : w3.frozen? ⟨w.heap.size, 0, none⟩ = false := by simp [World.frozen?, hR]
        have r3 : (w3.setCell ⟨w.heap.size, 0, none⟩ (.slice none 0 0)).cell? ⟨w.heap.size, 0, none⟩ = some (.slice none 0 0) := by simp [World.cell?, blk_one hR _]
        have HF := Lib.hid (show RetCF w (besR bs) (besE bs) (.returned (.tuple #[.agg #[.slice none 0 0], .int .i64 0])) (w3.setCell ⟨w.heap.size, 0, none⟩ (.slice none 0 0)) by
          rw [z1, z2]; exact ⟨_, 0, rfl, RR.nil _, (XW.out.trans X3.out).setCell (Nat.le_refl _) _⟩)
        have R3 := Lib.hid r3
        clear hR r3 z1 z2 hn0
        go_wp2
        have r3 := R3.out
        exact bodyPost_ret (v := .tuple #[.agg #[.slice none 0 0], .int .i64 0]) (by simp [results, Try.results20, go_sem, r3]) rfl HF.out
      have t1 : ((n : Int) == 0) = false := beq_eq_false_iff_ne.2 (by omega)
      obtain ⟨b, o, a0, m0, d0, rfl, z1, z2, z3⟩ := HA.out 0 (by omega)
      rw [Nat.add_zero] at z1
      have HZ1 := Lib.hid (fun w' (x : Ext w w') => x.cell z1)
      have Hm0 := Lib.hid z2
      have hm1000 : m0 ≤ 1000 := by rw [z2]; exact Hh.out 0 (by have := Hn.out; omega)
      have t2 : (0 : Int) < n := by omega
      have t2' : 0 < n := by omega
      have HCO0 := Lib.hid (show CO W w3 (.slice none 0 0) ((List.range 0).map (rowB bs)) from CO.nil X3.out)
      clear z1 z2 z3 hn0
      go_wp2
      go_loopw [6, 7, 8] (fun i _ _ wr => ∃ (k : Nat) (vr : Value), k ≤ m0 ∧ i = .int .i64 k ∧ Hid (CO W wr vr ((List.range k).map (rowB bs))) ∧ Hid (wr.heap[w.heap.size + 1]? = some (Obj.cells #[vr] 24 (0, 0)))) (fun i _ _ _ => m0 - (intOf i).toNat)
      case atStart => exact ⟨0, _, Nat.zero_le _, rfl, HCO0, HO3⟩
      case round =>
        obtain ⟨k, vr, hk, rfl, HC, HO⟩ := hrel
        have y0 := HZ1.out _ (XW.out.trans HC.out.1)
        obtain ⟨va, vn, vc, hvf, hvn⟩ := HC.out.form
        subst hvf
        by_cases hlt : k < m0
        · have t3 : (k : Int) < m0 := by omega
          have HS0 := Lib.hid (show wr.ownsRow wr.heap.size 67 5 (.slice none 0 0) ((partB bs k 0).flatten).length (cells (partB bs k 0).flatten) by simpa [partB, cells] using World.ownsRow_nil wr wr.heap.size 67 5)
          obtain ⟨wk, hwk⟩ : ∃ wk : World, wk = wr := ⟨_, rfl⟩
          rw [← hwk] at HC HO HS0 y0 ⊢
          clear hwk hvn
          go_wp2
          clear y0
          go_loopw [7, 8] (fun s i wr => ∃ j : Nat, j ≤ n ∧ i = .int .i64 j ∧ Hid (wr.ownsRow wk.heap.size 67 5 s ((partB bs k j).flatten).length (cells (partB bs k j).flatten) ∧ Ext wk wr)) (fun _ i _ => n - (intOf i).toNat)
          case atStart => exact ⟨0, Nat.zero_le _, rfl, Lib.hid ⟨HS0.out, Ext.refl _⟩⟩
          case round =>
            obtain ⟨j, hj, rfl, H⟩ := hrel
            by_cases hlt2 : j < n
            · obtain ⟨b', o', a, m, d, hbo, y1, y2, y3⟩ := HA.out j hlt2
              obtain ⟨rfl, rfl⟩ : b = b' ∧ o = o' := by simpa using hbo
              have xx := XW.out.trans (HC.out.1.trans H.out.2)
              replace y1 := xx.cell y1
              have hmj := HGa.out j (by rw [← Hn.out]; exact hlt2)
              rw [← y2, ← Hm0.out] at hmj
              obtain ⟨a', m', e1, e2, e3, e4, e5⟩ := y3.open
              simp only [Value.slice.injEq] at e1
              obtain ⟨rfl, rfl, _⟩ := e1
              obtain ⟨b2, o2, aa, mm, dd, rfl, z1, z2⟩ := e5 k (by omega)
              replace z1 := xx.cell z1
              have HRS := Lib.hid (z2.ext xx)
              have v2 : (j : Int) < n := by omega
              have v3 : (k : Int) < m := by omega
              have hkm : k < m := by omega
              have HPn := Lib.hid (partB_succ (bs := bs) (i := k) (k := j) (by have := Hn.out; omega))
              have hbd := part_bd (bs := bs) (i := k) Hr.out (fun k' hk' => by rw [HGa.out k' hk', ← Hm0.out]; exact hlt) (j + 1) (by have := Hn.out; omega)
              have HBd := Lib.hid hbd
              clear hbo y2 y3 e2 e3 e4 e5 z2 xx hmj hbd
              go_wp2_with (at_builtin; refine app_rs rfl _ _ rfl wk.heap.size _ ((partB bs k j).flatten).length _ rfl H.out.1 _ _ (sw (bw bs j) k) rfl HRS.out ?d1 ?d2 ?_)
              case d1 =>
                have h1 := HBd.out
                rw [HPn.out, List.flatten_append, List.length_append] at h1
                have e : [sw (bw bs j) k].flatten.length = (sw (bw bs j) k).length := by simp
                omega
              case d2 => exact H.out.2.size
              intro v' w' hown hgr
              have HO2 := Lib.hid (show w'.ownsRow wk.heap.size 67 5 v' ((partB bs k (j + 1)).flatten).length (cells (partB bs k (j + 1)).flatten) ∧ Ext wk w' from ⟨by
                rw [HPn.out, List.flatten_append, List.length_append, cells_app]
                simpa using hown, ext_grown2 H.out.2 H.out.1 hgr⟩)
              clear hown hgr y1 z1
              go_wp2
              go_roundw
              case rel => exact ⟨j + 1, by omega, by go_num, HO2⟩
              case measure => simp [intOf]; omega
            · obtain rfl : n = j := by omega
              have hrv := (RV.of_own H.out.1).1
              rw [show (partB bs k n).flatten = rowB bs k by rw [Hn.out, partB_all]] at hrv
              obtain ⟨ra, rn, rc, hrf, hrn⟩ := hrv.form
              subst hrf
              obtain ⟨w5, hw5⟩ : ∃ w5 : World, w5 = wr := ⟨_, rfl⟩
              rw [← hw5] at H hrv ⊢
              have HRV := Lib.hid hrv
              have HC5 := Lib.hid (HC.out.later H.out.2)
              have hA5 := H.out.2.block HO.out
              have HA5 := Lib.hid hA5
              have a1 : w5.cell? ⟨w.heap.size + 1, 0, none⟩ = some (.slice va vn vc) := by simp [World.cell?, hA5]
              have hlen : ((List.range k).map (rowB bs)).length ≤ 100000 := by simp; omega
              clear hw5 hrv hrn hA5 hlt2 hj H
              go_wp2_with (at_builtin; go_loud (refine app_row rfl _ _ rfl W _ ((List.range k).map (rowB bs)) rfl HC5.out _ _ HRV.out w5.heap.size rfl rfl hlen ?_))
              intro v6 w6 hco6 hkeep
              have hA6 := hkeep _ _ _ _ _ HA5.out (by decide)
              obtain ⟨a6, n6, c6, rfl, hn6⟩ := hco6.form
              have b1 : w6.cell? ⟨w.heap.size + 1, 0, none⟩ = some (.slice va vn vc) := by simp [World.cell?, hA6]
              have b2 : w6.frozen? ⟨w.heap.size + 1, 0, none⟩ = false := by simp [World.frozen?, hA6]
              have HN1 := Lib.hid (show CO W (w6.setCell ⟨w.heap.size + 1, 0, none⟩ (.slice a6 n6 c6)) (.slice a6 n6 c6) ((List.range (k + 1)).map (rowB bs)) by
                rw [rows_succ]; exact hco6.setOther (a := ⟨w.heap.size + 1, 0, none⟩) hA6 (by decide) (by decide) (by rw [HWs.out]; exact Nat.le_refl _))
              have HN2 := Lib.hid (blk_one hA6 (.slice a6 n6 c6))
              clear hco6 hkeep hA6 hn6 a1
              go_wp2
              go_roundw
              case rel => exact ⟨k + 1, _, by omega, by go_num, HN1, HN2⟩
              case measure => simp [intOf]; omega
        · obtain rfl : m0 = k := by omega
          have t3 : ¬ (m0 : Int) < m0 := by omega
          have a1 : wr.cell? ⟨w.heap.size + 1, 0, none⟩ = some (.slice va vn vc) := by simp [World.cell?, HO.out]
          have hrows : (List.range m0).map (rowB bs) = besRows bs := by unfold besRows; rw [Hm0.out]
          have hE := besE_ref (bs := bs) (by have := Hn.out; omega) HGa.out
          obtain ⟨cc, hrr⟩ := HC.out.rr
          rw [hrows] at hrr
          have hlg := fun w' (x : Ext wr w') => Large_calls _ cc (besRows bs) w' (hrr.ext x)
          obtain ⟨LG, hLG⟩ : ∃ LG, LG = lrg (besRows bs) := ⟨_, rfl⟩
          have hlgv : LG = 0 ∨ LG = 1 := by rw [hLG]; unfold lrg; split <;> simp
          rw [← hLG] at hlg hE
          rw [← Hn.out] at hE
          have HLg := Lib.hid hlg; have HE := Lib.hid hE; have HRR := Lib.hid hrr
          have XC := Lib.hid HC.out.1
          obtain ⟨w4, hw4⟩ : ∃ w4 : World, w4 = wr := ⟨_, rfl⟩
          rw [← hw4] at HLg HRR HO XC a1 y0 ⊢
          have HCC := Lib.hid (show CO W w4 (.slice va vn vc) (besRows bs) by rw [hw4, ← hrows]; exact HC.out)
          clear hlg hE hrr hrows hLG hvn hw4 HC
          have hbadT : ∀ w5, Ext w4 w5 → besE bs = 3 → RetCF w (besR bs) (besE bs) (.returned (.tuple #[.agg #[.slice none 0 0], .int .i64 3])) (w5.setCell ⟨w.heap.size, 0, none⟩ (.slice none 0 0)) := fun w5 x he => HBad.out w5 3 (XW.out.trans (XC.out.trans x)) he (by decide)
          have HBT := Lib.hid hbadT
          clear hbadT
          have hR4 := HRes.out w4 XC.out
          by_cases hbig : 64 < n
          · have t4 : (64 : Int) < n := by omega
            have hE3 : besE bs = 3 := by rw [HE.out, if_pos (Or.inl hbig)]
            have r1 : w4.cell? ⟨w.heap.size, 0, none⟩ = some (.slice none 0 0) := by simp [World.cell?, hR4]
            have r2 : w4.frozen? ⟨w.heap.size, 0, none⟩ = false := by simp [World.frozen?, hR4]
            have r3 : (w4.setCell ⟨w.heap.size, 0, none⟩ (.slice none 0 0)).cell? ⟨w.heap.size, 0, none⟩ = some (.slice none 0 0) := by simp [World.cell?, blk_one hR4 _]
            have HF := Lib.hid (HBT.out w4 (Ext.refl _) hE3)
            have R3 := Lib.hid r3
            clear hR4 r3 hE3 hlgv
            go_wp2
            have r3 := R3.out
            exact bodyPost_ret (v := .tuple #[.agg #[.slice none 0 0], .int .i64 3]) (by simp [results, Try.results20, go_sem, r3]) rfl HF.out
          · have t4 : ¬ (64 : Int) < n := by omega
            clear hR4
            go_wp2_with fail
            refine (HLg.out w4 (Ext.refl _)).mono ?_
            rintro e w5 ⟨rfl, x5⟩
            have hR5 := HRes.out w5 (XC.out.trans x5)
            have hO5 := x5.block HO.out
            have b1 : w5.cell? ⟨w.heap.size, 0, none⟩ = some (.slice none 0 0) := by simp [World.cell?, hR5]
            have b2 : w5.frozen? ⟨w.heap.size, 0, none⟩ = false := by simp [World.frozen?, hR5]
            have b3 : w5.cell? ⟨w.heap.size + 1, 0, none⟩ = some (.slice va vn vc) := by simp [World.cell?, hO5]
            rcases hlgv with rfl | rfl
            · have hE0 : besE bs = 0 := by rw [HE.out, if_neg (by simp [hbig])]
              have HF := Lib.hid (show RetCF w (besR bs) (besE bs) (.returned (.tuple #[.agg #[.slice va vn vc], .int .i64 0])) (w5.setCell ⟨w.heap.size, 0, none⟩ (.slice va vn vc)) by
                rw [hE0]
                have hcc := ((HCC.out.later x5).base XW.out).setOther (a := ⟨w.heap.size, 0, none⟩) (u' := .slice va vn vc) hR5 (by decide) (by decide) (Nat.le_refl _)
                obtain ⟨c5, hrr⟩ := hcc.rr
                rw [besR, if_pos hE0]
                exact ⟨_, c5, rfl, hrr, hcc.1⟩)
              have R3 := Lib.hid (show (w5.setCell ⟨w.heap.size, 0, none⟩ (.slice va vn vc)).cell? ⟨w.heap.size, 0, none⟩ = some (.slice va vn vc) by simp [World.cell?, blk_one hR5 _])
              clear hR5 hO5 hE0
              go_wp2
              have r3 := R3.out
              exact bodyPost_ret (v := .tuple #[.agg #[.slice va vn vc], .int .i64 0]) (by simp [results, Try.results20, go_sem, r3]) rfl HF.out
            · have hE3 : besE bs = 3 := by rw [HE.out, if_pos (Or.inr rfl)]
              have HF := Lib.hid (HBT.out w5 x5 hE3)
              have R3 := Lib.hid (show (w5.setCell ⟨w.heap.size, 0, none⟩ (.slice none 0 0)).cell? ⟨w.heap.size, 0, none⟩ = some (.slice none 0 0) by simp [World.cell?, blk_one hR5 _])
              clear hR5 hO5 hE3
              go_wp2
              have r3 := R3.out
              exact bodyPost_ret (v := .tuple #[.agg #[.slice none 0 0], .int .i64 3]) (by simp [results, Try.results20, go_sem, r3]) rfl HF.out
end Go.Proofs.Ytlmkcojimhbmiaa
/- Stacks of a motif in plain Lean. -/
namespace Go.Proofs.Ytlmkcojimhbmiaa
set_option linter.unusedVariables false
set_option linter.unusedSimpArgs false
set_option maxRecDepth 8000
open Go Go.RowKit

def stkRow (L T R : List (List St)) (n i : Nat) : List St := (if L.length = 0 then [] else sw L i) ++ (List.replicate n (sw T i)).flatten ++ (if R.length = 0 then [] else sw R i)
def stkOne (L T R : List (List St)) (n : Nat) : List (List St) := (List.range T.length).map (stkRow L T R n)
def stkRows (L T R : List (List St)) (n up : Nat) : List (List St) := (List.replicate up (stkOne L T R n)).flatten
def preS (L T R : List (List St)) (n u i : Nat) : List (List St) := (List.replicate u (stkOne L T R n)).flatten ++ (List.range i).map (stkRow L T R n)
theorem preS_row (L T R : List (List St)) (n u i : Nat) : preS L T R n u (i + 1) = preS L T R n u i ++ [stkRow L T R n i] := by unfold preS; rw [List.range_succ]; simp
theorem preS_next (L T R : List (List St)) (n u : Nat) : preS L T R n (u + 1) 0 = preS L T R n u T.length := by unfold preS stkOne; rw [List.replicate_succ', List.flatten_append]; simp
theorem preS_all (L T R : List (List St)) (n up : Nat) : preS L T R n up 0 = stkRows L T R n up := by unfold preS stkRows; simp
theorem preS_len (L T R : List (List St)) (n i : Nat) : ∀ u, (preS L T R n u i).length = u * T.length + i
  | 0 => by simp [preS]
  | u + 1 => by
    have := preS_len L T R n i u
    unfold preS stkOne at this ⊢
    rw [List.replicate_succ']
    simp only [List.length_append, List.flatten_append, List.length_map, List.length_range, List.flatten_cons, List.flatten_nil, List.length_nil, Nat.succ_mul] at this ⊢
    omega
def stkE (L T R : List (List St)) (n up : Int) : Int :=
  if mchk L T R ≠ 0 then mchk L T R else if n < 1 ∨ up < 1 then 1 else if lrg (stkRows L T R n.toNat up.toNat) = 1 then 3 else (cloads (stkRows L T R n.toNat up.toNat)).1
def stkR (L T R : List (List St)) (n up : Int) : List (List St) := if stkE L T R n up = 0 then stkRows L T R n.toNat up.toNat else []
theorem stkR_bad {L T R : List (List St)} {n up : Int} (h : stkE L T R n up ≠ 0) : stkR L T R n up = [] := by unfold stkR; rw [if_neg h]
theorem mchk_zero {L T R : List (List St)} (h : mchk L T R = 0) : (big L = false ∧ big T = false ∧ big R = false) ∧ (L.length = 0 ∨ L.length = T.length) ∧ (R.length = 0 ∨ R.length = T.length) := by
  unfold mchk at h
  by_cases hs : smallB [L, T, R] = false
  · rw [if_pos hs] at h; exact absurd h (by decide)
  · rw [if_neg hs] at h
    by_cases h5 : (0 < L.length ∧ L.length ≠ T.length) ∨ (0 < R.length ∧ R.length ≠ T.length)
    · rw [if_pos h5] at h; exact absurd h (by decide)
    · refine ⟨?_, by omega, by omega⟩
      unfold smallB at hs
      simp only [List.any_cons, List.any_nil, Bool.or_false] at hs
      revert hs
      cases big L <;> cases big T <;> cases big R <;> simp
theorem sw_in {P : St → Prop} {C : List (List St)} (h : ∀ r ∈ C, ∀ s ∈ r, P s) (i : Nat) : ∀ s ∈ sw C i, P s := by
  by_cases hi : i < C.length
  · exact h _ (sw_mem hi)
  · intro s hs
    unfold sw at hs
    simp [List.getD, List.getElem?_eq_none (by omega : C.length ≤ i)] at hs
theorem stk_in {P : St → Prop} {L T R : List (List St)} (hL : ∀ r ∈ L, ∀ s ∈ r, P s) (hT : ∀ r ∈ T, ∀ s ∈ r, P s) (hR : ∀ r ∈ R, ∀ s ∈ r, P s) (n up : Nat) : ∀ r ∈ stkRows L T R n up, ∀ s ∈ r, P s := by
  intro r hr s hs
  unfold stkRows stkOne at hr
  simp only [List.mem_flatten, List.mem_replicate] at hr
  obtain ⟨x, ⟨_, rfl⟩, hr⟩ := hr
  obtain ⟨i, _, rfl⟩ := List.mem_map.1 hr
  unfold stkRow at hs
  simp only [List.mem_append, List.mem_flatten, List.mem_replicate] at hs
  rcases hs with (hs | ⟨x, ⟨_, rfl⟩, hs⟩) | hs
  · split at hs
    · simp at hs
    · exact sw_in hL i s hs
  · exact sw_in hT i s hs
  · split at hs
    · simp at hs
    · exact sw_in hR i s hs
/-- The row so far: the left edge and j tiles. -/
def rowS (L T : List (List St)) (i j : Nat) : List St := (if L.length = 0 then [] else sw L i) ++ (List.replicate j (sw T i)).flatten
theorem rowS_succ (L T : List (List St)) (i j : Nat) : rowS L T i (j + 1) = rowS L T i j ++ sw T i := by
  unfold rowS; rw [List.replicate_succ', List.flatten_append]; simp
theorem sw_bd {C : List (List St)} (h : big C = false) (i : Nat) : (sw C i).length ≤ 16 := by
  by_cases hi : i < C.length
  · exact (big_bd h).2 i hi
  · unfold sw; simp [List.getD, List.getElem?_eq_none (by omega : C.length ≤ i)]
theorem rowS_len {L T : List (List St)} (hL : big L = false) (hT : big T = false) (i : Nat) : ∀ j, (rowS L T i j).length ≤ 16 + j * 16
  | 0 => by
    have := sw_bd hL i
    unfold rowS
    by_cases h : L.length = 0
    · rw [if_pos h]; simp
    · rw [if_neg h]; simp; omega
  | j + 1 => by
    have := rowS_len hL hT i j
    have := sw_bd hT i
    rw [rowS_succ, List.length_append]
    omega
theorem rowS_all0 {L T R : List (List St)} {n i : Nat} (h : R.length = 0) : stkRow L T R n i = rowS L T i n := by unfold stkRow rowS; rw [if_pos h]; simp
theorem rowS_all1 {L T R : List (List St)} {n i : Nat} (h : R.length ≠ 0) : stkRow L T R n i = rowS L T i n ++ sw R i := by unfold stkRow rowS; rw [if_neg h]
theorem rowS_z0 {L T : List (List St)} {i : Nat} (h : L.length = 0) : rowS L T i 0 = [] := by unfold rowS; rw [if_pos h]; simp
theorem rowS_z1 {L T : List (List St)} {i : Nat} (h : L.length ≠ 0) : rowS L T i 0 = sw L i := by unfold rowS; rw [if_neg h]; simp
end Go.Proofs.Ytlmkcojimhbmiaa
/- Appends as steps of a region that draws its order; ganseyref15.Above. -/
namespace Go.Proofs.Ytlmkcojimhbmiaa
set_option linter.unusedVariables false
set_option linter.unusedSimpArgs false
set_option maxRecDepth 8000
open Go Go.RowKit

theorem step_app_rs {w : World} {ops : Array Oper} {o : Oper} {a : Act} {K : Act → World → Prop} {Q : Exit → Act → World → Prop} {E : Prop}
    (hg : o.guard = none) (s x : Operand) (hop : o.op = Op.call { callee := Callee.builtin Builtin.append, args := #[s, x], argTypes := #[59, 59] })
    (B : Nat) (v : Value) (n : Nat) (xs : List Value) (hs : a.eval s = v) (hown : w.ownsRow B 67 5 v n xs)
    (y : Value) (c : Nat) (l : List St) (hx : a.eval x = y) (hR : RS w y c l)
    (hlen : n + l.length ≤ 1000000) (hB : B ≤ w.heap.size)
    (hK : ∀ v' w', w'.ownsRow B 67 5 v' (n + l.length) (xs ++ cells l) → w.grownBy w' v.ownBlock → K (a.put o.dst v') w') :
    if Region.wanted o (yielded ops a.tmps) = true then Oper.wp Try.prog o a w K Q else E := by
  have hw : Region.wanted o (yielded ops a.tmps) = true := by simp [Region.wanted, hg]
  rw [if_pos hw]
  obtain ⟨i, hi, hzz⟩ := Option.map_eq_some_iff.1 (show (Try.prog.info? 67).map (fun i => (i.zero, i.size, i.bytes)) = some (some (.agg z5), 5, 32) by kernel_rfl)
  simp only [Prod.mk.injEq] at hzz
  obtain ⟨hz, hsz, hb⟩ := hzz
  obtain ⟨ao, rfl, hl, hm, hrest⟩ := hR
  have hok : ∀ ad : Addr, ao = some ad → (∀ j u, (cells l)[j]? = some u → w.cell? (ad.add j) = some u) → Oper.wp Try.prog o a w K Q := fun ad had hn => by
    subst had
    obtain ⟨v', w', hrun, r1, r2, _⟩ := run_append_own (P := Try.prog) (w := w) B 59 o.type 67 i (.agg z5) 5 32 Try.underlying59 hi hz hsz hb rfl (by decide) v n xs hown ad l.length c (cells l) (by rw [cells_len]) hn (cs_one l) (by unfold maxLen; omega) (by omega) hB
    unfold Oper.wp
    simp [execOp, hop, resolve, invoke, builtin, hs, hx, hrun, Result.andThen]
    exact hK _ w' r1 r2
  rcases hrest with h0 | ⟨b, q, h1, h2⟩
  · subst h0
    cases ao with
    | none =>
      have hrun := run_append_none_c (P := Try.prog) (w := w) B 59 o.type 67 i 5 Try.underlying59 hi v n c xs hown
      have hx' : a.eval x = .slice none 0 c := hx
      unfold Oper.wp
      simp [execOp, hop, resolve, invoke, builtin, hs, hx', hrun, Result.andThen]
      exact hK _ w (by simpa [cells] using hown) (World.grownBy.refl _ _)
    | some ad => exact hok ad rfl (fun j u h => by simp [cells] at h)
  · exact hok _ h1 (RS.news h2)
/-- 'rows = append(rows, row)' as a step. -/
theorem step_app_row {w : World} {ops : Array Oper} {o : Oper} {a : Act} {K : Act → World → Prop} {Q : Exit → Act → World → Prop} {E : Prop}
    (hg : o.guard = none) (s x : Operand) (hop : o.op = Op.call { callee := Callee.builtin Builtin.append, args := #[s, x], argTypes := #[22, 22] })
    (wb : World) (v : Value) (rows : List (List St)) (hs : a.eval s = v) (hco : CO wb w v rows) (u : Value) (l : List St) (hu : RV w u l)
    (g : Nat) (hx : a.eval x = .slice (some ⟨g, 0, none⟩) 1 1) (hgw : g = w.heap.size) (hlen : rows.length ≤ 100000)
    (hK : ∀ v' w', CO wb w' v' (rows ++ [l]) → (∀ (b : Nat) (cs : Array Value) (t : TypeId) (q : Nat × Nat), w.heap[b]? = some (Obj.cells cs t q) → t ≠ 59 → w'.heap[b]? = some (Obj.cells cs t q)) → K (a.put o.dst v') w') :
    if Region.wanted o (yielded ops a.tmps) = true then Oper.wp Try.prog o a (w.alloc (.cells #[u] 59)) K Q else E := by
  have hw : Region.wanted o (yielded ops a.tmps) = true := by simp [Region.wanted, hg]
  rw [if_pos hw]
  obtain ⟨h1, vs, h2, h3⟩ := hco
  subst hgw
  have hvl : vs.length = rows.length := by have := h2.1; omega
  have h1u : ∀ y ∈ [u], y.oneCell' = true := by
    intro y hy
    obtain rfl := List.mem_singleton.1 hy
    obtain ⟨a', n', c', rfl, _⟩ := hu.form
    rfl
  have xa : Ext w (w.alloc (.cells #[u] 59)) := (Ext.refl w).alloc _
  obtain ⟨i, hi, hz0, hz1, hz2⟩ := info_parts eiRows.info
  have hnew : ∀ j y, [u][j]? = some y → (w.alloc (.cells #[u] 59)).cell? ((⟨w.heap.size, 0, none⟩ : Addr).add j) = some y := fun j y hj => by
    have hj0 : j = 0 := by have := (List.getElem?_eq_some_iff.1 hj).1; simpa using this
    subst hj0
    obtain rfl : u = y := by simpa using hj
    rw [show (⟨w.heap.size, 0, none⟩ : Addr).add 0 = ⟨w.heap.size, 0, none⟩ from rfl, World.cell?_alloc_at (hn := rfl)]; rfl
  obtain ⟨v', w', hrun, ho, hgr, _⟩ := run_append_own (P := Try.prog) (w := w.alloc (.cells #[u] 59)) wb.heap.size 22 o.type 59 i _ 1 _ eiRows.und hi hz0 hz1 hz2 rfl (by decide) v rows.length vs (own_ext h2 xa) ⟨w.heap.size, 0, none⟩ 1 1 [u] (by simp) hnew h1u (by unfold maxLen; omega) (show (rows.length + 1) * 24 ≤ _ by omega) (Nat.le_trans h1.size xa.size)
  unfold Oper.wp
  simp [execOp, hop, resolve, invoke, builtin, hs, hx, hrun, Result.andThen]
  have hst : 67 ≠ 59 := by decide
  refine hK v' w' ⟨?_, vs ++ [u], by simpa using ho, fun i hi => ?_⟩ (fun b cs t q hb ht => blk_grown (own_ext h2 xa) hgr (xa.block hb) ht)
  · refine (h1.trans xa).grown hgr fun k hk => ?_
    obtain ⟨_, ⟨hv, _⟩ | ⟨g', cap, cur, hv, hBg, _⟩⟩ := h2
    · rw [hv] at hk; cases hk
    · rw [hv] at hk; have : g' = k := by simpa [Value.ownBlock] using hk
      omega
  · rw [List.length_append, List.length_singleton] at hi
    by_cases e : i < rows.length
    · obtain ⟨u', a', b'⟩ := h3 i e
      rw [sw_app _ _ e]
      exact ⟨u', by rw [List.getElem?_append_left (by omega)]; exact a', (b'.ext xa).grown (own_ext h2 xa) hgr hst⟩
    · obtain rfl : i = rows.length := by omega
      rw [sw_new]
      exact ⟨u, by rw [List.getElem?_append_right (by omega)]; simp [hvl], (hu.ext xa).grown (own_ext h2 xa) hgr hst⟩
theorem own_zero {w : World} {B g z : Nat} {e : TypeId} (hb : w.heap[g]? = some (.cells #[] e (0, 0))) (hB : B ≤ g) : w.ownsRow B e z (.slice (some ⟨g, 0, none⟩) 0 0) 0 [] :=
  ⟨by simp, .inr ⟨g, 0, #[], rfl, hB, hb, Nat.le_refl _, by unfold maxLen; omega, by simp, by simp⟩⟩
theorem own_wet {w w' : World} {B n z : Nat} {e : TypeId} {v : Value} {xs : List Value} (h : w.ownsRow B e z v n xs) (x : Ext w w') : w'.ownsRow B e z v n xs := by
  obtain ⟨h1, h2 | ⟨g, cap, cur, h3, h4, h5, h6⟩⟩ := h
  · exact ⟨h1, .inl h2⟩
  · exact ⟨h1, .inr ⟨g, cap, cur, h3, h4, x.block h5, h6⟩⟩
theorem flat_bd {M : Nat} : ∀ bs : List (List (List St)), (∀ x ∈ bs, x.length ≤ M) → bs.flatten.length ≤ bs.length * M
  | [], _ => by simp
  | x :: bs, h => by
    have h1 := h x (by simp)
    have h2 := flat_bd bs (fun y hy => h y (by simp [hy]))
    simp only [List.flatten_cons, List.length_append, List.length_cons, Nat.succ_mul]
    omega
theorem flat_mem : ∀ (bs : List (List (List St))) (x), x ∈ bs → x.length ≤ bs.flatten.length
  | y :: bs, x, h => by
    simp only [List.flatten_cons, List.length_append]
    rcases List.mem_cons.1 h with rfl | h
    · omega
    · have := flat_mem bs x h; omega
theorem aboE_ref {bs : List (List (List St))} : aboE bs = if 64 < bs.length ∨ lrg bs.flatten = 1 then 3 else 0 := by
  have hl : lrg bs.flatten = 1 ↔ big bs.flatten = true := by unfold lrg; split <;> simp_all
  have hb : big bs.flatten = true ↔ smallB bs = false ∨ 31 < bs.flatten.length := by
    unfold big smallB
    simp only [Bool.or_eq_true, decide_eq_true_iff, List.any_eq_true, List.mem_flatten, Bool.not_eq_false']
    constructor
    · rintro (h | ⟨r, ⟨x, hx, hr⟩, h16⟩)
      · exact .inr h
      · exact .inl ⟨x, hx, by unfold big; simp only [Bool.or_eq_true, List.any_eq_true, decide_eq_true_iff]; exact .inr ⟨r, hr, h16⟩⟩
    · rintro (⟨x, hx, h⟩ | h)
      · unfold big at h
        simp only [Bool.or_eq_true, List.any_eq_true, decide_eq_true_iff] at h
        rcases h with h | ⟨r, hr, h16⟩
        · exact .inl (Nat.lt_of_lt_of_le h (flat_mem bs x hx))
        · exact .inr ⟨r, ⟨x, hx, hr⟩, h16⟩
      · exact .inl h
  unfold aboE
  by_cases h64 : 64 < bs.length
  · rw [if_pos (.inl h64), if_pos (.inl h64)]
  · by_cases hs : smallB bs = false
    · rw [if_pos (.inr hs), if_pos (.inr (hl.2 (hb.2 (.inl hs))))]
    · rw [if_neg (by rintro (h | h); exact h64 h; exact hs h)]
      by_cases h31 : 31 < bs.flatten.length
      · rw [if_pos h31, if_pos (.inr (hl.2 (hb.2 (.inr h31))))]
      · rw [if_neg h31, if_neg]
        rintro (h | h)
        · exact h64 h
        · rcases hb.1 (hl.1 h) with h | h
          · exact hs h
          · exact h31 h
theorem aboR_bad {bs : List (List (List St))} (h : aboE bs ≠ 0) : aboR bs = [] := by unfold aboR; rw [if_neg h]
end Go.Proofs.Ytlmkcojimhbmiaa
