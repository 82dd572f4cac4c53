/- Contract of the law's exchanged. -/
import Derived.Test.YtbappfeojdehgaaAc
import Derived.Test.YtbappfeojdehgaaLibb
import Derived.Outline
namespace Go.Proofs.Ytbappfeojdehgaa
set_option linter.unusedVariables false
set_option linter.unusedSimpArgs false
set_option maxRecDepth 8000
open Go Go.RowKit

theorem exch_short {xs : List Int} {i : Nat} (h : xs.length ≤ i + 1) : exch xs i = xs := by unfold exch; rw [if_pos h]
theorem exch_two {xs : List Int} {i : Nat} (h : i + 1 < xs.length) (hd : 1 < ((gi xs i).natAbs : Int) - (gi xs (i + 1)).natAbs ∨ ((gi xs i).natAbs : Int) - (gi xs (i + 1)).natAbs < -1) : exch xs i = (xs.set i (gi xs (i + 1))).set (i + 1) (gi xs i) := by
  unfold exch; rw [if_neg (by omega), if_pos hd]
theorem exch_three {xs : List Int} {i : Nat} (h : i + 2 < xs.length) (hc : gi xs (i + 2) = gi xs i) (hd : ((gi xs i).natAbs : Int) - (gi xs (i + 1)).natAbs = 1 ∨ ((gi xs i).natAbs : Int) - (gi xs (i + 1)).natAbs = -1) (hs : (0 < gi xs i) ↔ (0 < gi xs (i + 1))) : exch xs i = ((xs.set i (gi xs (i + 1))).set (i + 1) (gi xs i)).set (i + 2) (gi xs (i + 1)) := by
  unfold exch; rw [if_neg (by omega), if_neg (by omega), if_pos ⟨h, hc, hd, decide_eq_decide.2 hs⟩]
theorem exch_none {xs : List Int} {i : Nat} (h : ¬ (1 < ((gi xs i).natAbs : Int) - (gi xs (i + 1)).natAbs ∨ ((gi xs i).natAbs : Int) - (gi xs (i + 1)).natAbs < -1)) (hn : ¬ (i + 2 < xs.length ∧ gi xs (i + 2) = gi xs i ∧ (((gi xs i).natAbs : Int) - (gi xs (i + 1)).natAbs = 1 ∨ ((gi xs i).natAbs : Int) - (gi xs (i + 1)).natAbs = -1) ∧ ((0 < gi xs i) ↔ (0 < gi xs (i + 1))))) : exch xs i = xs := by
  unfold exch
  by_cases h0 : xs.length ≤ i + 1
  · rw [if_pos h0]
  · rw [if_neg h0, if_neg h, if_neg (fun hh => hn ⟨hh.1, hh.2.1, hh.2.2.1, decide_eq_decide.1 hh.2.2.2⟩)]

set_option maxHeartbeats 2000000 in
theorem exchanged_calls (i : Nat) (v : Value) (c : Nat) (xs : List Int) (w : World) (h : IS .i64 w v c xs) (hi : i ≤ 1000) (hl : xs.length ≤ 1000) (hb : ∀ j, j < xs.length → -100 ≤ gi xs j ∧ gi xs j ≤ 100) :
    Calls Try.prog 39 #[v, .int .i64 i] w (RetX .i64 w (exch xs i)) := by
  obtain ⟨a1, n, c', rfl, hn, rfl, h1⟩ := h.out
  have hlen := h1.len.2.2
  rw [← hn] at hl hb hlen
  have hcm : c' ≤ maxLen := by obtain ⟨_, h2, _⟩ := h1.open; exact h2
  unfold maxLen at hcm
  have H1 := Lib.hid h1; have HN := Lib.hid hn; have HB := Lib.hid hb
  clear h h1 hn hb
  go_enter Try.func39, Try.ntmps39
  go_wp2_with (at_builtin; refine app_own eiInt rfl _ _ rfl w.heap.size _ 0 [] rfl (World.ownsRow_made w #[] 0 (Nat.le_refl _) (by unfold maxLen; omega) rfl) _ _ _ rfl (H1.out.ext ((Ext.refl w).alloc _)) (onesI _) ?c4 ?c5 ?c6 ?_)
  case c4 => have := HN.out; simp; omega
  case c5 => have := HN.out; simp; omega
  case c6 => simp
  intro v1 w1 hown1 hb1
  have x1 : Ext w w1 := Below.trans ((Ext.refl w).alloc _) hb1
  have hown2 : w1.ownsRow w.heap.size 3 1 v1 n (xs.map (Value.int .i64)) := by
    have := hown1
    simp only [List.length_map, Nat.zero_add, List.nil_append, ← HN.out] at this
    exact this
  have X1 := Lib.hid x1
  clear hown1 hb1 x1
  by_cases h0 : n = 0
  · subst h0
    obtain ⟨c2, hI⟩ := IS.of_own hown2
    obtain ⟨a2, n2, c2', rfl, hn2, rfl, hI⟩ := hI.out
    obtain rfl : n2 = 0 := by rw [hn2, ← HN.out]
    have HI := Lib.hid hI
    clear hown2 hI hn2
    have e1 : (0 : Int) ≤ (i : Int) + 1 := by omega
    go_wp2
    go_ret
    exact ⟨_, c2', rfl, by rw [exch_short (by rw [← HN.out]; omega)]; exact HI.out, X1.out⟩
  · obtain ⟨g, cap, f, rfl, hBg, hg, hnc, hcmx, hrow, hf⟩ := own_open hown2 (by omega)
    have hfx : ∀ j, j < n → f j = .int .i64 (gi xs j) := fun j hj => hf j _ (by rw [List.getElem?_map, gi_some (by rw [← HN.out]; exact hj)]; rfl)
    have hend : ∀ (w' : World) (f' : Nat → Value) ys, w'.rowIs g 3 cap f' → ys.length = n → (∀ j, j < n → f' j = .int .i64 (gi ys j)) → IS .i64 w' (.slice (some ⟨g, 0, none⟩) n cap) cap ys := fun w' f' ys hr hy hj => IS.mk hy.symm hnc hcmx (fun j hj' => by rw [Nat.zero_add, hr.cell (by omega), hj j hj'])
    have Hrow := Lib.hid hrow; have Hfx := Lib.hid hfx; have Hend := Lib.hid hend
    unfold maxLen at hcmx
    clear hown2 hrow hf hfx hend
    by_cases h2 : n ≤ i + 1
    · have e1 : (n : Int) ≤ (i : Int) + 1 := by omega
      go_wp2
      go_ret
      exact ⟨_, cap, rfl, by rw [exch_short (by rw [← HN.out]; omega)]; exact Hend.out _ _ _ Hrow.out HN.out.symm Hfx.out, X1.out⟩
    · have e1 : ¬ (n : Int) ≤ (i : Int) + 1 := by omega
      have e2 : i < n := by omega
      have e3 : i + 1 < n := by omega
      obtain ⟨a, ha⟩ : ∃ a, a = gi xs i := ⟨_, rfl⟩
      obtain ⟨b, hb⟩ : ∃ b, b = gi xs (i + 1) := ⟨_, rfl⟩
      have ca : w1.cell? ⟨g, i, none⟩ = some (.int .i64 a) := by rw [Hrow.out.cell (by omega), Hfx.out i e2, ha]
      have cb : w1.cell? ⟨g, i + 1, none⟩ = some (.int .i64 b) := by rw [Hrow.out.cell (by omega), Hfx.out (i + 1) e3, hb]
      have fa : w1.frozen? ⟨g, i, none⟩ = false := Hrow.out.frozen _
      have fb : w1.frozen? ⟨g, i + 1, none⟩ = false := Hrow.out.frozen _
      have ba := HB.out i e2
      have bb := HB.out (i + 1) e3
      rw [← ha] at ba
      rw [← hb] at bb
      have HA := Lib.hid ha; have HBb := Lib.hid hb
      obtain ⟨A, hA⟩ : ∃ A : Int, A = a.natAbs := ⟨_, rfl⟩
      obtain ⟨B, hB⟩ : ∃ B : Int, B = b.natAbs := ⟨_, rfl⟩
      have ma : (if a < -a then -a else a) = A := by split <;> omega
      have mb : (if b < -b then -b else b) = B := by split <;> omega
      have bA : 0 ≤ A ∧ A ≤ 100 := by omega
      have bB : 0 ≤ B ∧ B ≤ 100 := by omega
      have HAA := Lib.hid hA; have HBB := Lib.hid hB
      clear ha hb hA hB
      have t1 : IntKind.i64.wrap ((i : Int) + 1) = (i : Int) + 1 := IntWalk.i64_in _ ⟨by omega, by omega⟩
      have t2 : ((i : Int) + 1).toNat = i + 1 := by omega
      have t3 : (0 : Int) ≤ (i : Int) + 1 := by omega
      have t4 : (i : Int) + 1 < n := by omega
      have t5 : (i : Int) < n := by omega
      go_wp2
      go_quiet (fail)
      clear t1 t2 t3 t4 t5
      obtain ⟨wq, hwq⟩ : ∃ wq, wq = w1.drewN nq := ⟨_, rfl⟩
      have xq : Ext w1 wq := by rw [hwq]; exact (Ext.refl w1).drewN nq
      rw [← hwq]
      have Xq := Lib.hid (X1.out.trans xq)
      have Rq := Lib.hid (xq.row Hrow.out)
      replace ca := xq.cell ca; replace cb := xq.cell cb
      replace fa : wq.frozen? ⟨g, i, none⟩ = false := Rq.out.frozen _
      replace fb : wq.frozen? ⟨g, i + 1, none⟩ = false := Rq.out.frozen _
      clear hwq xq X1 Hrow
      by_cases d1 : 1 < A - B ∨ A - B < -1
      · have ht := exch_two (xs := xs) (i := i) (by rw [← HN.out]; omega) (by rw [← HA.out, ← HBb.out]; have := HAA.out; have := HBB.out; omega)
        rw [← HA.out, ← HBb.out] at ht
        have HT := Lib.hid ht
        clear ht
        have fin : Hid (RetX .i64 w (exch xs i) (.returned (.slice (some ⟨g, 0, none⟩) n cap)) ((wq.setCell ⟨g, i, none⟩ (.int .i64 b)).setCell ⟨g, i + 1, none⟩ (.int .i64 a))) := by
          refine ⟨_, cap, rfl, ?_, (Xq.out.setCell hBg _).setCell hBg _⟩
          rw [HT.out]
          refine Hend.out _ _ _ ((Rq.out.set i _).set (i + 1) _) (by simp [HN.out]) (fun j hj => ?_)
          rw [gi_set _ _ _ _ (by rw [List.length_set, ← HN.out]; omega), gi_set _ _ _ _ (by rw [← HN.out]; omega)]
          by_cases q1 : j = i + 1
          · simp [q1]
          · by_cases q2 : j = i
            · simp [q2]
            · simp only [if_neg q1, if_neg q2]; exact Hfx.out j hj
        rcases d1 with d1 | d1
        · go_wp2
          go_ret
          exact fin.out
        · have d2 : ¬ 1 < A - B := by omega
          go_wp2
          go_ret
          exact fin.out
      · have d2 : ¬ 1 < A - B := by omega
        have d3 : ¬ A - B < -1 := by omega
        clear d1
        have same : ¬ (i + 2 < n ∧ gi xs (i + 2) = a ∧ (A - B = 1 ∨ A - B = -1) ∧ (0 < a ↔ 0 < b)) → RetX .i64 w (exch xs i) (.returned (.slice (some ⟨g, 0, none⟩) n cap)) wq := fun hno => by
          have ht := exch_none (xs := xs) (i := i) (by rw [← HA.out, ← HBb.out]; have := HAA.out; have := HBB.out; omega) (by rw [← HA.out, ← HBb.out, ← HN.out, ← HAA.out, ← HBB.out]; exact hno)
          exact ⟨_, cap, rfl, by rw [ht]; exact Hend.out _ _ _ Rq.out HN.out.symm Hfx.out, Xq.out⟩
        have Same := Lib.hid same
        clear same
        by_cases k1 : i + 2 < n
        · obtain ⟨c, hc⟩ : ∃ c, c = gi xs (i + 2) := ⟨_, rfl⟩
          have cc : wq.cell? ⟨g, i + 2, none⟩ = some (.int .i64 c) := by rw [Rq.out.cell (by omega), Hfx.out (i + 2) k1, hc]
          have fc : wq.frozen? ⟨g, i + 2, none⟩ = false := Rq.out.frozen _
          have HC := Lib.hid hc
          clear hc
          have k1' : (i : Int) + 2 < n := by omega
          by_cases k2 : c = a
          · by_cases k3 : A - B = 1 ∨ A - B = -1
            · by_cases k4 : (0 < a ↔ 0 < b)
              · have ht := exch_three (xs := xs) (i := i) (by rw [← HN.out]; omega) (by rw [← HA.out, ← HC.out]; exact k2) (by rw [← HA.out, ← HBb.out]; have := HAA.out; have := HBB.out; omega) (by rw [← HA.out, ← HBb.out]; exact k4)
                rw [← HA.out, ← HBb.out] at ht
                have HT := Lib.hid ht
                clear ht
                have fin : Hid (RetX .i64 w (exch xs i) (.returned (.slice (some ⟨g, 0, none⟩) n cap)) (((wq.setCell ⟨g, i, none⟩ (.int .i64 b)).setCell ⟨g, i + 1, none⟩ (.int .i64 a)).setCell ⟨g, i + 2, none⟩ (.int .i64 b))) := by
                  refine ⟨_, cap, rfl, ?_, ((Xq.out.setCell hBg _).setCell hBg _).setCell hBg _⟩
                  rw [HT.out]
                  refine Hend.out _ _ _ (((Rq.out.set i _).set (i + 1) _).set (i + 2) _) (by simp [HN.out]) (fun j hj => ?_)
                  rw [gi_set _ _ _ _ (by rw [List.length_set, List.length_set, ← HN.out]; omega), gi_set _ _ _ _ (by rw [List.length_set, ← HN.out]; omega), gi_set _ _ _ _ (by rw [← HN.out]; omega)]
                  by_cases q0 : j = i + 2
                  · simp [q0]
                  · by_cases q1 : j = i + 1
                    · simp [q1]
                    · by_cases q2 : j = i
                      · simp [q2]
                      · simp only [if_neg q0, if_neg q1, if_neg q2]; exact Hfx.out j hj
                have k2' : (c == a) = true := beq_iff_eq.2 k2
                clear k2
                have s1 : (decide (0 < a) == decide (0 < b)) = true := by rw [beq_iff_eq]; exact decide_eq_decide.2 k4
                clear k4
                by_cases k5 : A - B = 1
                · have k6 : (A - B == 1) = true := beq_iff_eq.2 k5
                  clear k5 k3
                  go_wp2
                  go_ret
                  exact fin.out
                · have k6 : (A - B == 1) = false := beq_eq_false_iff_ne.2 k5
                  have k7 : (A - B == -1) = true := beq_iff_eq.2 (by omega)
                  clear k5 k3
                  go_wp2
                  go_ret
                  exact fin.out
              · have SS := Lib.hid (Same.out (fun h => k4 h.2.2.2))
                have k2' : (c == a) = true := beq_iff_eq.2 k2
                have s1 : (decide (0 < a) == decide (0 < b)) = false := by rw [beq_eq_false_iff_ne]; exact fun e => k4 (decide_eq_decide.1 e)
                clear k2 k4 Same
                by_cases k5 : A - B = 1
                · have k6 : (A - B == 1) = true := beq_iff_eq.2 k5
                  clear k5 k3
                  go_wp2
                  go_ret
                  exact SS.out
                · have k6 : (A - B == 1) = false := beq_eq_false_iff_ne.2 k5
                  have k7 : (A - B == -1) = true := beq_iff_eq.2 (by omega)
                  clear k5 k3
                  go_wp2
                  go_ret
                  exact SS.out
            · have SS := Lib.hid (Same.out (fun h => k3 h.2.2.1))
              have k2' : (c == a) = true := beq_iff_eq.2 k2
              have k6 : (A - B == 1) = false := beq_eq_false_iff_ne.2 (fun e => k3 (.inl e))
              have k7 : (A - B == -1) = false := beq_eq_false_iff_ne.2 (fun e => k3 (.inr e))
              clear k2 k3 Same
              go_wp2
              go_ret
              exact SS.out
          · have SS := Lib.hid (Same.out (fun h => k2 (by rw [HC.out]; exact h.2.1)))
            have k2' : (c == a) = false := beq_eq_false_iff_ne.2 k2
            clear k2 Same
            go_wp2
            go_ret
            exact SS.out
        · have SS := Lib.hid (Same.out (fun h => k1 h.1))
          have k1' : ¬ (i : Int) + 2 < n := by omega
          clear Same k1
          go_wp2
          go_ret
          exact SS.out
end Go.Proofs.Ytbappfeojdehgaa
