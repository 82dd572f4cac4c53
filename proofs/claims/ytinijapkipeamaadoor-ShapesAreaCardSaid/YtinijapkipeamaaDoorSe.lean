/- Contract of charts.checkRows. -/
import Derived.Test.YtinijapkipeamaaDoorSd
import Derived.Deep.RegionHeld3
namespace Go.Proofs.YtinijapkipeamaaDoor
set_option linter.unusedVariables false
set_option linter.unusedSimpArgs false
set_option maxRecDepth 8000
open Go Go.RowKit

theorem cerr_long {rows : List (List St)} (h : 31 < rows.length) : cerr rows = 3 := by unfold cerr; rw [if_pos h]
theorem cerr_even {rows : List (List St)} (h : rows.length ≤ 31) (h2 : rows.length % 2 = 0) : cerr rows = 1 := by unfold cerr; rw [if_neg (by omega), if_pos h2]
theorem cerr_row {rows : List (List St)} (h : rows.length ≤ 31) (h2 : rows.length % 2 = 1) {k : Nat} (hk : k < rows.length) (hg : ∀ i, i < k → rchk (sw rows i) = 0) (hb : rchk (sw rows k) ≠ 0) : cerr rows = rchk (sw rows k) := by
  have := ferr_at rows k hk hg hb
  unfold cerr; rw [if_neg (by omega), if_neg (by omega), this, if_pos hb]
theorem cerr_fit {rows : List (List St)} (h : rows.length ≤ 31) (h2 : rows.length % 2 = 1) (hg : ∀ i, i < rows.length → rchk (sw rows i) = 0) {k : Nat} (hk : k + 1 < rows.length) (hb : rneed (sw rows (k + 1)) ≠ rmake (sw rows k)) : cerr rows = 14 := by
  unfold cerr
  rw [if_neg (by omega), if_neg (by omega), ferr_ok rows hg, if_neg (by omega), if_neg]
  unfold fitB
  rw [List.all_eq_true]
  intro hh
  have := hh k (List.mem_range.2 (by omega))
  exact hb (by simpa using this)
theorem cerr_ok {rows : List (List St)} (h : rows.length ≤ 31) (h2 : rows.length % 2 = 1) (hg : ∀ i, i < rows.length → rchk (sw rows i) = 0) (hf : ∀ k, k + 1 < rows.length → rneed (sw rows (k + 1)) = rmake (sw rows k)) : cerr rows = 0 := by
  unfold cerr
  rw [if_neg (by omega), if_neg (by omega), ferr_ok rows hg, if_neg (by omega), if_pos]
  unfold fitB
  rw [List.all_eq_true]
  intro k hk
  have := List.mem_range.1 hk
  simpa using hf k (by omega)

set_option maxHeartbeats 4000000 in
theorem checkRows_calls (v : Value) (c : Nat) (rows : List (List St)) (w : World) (h : RR w v c rows) : Calls Tryd.prog 53 #[v] w fun e w' => e = .returned (.int .i64 (cerr rows)) ∧ Ext w w' := by
  obtain ⟨ao, n, rfl, hn, hc, hcm, hat⟩ := h.open
  unfold maxLen at hcm
  clear h
  by_cases h31 : 31 < n
  · have hr := Lib.hid (cerr_long (rows := rows) (by omega))
    have h31' : (31 : Int) < (n : Int) := by omega
    clear hn hat h31
    go_enter Tryd.func53, Tryd.ntmps53
    go_wp2
    go_ret
    exact ⟨ret_int hr.out.symm, Ext.refl _⟩
  have h31' : ¬ (31 : Int) < (n : Int) := by omega
  by_cases h2 : n % 2 = 0
  · have hr := Lib.hid (cerr_even (rows := rows) (by omega) (by omega))
    have h2' : ((n : Int) % 2 == 0) = true := by rw [beq_iff_eq]; omega
    clear hn hat h31 h2
    go_enter Tryd.func53, Tryd.ntmps53
    go_wp2
    go_ret
    exact ⟨ret_int hr.out.symm, Ext.refl _⟩
  have h2' : ((n : Int) % 2 == 0) = false := by rw [beq_eq_false_iff_ne]; omega
  have hrow : ∀ k, k < n → (∀ i, i < k → rchk (sw rows i) = 0) → rchk (sw rows k) ≠ 0 → cerr rows = rchk (sw rows k) := fun k hk hg hb => cerr_row (by omega) (by omega) (by omega) hg hb
  have hfit : (∀ i, i < n → rchk (sw rows i) = 0) → ∀ k, k + 1 < n → rneed (sw rows (k + 1)) ≠ rmake (sw rows k) → cerr rows = 14 := fun hg k hk hb => cerr_fit (by omega) (by omega) (fun i hi => hg i (by omega)) (by omega) hb
  have hok : (∀ i, i < n → rchk (sw rows i) = 0) → (∀ k, k + 1 < n → rneed (sw rows (k + 1)) = rmake (sw rows k)) → cerr rows = 0 := fun hg hf => cerr_ok (by omega) (by omega) (fun i hi => hg i (by omega)) (fun k hk => hf k (by omega))
  obtain ⟨R, hR⟩ : ∃ R, R = cerr rows := ⟨_, rfl⟩
  rw [← hR] at hrow hfit hok ⊢
  have HA := Lib.hid hat; have HRow := Lib.hid hrow; have HFit := Lib.hid hfit; have HOk := Lib.hid hok
  have hn31 : n ≤ 31 := by omega
  have hn1 : 1 ≤ n := by omega
  clear hat hrow hfit hok hn hR h31 h2
  go_enter Tryd.func53, Tryd.ntmps53
  go_wp2
  go_loopw [4, 5, 16] (fun _ _ i wr => ∃ k : Nat, k ≤ n ∧ i = .int .i64 k ∧ Hid (Ext w wr) ∧ Hid (∀ i, i < k → rchk (sw rows i) = 0)) (fun _ _ i _ => n - (intOf i).toNat)
  case atStart => exact ⟨0, Nat.zero_le _, rfl, Lib.hid (Ext.refl w), Lib.hid (fun i hi => by omega)⟩
  case round =>
    obtain ⟨k, hk, rfl, Hx, HG⟩ := hrel
    by_cases hlt : k < n
    · obtain ⟨b, o, a, m, d, rfl, hcl, hrs⟩ := HA.out k hlt
      replace hcl := Hx.out.cell hcl
      have hcall := CheckRow_calls _ d (sw rows k) wr (hrs.ext Hx.out)
      have hbk := HRow.out k hlt HG.out
      have hnx : rchk (sw rows k) = 0 → ∀ i, i < k + 1 → rchk (sw rows i) = 0 := fun h0 i hi => by
        by_cases e : i = k
        · rw [e]; exact h0
        · exact HG.out i (by omega)
      obtain ⟨q, hq⟩ : ∃ q, q = rchk (sw rows k) := ⟨_, rfl⟩
      rw [← hq] at hcall hbk hnx
      have HCL := Lib.hid hcall; have HBk := Lib.hid hbk; have HNx := Lib.hid hnx
      clear hcall hbk hq hrs hnx
      go_wp2_with fail
      refine HCL.out.mono ?_
      rintro e w1 ⟨rfl, x1⟩
      have HX := Lib.hid (Hx.out.trans x1)
      clear x1 hcl HCL
      by_cases hq0 : q = 0
      · have hq' : (q != 0) = false := by rw [bne, beq_iff_eq.2 hq0]; rfl
        have HN2 := Lib.hid (HNx.out hq0)
        clear hq0 HNx
        go_wp2
        go_roundw
        case rel => exact ⟨k + 1, by omega, by go_num, HX, HN2⟩
        case measure => simp [intOf]; omega
      · have hq' : (q != 0) = true := by rw [bne, beq_eq_false_iff_ne.2 hq0]; rfl
        have HB2 := Lib.hid (HBk.out hq0)
        clear hq0 HBk
        go_wp2
        go_ret
        exact ⟨ret_int HB2.out.symm, HX.out⟩
    · obtain rfl : n = k := by omega
      obtain ⟨wo, rfl⟩ : ∃ wo : World, wo = wr := ⟨_, rfl⟩
      clear hlt hk HRow
      go_wp2
      go_loopw [6] (fun i wr => ∃ k : Nat, k + 1 ≤ n ∧ i = .int .i64 ((k : Int) + 1) ∧ Hid (Ext w wr) ∧ Hid (∀ j, j < k → rneed (sw rows (j + 1)) = rmake (sw rows j))) (fun i _ => n - (intOf i).toNat)
      case atStart => exact ⟨0, by omega, rfl, Hx, Lib.hid (fun j hj => by omega)⟩
      case round =>
        obtain ⟨k, hk, rfl, Hy, HF⟩ := hrel
        by_cases hlt : k + 1 < n
        · obtain ⟨b, o, a, m, d, rfl, hcl, hrs⟩ := HA.out (k + 1) hlt
          obtain ⟨b', o', a', m', d', hbo, hcl', hrs'⟩ := HA.out k (by omega)
          obtain ⟨rfl, rfl⟩ : b = b' ∧ o = o' := by simpa using hbo
          replace hcl := Hy.out.cell hcl; replace hcl' := Hy.out.cell hcl'
          have hg1 := rchk_zero (HG.out (k + 1) hlt)
          have hg2 := rchk_zero (HG.out k (by omega))
          have hN := fun w' (x : Ext wr w') => CNeeds_calls _ d (sw rows (k + 1)) w' ((hrs.ext Hy.out).ext x) (by omega)
          have hM := fun w' (x : Ext wr w') => CMakes_calls _ d' (sw rows k) w' ((hrs'.ext Hy.out).ext x) (by omega)
          have hbk := HFit.out HG.out k hlt
          have hnx : rneed (sw rows (k + 1)) = rmake (sw rows k) → ∀ j, j < k + 1 → rneed (sw rows (j + 1)) = rmake (sw rows j) := fun h0 i hi => by
            by_cases e : i = k
            · rw [e]; exact h0
            · exact HF.out i (by omega)
          generalize rneed (sw rows (k + 1)) = A at hN hbk hnx
          generalize rmake (sw rows k) = B at hM hbk hnx
          have HN := Lib.hid hN; have HM := Lib.hid hM; have HBk := Lib.hid hbk; have HNx := Lib.hid hnx
          clear hN hM hbk hnx hg1 hg2 hrs hrs' hbo
          have t1 : (0 : Int) ≤ (k : Int) + 1 := by omega
          have t2 : ((k : Int) + 1).toNat = k + 1 := by omega
          have t3 : (k : Int) + 1 < n := by omega
          have t4 : IntKind.i64.wrap ((k : Int) + 1 - 1) = (k : Int) := by rw [show (k : Int) + 1 - 1 = k by omega]; exact IntWalk.i64_in _ ⟨by omega, by omega⟩
          have t5 : (k : Int) < n := by omega
          have t6 : IntKind.i64.wrap (k : Int) = (k : Int) := IntWalk.i64_in _ ⟨by omega, by omega⟩
          have t7 : (0 : Int) ≤ (k : Int) := by omega
          go_wp2
          go_region_held3 (fun w' => w'.cell? ⟨b, o + (k + 1), none⟩ = some (.slice a m d) ∧ w'.cell? ⟨b, o + k, none⟩ = some (.slice a' m' d')) (first | exact ⟨hcl, hcl'⟩ | exact ⟨q0, q1⟩ | exact ⟨p0, p1⟩ | go_keep) (first
            | (go_at_call 39; (refine (HN.out _ ?_).mono ?_); (focus (repeat (first | (with_reducible exact Ext.refl _) | (with_reducible exact X5.out) | (with_reducible apply Ext.drew) | (with_reducible apply Ext.drewN)))); rintro e w4 ⟨rfl, x4⟩; have X4 : Hid (Ext wr w4) := Lib.hid (Ext.trans (by (repeat (first | (with_reducible exact Ext.refl _) | (with_reducible exact X5.out) | (with_reducible apply Ext.drew) | (with_reducible apply Ext.drewN)))) x4); have q0 := X4.out.cell hcl; have q1 := X4.out.cell hcl'; clear x4)
            | (go_at_call 40; (refine (HM.out _ ?_).mono ?_); (focus (repeat (first | (with_reducible exact Ext.refl _) | (with_reducible exact X4.out) | (with_reducible apply Ext.drew) | (with_reducible apply Ext.drewN)))); rintro e w5 ⟨rfl, x5⟩; have X5 : Hid (Ext wr w5) := Lib.hid (Ext.trans (by (repeat (first | (with_reducible exact Ext.refl _) | (with_reducible exact X4.out) | (with_reducible apply Ext.drew) | (with_reducible apply Ext.drewN)))) x5); have p0 := X5.out.cell hcl; have p1 := X5.out.cell hcl'; clear x5))
          have HX := Lib.hid (Hy.out.trans X5.out)
          clear q0 q1 p0 p1 X4 X5 hcl hcl' HN HM t1 t2 t3 t4 t5 t6 t7
          by_cases hq : A = B
          · have hq' : (A != B) = false := by rw [bne, beq_iff_eq.2 hq]; rfl
            have HN2 := Lib.hid (HNx.out hq)
            clear hq HNx HBk
            go_wp2
            go_roundw
            case rel => exact ⟨k + 1, by omega, by go_num, HX, HN2⟩
            case measure => simp [intOf]; omega
          · have hq' : (A != B) = true := by rw [bne, beq_eq_false_iff_ne.2 hq]; rfl
            have HB2 := Lib.hid (HBk.out hq)
            clear hq HNx HBk
            go_wp2
            go_ret
            exact ⟨ret_int HB2.out.symm, HX.out⟩
        · obtain rfl : n = k + 1 := by omega
          have hr := Lib.hid (HOk.out HG.out (fun j hj => HF.out j (by omega)))
          go_wp2
          go_ret
          exact ⟨ret_int hr.out.symm, Hy.out⟩
end Go.Proofs.YtinijapkipeamaaDoor
