/- Texts of this claim in one file: libraries and walks. -/
import Derived.Deep.RegionHeld3
import Derived.Deep.QuietTactic
import Derived.BigQuiet
import Derived.Outline
import Derived.Laws.OwnMore
import Derived.Test.YthllbcjglcplhaaDoorL0
/- Contracts of charts.total, Needs, Makes. -/
namespace Go.Proofs.YthllbcjglcplhaaDoor
set_option linter.unusedVariables false
set_option linter.unusedSimpArgs false
set_option maxRecDepth 8000
open Go Go.RowKit

set_option maxHeartbeats 1000000 in
theorem total_Needs (v : Value) (c : Nat) (l : List St) (w : World) (h : RS w v c l) (hl : l.length ≤ 1000000) : Calls Tryd.prog 62 #[v, .func (Fn.func 63) #[] #[]] w fun e w' => e = .returned (.int .i64 (rneed l)) ∧ Ext w w' := by
  obtain ⟨ao, n, rfl, hn, hc, hcm, hat⟩ := h.open
  have hst : ∀ k, k < n → rneed (l.take (k + 1)) = rneed (l.take k) + St.need (si l k) := fun k hk => by rw [take_succ_si (by omega), rneed_snoc]
  have hbd : ∀ k, k ≤ n → 0 ≤ rneed (l.take k) ∧ rneed (l.take k) ≤ 4000000 := fun k hk => by
    have := rneed_bd (l.take k)
    rw [List.length_take] at this
    omega
  have hend : rneed (l.take n) = rneed l := by rw [hn, List.take_length]
  have hb1 := fun s => St.need_bd s
  rw [← hn] at hl
  have HA := Lib.hid hat; have HS := Lib.hid hst; have HB := Lib.hid hbd; have HE := Lib.hid hend; have HO := Lib.hid hb1
  clear hat hst hbd hend hb1 hn h
  unfold maxLen at hcm
  go_enter Tryd.func62, Tryd.ntmps62
  go_wp2
  go_loopw [5, 7, 10] (fun t _ i wr => ∃ k : Nat, k ≤ n ∧ i = .int .i64 k ∧ t = .int .i64 (rneed (l.take k)) ∧ Hid (Ext w wr)) (fun _ _ i _ => n - (intOf i).toNat)
  case atStart => exact ⟨0, Nat.zero_le _, rfl, rfl, Lib.hid (Ext.refl w)⟩
  case round =>
    obtain ⟨k, hk, rfl, rfl, Hx⟩ := hrel
    by_cases hlt : k < n
    · obtain ⟨b, o, rfl, h5⟩ := HA.out k hlt
      obtain ⟨c0, c1, c2, c3, c4⟩ := h5.ext Hx.out
      obtain ⟨g1, g2⟩ := HB.out k hk
      have hs := HS.out k hlt
      obtain ⟨g3, g4⟩ := HO.out (si l k)
      have hcall := fun w => SNeeds_calls (si l k) w
      obtain ⟨s, hse⟩ : ∃ s, s = si l k := ⟨_, rfl⟩
      rw [← hse] at c0 c1 c2 c3 c4 hs g3 g4 hcall
      obtain ⟨T, hT⟩ : ∃ T, T = rneed (l.take k) := ⟨_, rfl⟩
      rw [← hT] at g1 g2 hs ⊢
      obtain ⟨D, hD⟩ : ∃ D, D = St.need s := ⟨_, rfl⟩
      rw [← hD] at g3 g4 hs
      unfold St.val at hcall
      rw [← hD] at hcall
      have HCL := Lib.hid hcall; have HSS := Lib.hid hs
      clear hcall hs hse hT hD h5
      go_wp2_with fail
      refine (HCL.out _).mono ?_
      rintro e w1 ⟨rfl, x1⟩
      have HX := Lib.hid (Hx.out.trans (((Ext.refl wr).alloc _).trans x1))
      clear x1 c0 c1 c2 c3 c4 HCL
      go_wp2
      go_roundw
      case rel => exact ⟨k + 1, by omega, by go_num, by rw [HSS.out], HX⟩
      case measure => simp [intOf]; omega
    · obtain rfl : n = k := by omega
      rw [HE.out]
      go_wp2
      go_ret
      exact ⟨rfl, Hx.out⟩

theorem CNeeds_calls (v : Value) (c : Nat) (l : List St) (w : World) (h : RS w v c l) (hl : l.length ≤ 1000000) : Calls Tryd.prog 41 #[v] w fun e w' => e = .returned (.int .i64 (rneed l)) ∧ Ext w w' := by
  have hc := total_Needs v c l w h hl
  obtain ⟨ao, n, rfl, h0⟩ := h.open
  have HC := Lib.hid hc
  clear hc h hl h0
  go_enter Tryd.func41, Tryd.ntmps41
  go_wp2_with fail
  refine HC.out.mono ?_
  rintro e w1 ⟨rfl, x1⟩
  go_wp2
  go_ret
  exact ⟨rfl, x1⟩

set_option maxHeartbeats 1000000 in
theorem total_Makes (v : Value) (c : Nat) (l : List St) (w : World) (h : RS w v c l) (hl : l.length ≤ 1000000) : Calls Tryd.prog 62 #[v, .func (Fn.func 72) #[] #[]] w fun e w' => e = .returned (.int .i64 (rmake l)) ∧ Ext w w' := by
  obtain ⟨ao, n, rfl, hn, hc, hcm, hat⟩ := h.open
  have hst : ∀ k, k < n → rmake (l.take (k + 1)) = rmake (l.take k) + St.make (si l k) := fun k hk => by rw [take_succ_si (by omega), rmake_snoc]
  have hbd : ∀ k, k ≤ n → 0 ≤ rmake (l.take k) ∧ rmake (l.take k) ≤ 4000000 := fun k hk => by
    have := rmake_bd (l.take k)
    rw [List.length_take] at this
    omega
  have hend : rmake (l.take n) = rmake l := by rw [hn, List.take_length]
  have hb1 := fun s => St.make_bd s
  rw [← hn] at hl
  have HA := Lib.hid hat; have HS := Lib.hid hst; have HB := Lib.hid hbd; have HE := Lib.hid hend; have HO := Lib.hid hb1
  clear hat hst hbd hend hb1 hn h
  unfold maxLen at hcm
  go_enter Tryd.func62, Tryd.ntmps62
  go_wp2
  go_loopw [5, 7, 10] (fun t _ i wr => ∃ k : Nat, k ≤ n ∧ i = .int .i64 k ∧ t = .int .i64 (rmake (l.take k)) ∧ Hid (Ext w wr)) (fun _ _ i _ => n - (intOf i).toNat)
  case atStart => exact ⟨0, Nat.zero_le _, rfl, rfl, Lib.hid (Ext.refl w)⟩
  case round =>
    obtain ⟨k, hk, rfl, rfl, Hx⟩ := hrel
    by_cases hlt : k < n
    · obtain ⟨b, o, rfl, h5⟩ := HA.out k hlt
      obtain ⟨c0, c1, c2, c3, c4⟩ := h5.ext Hx.out
      obtain ⟨g1, g2⟩ := HB.out k hk
      have hs := HS.out k hlt
      obtain ⟨g3, g4⟩ := HO.out (si l k)
      have hcall := fun w => SMakes_calls (si l k) w
      obtain ⟨s, hse⟩ : ∃ s, s = si l k := ⟨_, rfl⟩
      rw [← hse] at c0 c1 c2 c3 c4 hs g3 g4 hcall
      obtain ⟨T, hT⟩ : ∃ T, T = rmake (l.take k) := ⟨_, rfl⟩
      rw [← hT] at g1 g2 hs ⊢
      obtain ⟨D, hD⟩ : ∃ D, D = St.make s := ⟨_, rfl⟩
      rw [← hD] at g3 g4 hs
      unfold St.val at hcall
      rw [← hD] at hcall
      have HCL := Lib.hid hcall; have HSS := Lib.hid hs
      clear hcall hs hse hT hD h5
      go_wp2_with fail
      refine (HCL.out _).mono ?_
      rintro e w1 ⟨rfl, x1⟩
      have HX := Lib.hid (Hx.out.trans (((Ext.refl wr).alloc _).trans x1))
      clear x1 c0 c1 c2 c3 c4 HCL
      go_wp2
      go_roundw
      case rel => exact ⟨k + 1, by omega, by go_num, by rw [HSS.out], HX⟩
      case measure => simp [intOf]; omega
    · obtain rfl : n = k := by omega
      rw [HE.out]
      go_wp2
      go_ret
      exact ⟨rfl, Hx.out⟩

theorem CMakes_calls (v : Value) (c : Nat) (l : List St) (w : World) (h : RS w v c l) (hl : l.length ≤ 1000000) : Calls Tryd.prog 48 #[v] w fun e w' => e = .returned (.int .i64 (rmake l)) ∧ Ext w w' := by
  have hc := total_Makes v c l w h hl
  obtain ⟨ao, n, rfl, h0⟩ := h.open
  have HC := Lib.hid hc
  clear hc h hl h0
  go_enter Tryd.func48, Tryd.ntmps48
  go_wp2_with fail
  refine HC.out.mono ?_
  rintro e w1 ⟨rfl, x1⟩
  go_wp2
  go_ret
  exact ⟨rfl, x1⟩
end Go.Proofs.YthllbcjglcplhaaDoor
/- Contract of charts.CheckRow. -/
namespace Go.Proofs.YthllbcjglcplhaaDoor
set_option linter.unusedVariables false
set_option linter.unusedSimpArgs false
set_option maxRecDepth 8000
open Go Go.RowKit

theorem rchk_long {l : List St} (h : 16 < l.length) : rchk l = 3 := by unfold rchk; rw [if_pos h]
theorem rchk_empty {l : List St} (h : l.length = 0) : rchk l = 1 := by unfold rchk; rw [if_neg (by omega), if_pos h]
theorem rchk_bad {l : List St} {i : Nat} (h : l.length ≤ 16) (hi : i < l.length) (hb : (si l i).chk ≠ 0) : rchk l = 1 := by
  unfold rchk
  rw [if_neg (by omega), if_neg (by omega), if_pos]
  rw [List.any_eq_true]
  exact ⟨_, si_mem hi, by simpa using hb⟩
theorem rchk_sum {l : List St} (h : l.length ≤ 16) (h0 : l.length ≠ 0) (hg : ∀ i, i < l.length → (si l i).chk = 0) : rchk l = if rneed l < 1 ∨ 16 < rneed l ∨ rmake l < 1 ∨ 16 < rmake l then 5 else 0 := by
  unfold rchk
  rw [if_neg (by omega), if_neg h0, if_neg]
  rw [List.any_eq_true]
  rintro ⟨s, hs, hb⟩
  obtain ⟨i, hi, rfl⟩ := List.mem_iff_getElem.1 hs
  have := hg i hi
  rw [si_of_lt hi] at this
  simp [this] at hb

set_option maxHeartbeats 2000000 in
theorem CheckRow_calls (v : Value) (c : Nat) (l : List St) (w : World) (h : RS w v c l) : Calls Tryd.prog 83 #[v] w fun e w' => e = .returned (.int .i64 (rchk l)) ∧ Ext w w' := by
  obtain ⟨ao, n, rfl, hn, hc, hcm, hat⟩ := h.open
  unfold maxLen at hcm
  have HH := Lib.hid h
  by_cases h16 : 16 < n
  · have hr := Lib.hid (rchk_long (l := l) (by omega))
    have h16' : (16 : Int) < (n : Int) := by omega
    clear hn hat h HH h16
    go_enter Tryd.func83, Tryd.ntmps83
    go_wp2
    go_ret
    exact ⟨ret_int hr.out.symm, Ext.refl _⟩
  have h16' : ¬ (16 : Int) < (n : Int) := by omega
  by_cases h0 : n = 0
  · have hr := Lib.hid (rchk_empty (l := l) (by omega))
    have h0' : ((n : Int) == 0) = true := by rw [beq_iff_eq]; omega
    clear hn hat h HH h16 h0
    go_enter Tryd.func83, Tryd.ntmps83
    go_wp2
    go_ret
    exact ⟨ret_int hr.out.symm, Ext.refl _⟩
  have h0' : ((n : Int) == 0) = false := by rw [beq_eq_false_iff_ne]; omega
  have hbad : ∀ i, i < n → (si l i).chk ≠ 0 → rchk l = 1 := fun i hi hb => rchk_bad (by omega) (by omega) hb
  have hsum : (∀ i, i < n → (si l i).chk = 0) → rchk l = if rneed l < 1 ∨ 16 < rneed l ∨ rmake l < 1 ∨ 16 < rmake l then 5 else 0 := fun hg => rchk_sum (by omega) (by omega) (fun i hi => hg i (by omega))
  have hnb := rneed_bd l
  have hmb := rmake_bd l
  have hCN := fun w' (x : Ext w w') => CNeeds_calls _ c l w' (h.ext x) (by omega)
  have hCM := fun w' (x : Ext w w') => CMakes_calls _ c l w' (h.ext x) (by omega)
  rw [← hn] at hnb hmb
  obtain ⟨A, hA⟩ : ∃ A, A = rneed l := ⟨_, rfl⟩
  obtain ⟨M, hM⟩ : ∃ M, M = rmake l := ⟨_, rfl⟩
  rw [← hA] at hnb hsum hCN
  rw [← hM] at hmb hsum hCM
  obtain ⟨R, hR⟩ : ∃ R, R = rchk l := ⟨_, rfl⟩
  rw [← hR] at hbad hsum ⊢
  have HA := Lib.hid hat; have HBd := Lib.hid hbad; have HSm := Lib.hid hsum; have HN := Lib.hid hCN; have HM := Lib.hid hCM
  clear hat hbad hsum hCN hCM hn h HH hA hM hR h16 h0
  go_enter Tryd.func83, Tryd.ntmps83
  go_wp2
  go_loopw [4, 15] (fun _ i wr => ∃ k : Nat, k ≤ n ∧ i = .int .i64 k ∧ Hid (Ext w wr) ∧ Hid (∀ i, i < k → (si l i).chk = 0)) (fun _ i _ => n - (intOf i).toNat)
  case atStart => exact ⟨0, Nat.zero_le _, rfl, Lib.hid (Ext.refl w), Lib.hid (fun i hi => by omega)⟩
  case round =>
    obtain ⟨k, hk, rfl, Hx, HG⟩ := hrel
    by_cases hlt : k < n
    · obtain ⟨b, o, rfl, h5⟩ := HA.out k hlt
      obtain ⟨c0, c1, c2, c3, c4⟩ := h5.ext Hx.out
      have hcall := fun w => SCheck_calls (si l k) w
      have hbk := HBd.out k hlt
      have hnx : (si l k).chk = 0 → ∀ i, i < k + 1 → (si l i).chk = 0 := fun h0 i hi => by
        by_cases e : i = k
        · rw [e]; exact h0
        · exact HG.out i (by omega)
      obtain ⟨s, hse⟩ : ∃ s, s = si l k := ⟨_, rfl⟩
      rw [← hse] at c0 c1 c2 c3 c4 hcall hbk hnx
      have hcc := St.chk_cases s
      unfold St.val at hcall
      generalize St.chk s = q at hcall hbk hcc hnx
      have HCL := Lib.hid hcall; have HBk := Lib.hid hbk; have HNx := Lib.hid hnx
      clear hcall hbk hse h5 hnx
      go_wp2_with fail
      refine (HCL.out _).mono ?_
      rintro e w1 ⟨rfl, x1⟩
      have HX := Lib.hid (Hx.out.trans (((Ext.refl wr).alloc _).trans x1))
      clear x1 c0 c1 c2 c3 c4 HCL
      rcases hcc with rfl | rfl
      · go_wp2
        go_roundw
        case rel => exact ⟨k + 1, by omega, by go_num, HX, Lib.hid (HNx.out (by first | trivial | rfl))⟩
        case measure => simp [intOf]; omega
      · go_wp2
        go_ret
        exact ⟨ret_int (HBk.out (by decide)).symm, HX.out⟩
    · obtain rfl : n = k := by omega
      have hr := HSm.out HG.out
      have Hr := Lib.hid hr
      clear hr hlt
      go_wp2_with fail
      refine (HN.out _ Hx.out).mono ?_
      rintro e w1 ⟨rfl, x1⟩
      have X1 := Lib.hid (Hx.out.trans x1)
      clear x1
      go_wp2_with fail
      refine (HM.out _ X1.out).mono ?_
      rintro e w2 ⟨rfl, x2⟩
      have X2 := Lib.hid (X1.out.trans x2)
      clear x2
      by_cases a1 : A < 1
      · have hf := Lib.hid (show R = 5 by rw [Hr.out, if_pos (.inl a1)])
        go_wp2
        go_ret
        exact ⟨ret_int hf.out.symm, X2.out⟩
      · by_cases a2 : 16 < A
        · have hf := Lib.hid (show R = 5 by rw [Hr.out, if_pos (.inr (.inl a2))])
          go_wp2
          go_ret
          exact ⟨ret_int hf.out.symm, X2.out⟩
        · by_cases a3 : M < 1
          · have hf := Lib.hid (show R = 5 by rw [Hr.out, if_pos (.inr (.inr (.inl a3)))])
            go_wp2
            go_ret
            exact ⟨ret_int hf.out.symm, X2.out⟩
          · by_cases a4 : 16 < M
            · have hf := Lib.hid (show R = 5 by rw [Hr.out, if_pos (.inr (.inr (.inr a4)))])
              go_wp2
              go_ret
              exact ⟨ret_int hf.out.symm, X2.out⟩
            · have hf := Lib.hid (show R = 0 by rw [Hr.out, if_neg (by omega)])
              go_wp2
              go_ret
              exact ⟨ret_int hf.out.symm, X2.out⟩
end Go.Proofs.YthllbcjglcplhaaDoor
/- Contract of charts.checkRows. -/
namespace Go.Proofs.YthllbcjglcplhaaDoor
set_option linter.unusedVariables false
set_option linter.unusedSimpArgs false
set_option maxRecDepth 8000
open Go Go.RowKit

theorem cerr_long {rows : List (List St)} (h : 31 < rows.length) : cerr rows = 3 := by unfold cerr; rw [if_pos h]
theorem cerr_even {rows : List (List St)} (h : rows.length ≤ 31) (h2 : rows.length % 2 = 0) : cerr rows = 1 := by unfold cerr; rw [if_neg (by omega), if_pos h2]
theorem cerr_row {rows : List (List St)} (h : rows.length ≤ 31) (h2 : rows.length % 2 = 1) {k : Nat} (hk : k < rows.length) (hg : ∀ i, i < k → rchk (sw rows i) = 0) (hb : rchk (sw rows k) ≠ 0) : cerr rows = rchk (sw rows k) := by
  have := ferr_at rows k hk hg hb
  unfold cerr; rw [if_neg (by omega), if_neg (by omega), this, if_pos hb]
theorem cerr_fit {rows : List (List St)} (h : rows.length ≤ 31) (h2 : rows.length % 2 = 1) (hg : ∀ i, i < rows.length → rchk (sw rows i) = 0) {k : Nat} (hk : k + 1 < rows.length) (hb : rneed (sw rows (k + 1)) ≠ rmake (sw rows k)) : cerr rows = 14 := by
  unfold cerr
  rw [if_neg (by omega), if_neg (by omega), ferr_ok rows hg, if_neg (by omega), if_neg]
  unfold fitB
  rw [List.all_eq_true]
  intro hh
  have := hh k (List.mem_range.2 (by omega))
  exact hb (by simpa using this)
theorem cerr_ok {rows : List (List St)} (h : rows.length ≤ 31) (h2 : rows.length % 2 = 1) (hg : ∀ i, i < rows.length → rchk (sw rows i) = 0) (hf : ∀ k, k + 1 < rows.length → rneed (sw rows (k + 1)) = rmake (sw rows k)) : cerr rows = 0 := by
  unfold cerr
  rw [if_neg (by omega), if_neg (by omega), ferr_ok rows hg, if_neg (by omega), if_pos]
  unfold fitB
  rw [List.all_eq_true]
  intro k hk
  have := List.mem_range.1 hk
  simpa using hf k (by omega)

set_option maxHeartbeats 4000000 in
theorem checkRows_calls (v : Value) (c : Nat) (rows : List (List St)) (w : World) (h : RR w v c rows) : Calls Tryd.prog 70 #[v] w fun e w' => e = .returned (.int .i64 (cerr rows)) ∧ Ext w w' := by
  obtain ⟨ao, n, rfl, hn, hc, hcm, hat⟩ := h.open
  unfold maxLen at hcm
  clear h
  by_cases h31 : 31 < n
  · have hr := Lib.hid (cerr_long (rows := rows) (by omega))
    have h31' : (31 : Int) < (n : Int) := by omega
    clear hn hat h31
    go_enter Tryd.func70, Tryd.ntmps70
    go_wp2
    go_ret
    exact ⟨ret_int hr.out.symm, Ext.refl _⟩
  have h31' : ¬ (31 : Int) < (n : Int) := by omega
  by_cases h2 : n % 2 = 0
  · have hr := Lib.hid (cerr_even (rows := rows) (by omega) (by omega))
    have h2' : ((n : Int) % 2 == 0) = true := by rw [beq_iff_eq]; omega
    clear hn hat h31 h2
    go_enter Tryd.func70, Tryd.ntmps70
    go_wp2
    go_ret
    exact ⟨ret_int hr.out.symm, Ext.refl _⟩
  have h2' : ((n : Int) % 2 == 0) = false := by rw [beq_eq_false_iff_ne]; omega
  have hrow : ∀ k, k < n → (∀ i, i < k → rchk (sw rows i) = 0) → rchk (sw rows k) ≠ 0 → cerr rows = rchk (sw rows k) := fun k hk hg hb => cerr_row (by omega) (by omega) (by omega) hg hb
  have hfit : (∀ i, i < n → rchk (sw rows i) = 0) → ∀ k, k + 1 < n → rneed (sw rows (k + 1)) ≠ rmake (sw rows k) → cerr rows = 14 := fun hg k hk hb => cerr_fit (by omega) (by omega) (fun i hi => hg i (by omega)) (by omega) hb
  have hok : (∀ i, i < n → rchk (sw rows i) = 0) → (∀ k, k + 1 < n → rneed (sw rows (k + 1)) = rmake (sw rows k)) → cerr rows = 0 := fun hg hf => cerr_ok (by omega) (by omega) (fun i hi => hg i (by omega)) (fun k hk => hf k (by omega))
  obtain ⟨R, hR⟩ : ∃ R, R = cerr rows := ⟨_, rfl⟩
  rw [← hR] at hrow hfit hok ⊢
  have HA := Lib.hid hat; have HRow := Lib.hid hrow; have HFit := Lib.hid hfit; have HOk := Lib.hid hok
  have hn31 : n ≤ 31 := by omega
  have hn1 : 1 ≤ n := by omega
  clear hat hrow hfit hok hn hR h31 h2
  go_enter Tryd.func70, Tryd.ntmps70
  go_wp2
  go_loopw [4, 5, 16] (fun _ _ i wr => ∃ k : Nat, k ≤ n ∧ i = .int .i64 k ∧ Hid (Ext w wr) ∧ Hid (∀ i, i < k → rchk (sw rows i) = 0)) (fun _ _ i _ => n - (intOf i).toNat)
  case atStart => exact ⟨0, Nat.zero_le _, rfl, Lib.hid (Ext.refl w), Lib.hid (fun i hi => by omega)⟩
  case round =>
    obtain ⟨k, hk, rfl, Hx, HG⟩ := hrel
    by_cases hlt : k < n
    · obtain ⟨b, o, a, m, d, rfl, hcl, hrs⟩ := HA.out k hlt
      replace hcl := Hx.out.cell hcl
      have hcall := CheckRow_calls _ d (sw rows k) wr (hrs.ext Hx.out)
      have hbk := HRow.out k hlt HG.out
      have hnx : rchk (sw rows k) = 0 → ∀ i, i < k + 1 → rchk (sw rows i) = 0 := fun h0 i hi => by
        by_cases e : i = k
        · rw [e]; exact h0
        · exact HG.out i (by omega)
      obtain ⟨q, hq⟩ : ∃ q, q = rchk (sw rows k) := ⟨_, rfl⟩
      rw [← hq] at hcall hbk hnx
      have HCL := Lib.hid hcall; have HBk := Lib.hid hbk; have HNx := Lib.hid hnx
      clear hcall hbk hq hrs hnx
      go_wp2_with fail
      refine HCL.out.mono ?_
      rintro e w1 ⟨rfl, x1⟩
      have HX := Lib.hid (Hx.out.trans x1)
      clear x1 hcl HCL
      by_cases hq0 : q = 0
      · have hq' : (q != 0) = false := by rw [bne, beq_iff_eq.2 hq0]; rfl
        have HN2 := Lib.hid (HNx.out hq0)
        clear hq0 HNx
        go_wp2
        go_roundw
        case rel => exact ⟨k + 1, by omega, by go_num, HX, HN2⟩
        case measure => simp [intOf]; omega
      · have hq' : (q != 0) = true := by rw [bne, beq_eq_false_iff_ne.2 hq0]; rfl
        have HB2 := Lib.hid (HBk.out hq0)
        clear hq0 HBk
        go_wp2
        go_ret
        exact ⟨ret_int HB2.out.symm, HX.out⟩
    · obtain rfl : n = k := by omega
      obtain ⟨wo, rfl⟩ : ∃ wo : World, wo = wr := ⟨_, rfl⟩
      clear hlt hk HRow
      go_wp2
      go_loopw [6] (fun i wr => ∃ k : Nat, k + 1 ≤ n ∧ i = .int .i64 ((k : Int) + 1) ∧ Hid (Ext w wr) ∧ Hid (∀ j, j < k → rneed (sw rows (j + 1)) = rmake (sw rows j))) (fun i _ => n - (intOf i).toNat)
      case atStart => exact ⟨0, by omega, rfl, Hx, Lib.hid (fun j hj => by omega)⟩
      case round =>
        obtain ⟨k, hk, rfl, Hy, HF⟩ := hrel
        by_cases hlt : k + 1 < n
        · obtain ⟨b, o, a, m, d, rfl, hcl, hrs⟩ := HA.out (k + 1) hlt
          obtain ⟨b', o', a', m', d', hbo, hcl', hrs'⟩ := HA.out k (by omega)
          obtain ⟨rfl, rfl⟩ : b = b' ∧ o = o' := by simpa using hbo
          replace hcl := Hy.out.cell hcl; replace hcl' := Hy.out.cell hcl'
          have hg1 := rchk_zero (HG.out (k + 1) hlt)
          have hg2 := rchk_zero (HG.out k (by omega))
          have hN := fun w' (x : Ext wr w') => CNeeds_calls _ d (sw rows (k + 1)) w' ((hrs.ext Hy.out).ext x) (by omega)
          have hM := fun w' (x : Ext wr w') => CMakes_calls _ d' (sw rows k) w' ((hrs'.ext Hy.out).ext x) (by omega)
          have hbk := HFit.out HG.out k hlt
          have hnx : rneed (sw rows (k + 1)) = rmake (sw rows k) → ∀ j, j < k + 1 → rneed (sw rows (j + 1)) = rmake (sw rows j) := fun h0 i hi => by
            by_cases e : i = k
            · rw [e]; exact h0
            · exact HF.out i (by omega)
          generalize rneed (sw rows (k + 1)) = A at hN hbk hnx
          generalize rmake (sw rows k) = B at hM hbk hnx
          have HN := Lib.hid hN; have HM := Lib.hid hM; have HBk := Lib.hid hbk; have HNx := Lib.hid hnx
          clear hN hM hbk hnx hg1 hg2 hrs hrs' hbo
          have t1 : (0 : Int) ≤ (k : Int) + 1 := by omega
          have t2 : ((k : Int) + 1).toNat = k + 1 := by omega
          have t3 : (k : Int) + 1 < n := by omega
          have t4 : IntKind.i64.wrap ((k : Int) + 1 - 1) = (k : Int) := by rw [show (k : Int) + 1 - 1 = k by omega]; exact IntWalk.i64_in _ ⟨by omega, by omega⟩
          have t5 : (k : Int) < n := by omega
          have t6 : IntKind.i64.wrap (k : Int) = (k : Int) := IntWalk.i64_in _ ⟨by omega, by omega⟩
          have t7 : (0 : Int) ≤ (k : Int) := by omega
          go_wp2
          go_region_held3 (fun w' => w'.cell? ⟨b, o + (k + 1), none⟩ = some (.slice a m d) ∧ w'.cell? ⟨b, o + k, none⟩ = some (.slice a' m' d')) (first | exact ⟨hcl, hcl'⟩ | exact ⟨q0, q1⟩ | exact ⟨p0, p1⟩ | go_keep) (first
            | (go_at_call 41; (refine (HN.out _ ?_).mono ?_); (focus (repeat (first | (with_reducible exact Ext.refl _) | (with_reducible exact X5.out) | (with_reducible apply Ext.drew) | (with_reducible apply Ext.drewN)))); rintro e w4 ⟨rfl, x4⟩; have X4 : Hid (Ext wr w4) := Lib.hid (Ext.trans (by (repeat (first | (with_reducible exact Ext.refl _) | (with_reducible exact X5.out) | (with_reducible apply Ext.drew) | (with_reducible apply Ext.drewN)))) x4); have q0 := X4.out.cell hcl; have q1 := X4.out.cell hcl'; clear x4)
            | (go_at_call 48; (refine (HM.out _ ?_).mono ?_); (focus (repeat (first | (with_reducible exact Ext.refl _) | (with_reducible exact X4.out) | (with_reducible apply Ext.drew) | (with_reducible apply Ext.drewN)))); rintro e w5 ⟨rfl, x5⟩; have X5 : Hid (Ext wr w5) := Lib.hid (Ext.trans (by (repeat (first | (with_reducible exact Ext.refl _) | (with_reducible exact X4.out) | (with_reducible apply Ext.drew) | (with_reducible apply Ext.drewN)))) x5); have p0 := X5.out.cell hcl; have p1 := X5.out.cell hcl'; clear x5))
          have HX := Lib.hid (Hy.out.trans X5.out)
          clear q0 q1 p0 p1 X4 X5 hcl hcl' HN HM t1 t2 t3 t4 t5 t6 t7
          by_cases hq : A = B
          · have hq' : (A != B) = false := by rw [bne, beq_iff_eq.2 hq]; rfl
            have HN2 := Lib.hid (HNx.out hq)
            clear hq HNx HBk
            go_wp2
            go_roundw
            case rel => exact ⟨k + 1, by omega, by go_num, HX, HN2⟩
            case measure => simp [intOf]; omega
          · have hq' : (A != B) = true := by rw [bne, beq_eq_false_iff_ne.2 hq]; rfl
            have HB2 := Lib.hid (HBk.out hq)
            clear hq HNx HBk
            go_wp2
            go_ret
            exact ⟨ret_int HB2.out.symm, HX.out⟩
        · obtain rfl : n = k + 1 := by omega
          have hr := Lib.hid (HOk.out HG.out (fun j hj => HF.out j (by omega)))
          go_wp2
          go_ret
          exact ⟨ret_int hr.out.symm, Hy.out⟩
end Go.Proofs.YthllbcjglcplhaaDoor
/- Contract of stitches.Loads. -/
namespace Go.Proofs.YthllbcjglcplhaaDoor
set_option linter.unusedVariables false
set_option linter.unusedSimpArgs false
set_option maxRecDepth 8000
open Go Go.RowKit

/-- The error of a stitch on some slots. -/
def St.lerr (s : St) (xs : List Int) : Int :=
  if s.chk ≠ 0 then 1 else if (xs.length : Int) ≠ s.need then 5 else if xs.any (fun n => decide (n < 1) || decide (3 < n)) then 1
  else if s.k = 4 ∨ s.k = 5 then (if 4 < gi xs 0 + gi xs 1 then 9 else 0)
  else if s.k = 6 ∧ gi xs 0 = 3 then 9 else 0
/-- The numbers of loops that it makes. -/
def St.lmade (s : St) (xs : List Int) : List Int :=
  if s.lerr xs ≠ 0 then [] else if s.k = 6 then [gi xs 0 + 1] else if s.k = 7 then [gi xs 0] else List.replicate s.make.toNat 1

theorem lerr_chk {s : St} {xs : List Int} (h : s.chk ≠ 0) : s.lerr xs = 1 := by unfold St.lerr; rw [if_pos h]
theorem lerr_len {s : St} {xs : List Int} (h : s.chk = 0) (hl : (xs.length : Int) ≠ s.need) : s.lerr xs = 5 := by unfold St.lerr; rw [if_neg (by omega), if_pos hl]
theorem lerr_bad {s : St} {xs : List Int} (h : s.chk = 0) (hl : (xs.length : Int) = s.need) {i : Nat} (hi : i < xs.length) (hb : gi xs i < 1 ∨ 3 < gi xs i) : s.lerr xs = 1 := by
  unfold St.lerr; rw [if_neg (by omega), if_neg (by omega), if_pos]
  rw [List.any_eq_true]
  exact ⟨_, gi_mem hi, by simpa using hb⟩
theorem lerr_in {s : St} {xs : List Int} (h : s.chk = 0) (hl : (xs.length : Int) = s.need) (hg : ∀ i, i < xs.length → 1 ≤ gi xs i ∧ gi xs i ≤ 3) :
    s.lerr xs = if s.k = 4 ∨ s.k = 5 then (if 4 < gi xs 0 + gi xs 1 then 9 else 0) else if s.k = 6 ∧ gi xs 0 = 3 then 9 else 0 := by
  unfold St.lerr; rw [if_neg (by omega), if_neg (by omega), if_neg]
  rw [List.any_eq_true]
  rintro ⟨x, hx, hb⟩
  have := gi_all (P := fun x => 1 ≤ x ∧ x ≤ 3) hg x hx
  simp at hb; omega
theorem lmade_err {s : St} {xs : List Int} (h : s.lerr xs ≠ 0) : s.lmade xs = [] := by unfold St.lmade; rw [if_pos h]

/-- A row of ones of the call's own: the first k are laid. -/
def Ones (w wr : World) (R N k : Nat) : Prop := Ext w wr ∧ ∃ f, wr.rowIs R 3 N f ∧ (∀ i, i < k → f i = .int .i64 1)

set_option maxHeartbeats 4000000 in
theorem SLoads_calls (s : St) (v : Value) (c : Nat) (xs : List Int) (w : World) (h : IS .i64 w v c xs) :
    Calls Tryd.prog 71 #[s.val, v] w (RetIE .i64 w (s.lmade xs).length (s.lmade xs) (s.lerr xs)) := by
  obtain ⟨a1, n, c1, rfl, hn, rfl, h1⟩ := h.out
  have hcm : c1 ≤ maxLen := by obtain ⟨_, h2, _⟩ := h1.open; exact h2
  have hnc := h1.len.2.2
  rw [← hn] at hnc
  unfold maxLen at hcm
  have hc := SCheck_calls s
  have hN := SNeeds_calls s
  have hM := SMakes_calls s
  have hcc := St.chk_cases s
  have hok := St.chk_ok (s := s)
  have hnb := St.need_bd s
  have hmb := St.make_bd s
  have hB := fun (_ : Nat) => B5.new w s 49
  have Hc := Lib.hid hc; have HN := Lib.hid hN; have HM := Lib.hid hM; have HB := Lib.hid hB; have H1 := Lib.hid h1; have Hn := Lib.hid hn
  clear hc hN hM hB h h1 hn
  rcases hcc with hc0 | hc1
  · have herr : ∀ r : Int, r ≠ 0 → s.lerr xs = r → ∀ w', Ext w w' → RetIE .i64 w (s.lmade xs).length (s.lmade xs) (s.lerr xs) (.returned (.tuple #[.slice none 0 0, .int .i64 r])) w' := fun r h0 hr w' x => by
      rw [lmade_err (by rw [hr]; exact h0), hr]; exact ⟨_, rfl, IS.nil _ _, x⟩
    have Herr := Lib.hid herr
    have hchk := Lib.hid hc0
    clear herr
    obtain ⟨k1, k2, k3⟩ := hok hc0
    clear hok
    have hlen : (n : Int) ≠ s.need → s.lerr xs = 5 := fun hl => lerr_len hc0 (by rw [← Hn.out]; exact hl)
    have hbad : (n : Int) = s.need → ∀ i, i < n → (gi xs i < 1 ∨ 3 < gi xs i) → s.lerr xs = 1 := fun hl i hi hb => lerr_bad hc0 (by rw [← Hn.out]; exact hl) (by rw [← Hn.out]; exact hi) hb
    have hin : (n : Int) = s.need → (∀ i, i < n → 1 ≤ gi xs i ∧ gi xs i ≤ 3) → s.lerr xs = if s.k = 4 ∨ s.k = 5 then (if 4 < gi xs 0 + gi xs 1 then 9 else 0) else if s.k = 6 ∧ gi xs 0 = 3 then 9 else 0 := fun hl hg => lerr_in hc0 (by rw [← Hn.out]; exact hl) (fun i hi => hg i (by rw [Hn.out]; exact hi))
    have hneed : s.need = if s.k = 3 then 0 else if s.k = 4 ∨ s.k = 5 then 2 else if s.k = 8 then s.a + s.b else 1 := by unfold St.need; rw [if_neg (by omega)]
    have hmake : s.make = if s.k = 8 then s.a + s.b else 1 := by unfold St.make; rw [if_neg (by omega)]
    have hmd : s.lerr xs = 0 → s.lmade xs = if s.k = 6 then [gi xs 0 + 1] else if s.k = 7 then [gi xs 0] else List.replicate s.make.toNat 1 := fun h0 => by unfold St.lmade; rw [if_neg (by omega)]
    obtain ⟨M, hMM⟩ : ∃ M : Nat, s.make = M := ⟨s.make.toNat, by omega⟩
    have Hneed := Lib.hid hneed; have Hmake := Lib.hid hmake; have Hlen := Lib.hid hlen; have Hbad := Lib.hid hbad; have Hin := Lib.hid hin; have Hmd := Lib.hid hmd; have HMM := Lib.hid hMM
    clear hneed hmake hlen hbad hin hmd
    rw [hMM] at hmb
    replace Hc := Lib.hid (show ∀ w, Calls Tryd.prog 80 #[s.val] w fun e w' => e = .returned (.int .i64 0) ∧ Ext w w' from fun w => by have := Hc.out w; rw [hc0] at this; exact this)
    replace HM := Lib.hid (show ∀ w, Calls Tryd.prog 72 #[s.val] w fun e w' => e = .returned (.int .i64 M) ∧ Ext w w' from fun w => by have := HM.out w; rw [hMM] at this; exact this)
    clear hc0 hMM
    obtain ⟨D, hD⟩ : ∃ D, D = s.need := ⟨_, rfl⟩
    rw [← hD] at hnb HN Hlen Hbad Hin Hneed
    clear hD
    have hmk := run_make_row' (P := Tryd.prog) 68 3 (.int .i64 0) 8 Tryd.underlying68 (by kernel_rfl) rfl .i64 .i64 M (by omega) (by omega)
    have hB5 : ∀ w', Ext (w.alloc (.cells #[.int .u8 s.k, .int .u8 s.y, .int .i64 s.a, .int .i64 s.b, .bool s.f] 49)) w' → At5 w' w.heap.size 0 s := fun w' x => ((HB.out 0).ext x).at
    have HB5 := Lib.hid hB5
    clear hB5 HB
    unfold St.val at *
    go_enter Tryd.func71, Tryd.ntmps71
    go_wp2_with fail
    refine (Hc.out _).mono ?_
    rintro e w1 ⟨rfl, x1⟩
    have X1 := Lib.hid x1
    obtain ⟨c0, c1', c2, c3, c4⟩ := HB5.out _ x1
    simp only [Nat.zero_add] at c1' c2 c3 c4
    clear x1 Hc
    go_wp2_with fail
    refine (HN.out _).mono ?_
    rintro e w2 ⟨rfl, x2⟩
    replace X1 := Lib.hid (X1.out.trans x2)
    clear x2 c0 c1' c2 c3 c4 HN
    by_cases hl : (n : Int) = D
    · have hl' : ((n : Int) != D) = false := by rw [bne, beq_iff_eq.2 hl]; rfl
      have Hb2 := Lib.hid (Hbad.out hl)
      have Hi2 := Lib.hid (Hin.out hl)
      have Hl := Lib.hid hl
      clear hl Hlen Hbad Hin
      go_wp2
      clear hl'
      go_loop [7, 20] (fun _ i => ∃ k : Nat, k ≤ n ∧ i = .int .i64 k ∧ Hid (∀ i, i < k → 1 ≤ gi xs i ∧ gi xs i ≤ 3)) (fun _ i => n - (intOf i).toNat)
      case atStart => exact ⟨0, Nat.zero_le _, rfl, Lib.hid (fun i hi => by omega)⟩
      case round =>
        obtain ⟨j, hj, rfl, HG⟩ := hrel
        by_cases hlt : j < n
        · obtain ⟨b, o, rfl, hcl⟩ := (H1.out.ext (((Ext.refl w).alloc _).trans X1.out)).at hlt
          have hck := hcl j hlt
          have hbk := Hb2.out j hlt
          have hnx : 1 ≤ gi xs j → gi xs j ≤ 3 → ∀ i, i < j + 1 → 1 ≤ gi xs i ∧ gi xs i ≤ 3 := fun h1 h2 i hi => by
            by_cases e : i = j
            · rw [e]; exact ⟨h1, h2⟩
            · exact HG.out i (by omega)
          generalize gi xs j = x at hck hbk hnx
          have HBk := Lib.hid hbk; have HNx := Lib.hid hnx
          clear hcl hbk hnx
          by_cases y1 : x < 1
          · have hf := Lib.hid (HBk.out (.inl y1))
            go_wp2
            go_ret2
            exact Herr.out 1 (by decide) hf.out _ (((Ext.refl w).alloc _).trans X1.out)
          · by_cases y2 : 3 < x
            · have hf := Lib.hid (HBk.out (.inr y2))
              go_wp2
              go_ret2
              exact Herr.out 1 (by decide) hf.out _ (((Ext.refl w).alloc _).trans X1.out)
            · have HN2 := Lib.hid (HNx.out (by omega) (by omega))
              go_wp2
              go_round
              case rel => exact ⟨j + 1, by omega, by go_num, HN2⟩
              case measure => simp [intOf]; omega
        · obtain rfl : n = j := by omega
          have Hi3 := Lib.hid (Hi2.out HG.out)
          obtain ⟨c0, c1', c2, c3, c4⟩ := HB5.out _ X1.out
          simp only [Nat.zero_add] at c1' c2 c3 c4
          clear Hb2 Hi2 hlt
          go_wp2_with fail
          refine (HM.out _).mono ?_
          rintro e w3 ⟨rfl, x3⟩
          replace X1 := Lib.hid (X1.out.trans x3)
          clear x3 c0 c1' c2 c3 c4 HM
          obtain ⟨w0, hw0⟩ : ∃ w0 : World, w0 = w3 := ⟨_, rfl⟩
          go_wp2
          go_loopw [9, 36] (fun _ i wr => ∃ j : Nat, j ≤ M ∧ i = .int .i64 j ∧ Hid (Ones w3 wr w3.heap.size M j)) (fun _ i _ => M - (intOf i).toNat)
          case atStart => exact ⟨0, Nat.zero_le _, rfl, Lib.hid ⟨(Ext.refl w3).alloc _, _, World.rowIs_made _ _ _ _, fun i hi => by omega⟩⟩
          case round =>
            obtain ⟨j, hj, rfl, HO⟩ := hrel
            by_cases hlt : j < M
            · obtain ⟨f, hrow, hf⟩ := HO.out.2
              have hst := hrow.cell (i := j) (by omega)
              have hfz := hrow.frozen j
              have hnx : Ones w3 (wr.setCell ⟨w3.heap.size, j, none⟩ (.int .i64 1)) w3.heap.size M (j + 1) := ⟨HO.out.1.setCell (Nat.le_refl _) _, _, hrow.set j _, fun i hi => by
                by_cases e : i = j
                · rw [if_pos e]
                · rw [if_neg e]; exact hf i (by omega)⟩
              have HNx := Lib.hid hnx
              clear hrow hf hnx
              go_wp2
              go_roundw
              case rel => exact ⟨j + 1, by omega, by go_num, HNx⟩
              case measure => simp [intOf]; omega
            · obtain rfl : M = j := by omega
              clear hlt hj
              obtain ⟨c0, _, _, _, _⟩ := HB5.out _ (X1.out.trans HO.out.1)
              have Xw := Lib.hid (((Ext.refl w).alloc _).trans (X1.out.trans HO.out.1))
              have hI := H1.out.ext Xw.out
              have Hgi := Lib.hid (fun i (hi : i < n) => HG.out i hi)
              obtain ⟨_, f, hrow, hf⟩ := HO.out
              have hfin : ∀ (w' : World) (g : Nat → Value) (ys : List Int), w'.rowIs w3.heap.size 3 M g → ys.length = M → (∀ i, i < M → g i = .int .i64 (gi ys i)) → s.lerr xs = 0 → s.lmade xs = ys → Ext w w' → RetIE .i64 w (s.lmade xs).length (s.lmade xs) (s.lerr xs) (.returned (.tuple #[.slice (some ⟨w3.heap.size, 0, none⟩) M M, .int .i64 0])) w' := fun w' g ys hr hy hg he hm hx => by
                rw [hm, he, hy]
                exact ⟨_, rfl, IS.of_row hr hy.symm (by unfold maxLen; omega) hg, hx⟩
              have Hfin := Lib.hid hfin; have Hrow := Lib.hid hrow; have Hf := Lib.hid hf; have HI := Lib.hid hI
              have hones : s.lerr xs = 0 → s.k ≠ 6 → s.k ≠ 7 → RetIE .i64 w (s.lmade xs).length (s.lmade xs) (s.lerr xs) (.returned (.tuple #[.slice (some ⟨w3.heap.size, 0, none⟩) M M, .int .i64 0])) wr := fun he h6 h7 => by
                refine Hfin.out wr f (List.replicate M 1) Hrow.out (by simp) (fun i hi => ?_) he ?_ Xw.out
                · rw [Hf.out i hi, gi_of_lt (by simpa using hi)]; simp
                · rw [Hmd.out he, if_neg h6, if_neg h7, HMM.out]; rfl
              have Hones := Lib.hid hones
              clear hfin hrow hf hI hones HG HO hw0
              by_cases k4 : s.k = 4 ∨ s.k = 5
              · have hD2 : n = 2 := by
                  have := Hneed.out
                  rw [if_neg (by omega), if_pos k4] at this
                  have := Hl.out
                  omega
                subst hD2
                obtain ⟨b, o, rfl, hcl⟩ := HI.out.at (i := 0) (by omega)
                have e0 := hcl 0 (by omega)
                have e1 := hcl 1 (by omega)
                rw [Nat.add_zero] at e0
                obtain ⟨g1, g2⟩ := Hgi.out 0 (by omega)
                obtain ⟨g3, g4⟩ := Hgi.out 1 (by omega)
                have hr := Hi3.out
                rw [if_pos k4] at hr
                generalize gi xs 0 = x at *
                generalize gi xs 1 = z at *
                have t1 : IntKind.i64.wrap (x + z) = x + z := IntWalk.i64_in _ ⟨by omega, by omega⟩
                have Hr := Lib.hid hr
                have n6 : s.k ≠ 6 := by omega
                have n7 : s.k ≠ 7 := by omega
                have N67 := Lib.hid (And.intro n6 n7)
                clear hcl hr n6 n7
                by_cases hz : 4 < x + z
                · have hf9 := Lib.hid (show s.lerr xs = 9 by rw [Hr.out, if_pos hz])
                  rcases k4 with k4 | k4
                  · rw [k4] at c0
                    clear k4 k1 k3
                    go_wp2
                    go_quiet (fail)
                    go_wp2
                    go_ret2
                    exact Herr.out 9 (by decide) hf9.out _ (Xw.out.drewN _)
                  · rw [k4] at c0
                    clear k4 k1 k3
                    go_wp2
                    go_quiet (fail)
                    go_wp2
                    go_ret2
                    exact Herr.out 9 (by decide) hf9.out _ (Xw.out.drewN _)
                · have hf0 := Lib.hid (show s.lerr xs = 0 by rw [Hr.out, if_neg hz])
                  have hmm : M = 1 := by have := HMM.out; rw [Hmake.out, if_neg (by omega)] at this; omega
                  have hlast := Lib.hid (show ∀ q, RetIE .i64 w (s.lmade xs).length (s.lmade xs) (s.lerr xs) (.returned (.tuple #[.slice (some ⟨w3.heap.size, 0, none⟩) M M, .int .i64 0])) (wr.drewN q) from fun q => by
                    obtain ⟨v, he, hi, hx⟩ := Hones.out hf0.out N67.out.1 N67.out.2
                    exact ⟨v, he, hi.ext ((Ext.refl wr).drewN q), hx.drewN q⟩)
                  clear hmm
                  rcases k4 with k4 | k4
                  · rw [k4] at c0
                    clear k4 k1 k3
                    go_wp2
                    go_quiet (fail)
                    go_wp2
                    go_ret2
                    exact hlast.out _
                  · rw [k4] at c0
                    clear k4 k1 k3
                    go_wp2
                    go_quiet (fail)
                    go_wp2
                    go_ret2
                    exact hlast.out _
              · have hr := Hi3.out
                rw [if_neg k4] at hr
                by_cases k6 : s.k = 6
                · have hD1 : n = 1 := by
                    have := Hneed.out
                    rw [if_neg (by omega), if_neg k4, if_neg (by omega)] at this
                    have := Hl.out
                    omega
                  subst hD1
                  have hM1 : M = 1 := by have := HMM.out; rw [Hmake.out, if_neg (by omega)] at this; omega
                  subst hM1
                  obtain ⟨b, o, rfl, hcl⟩ := HI.out.at (i := 0) (by omega)
                  have e0 := hcl 0 (by omega)
                  rw [Nat.add_zero] at e0
                  obtain ⟨g1, g2⟩ := Hgi.out 0 (by omega)
                  have hst := Hrow.out.cell (i := 0) (by omega)
                  have hfz := Hrow.out.frozen 0
                  have hmd := fun h0 => by have := Hmd.out h0; rw [if_pos k6] at this; exact this
                  generalize gi xs 0 = x at *
                  have hfin2 := Hfin.out (wr.setCell ⟨w3.heap.size, 0, none⟩ (.int .i64 (x + 1))) _ [x + 1] (Hrow.out.set 0 (.int .i64 (x + 1))) rfl (fun i hi => by
                    obtain rfl : i = 0 := by omega
                    rw [if_pos rfl]; rfl)
                  have Hr := Lib.hid hr; have Hmd6 := Lib.hid hmd; have Hfin2 := Lib.hid hfin2
                  clear hr hmd hfin2 hcl
                  by_cases x3 : x = 3
                  · have hf9 := Lib.hid (show s.lerr xs = 9 by rw [Hr.out, if_pos ⟨k6, x3⟩])
                    have x3' : (x == 3) = true := beq_iff_eq.2 x3
                    rw [k6] at c0
                    clear k6 k4 k1 k3 x3
                    go_wp2
                    go_ret2
                    exact Herr.out 9 (by decide) hf9.out _ Xw.out
                  · have hf0 := show s.lerr xs = 0 by rw [Hr.out, if_neg (fun h => x3 h.2)]
                    have HL := Lib.hid (Hfin2.out hf0 (Hmd6.out hf0) (Xw.out.setCell (by have := X1.out.size; simp at this ⊢; omega) _))
                    have x3' : (x == 3) = false := beq_eq_false_iff_ne.2 x3
                    rw [k6] at c0
                    clear k6 k4 k1 k3 x3 hf0
                    go_wp2
                    go_ret2
                    exact HL.out
                · rw [if_neg (fun h => k6 h.1)] at hr
                  by_cases k7 : s.k = 7
                  · have hD1 : n = 1 := by
                      have := Hneed.out
                      rw [if_neg (by omega), if_neg k4, if_neg (by omega)] at this
                      have := Hl.out
                      omega
                    subst hD1
                    have hM1 : M = 1 := by have := HMM.out; rw [Hmake.out, if_neg (by omega)] at this; omega
                    subst hM1
                    obtain ⟨b, o, rfl, hcl⟩ := HI.out.at (i := 0) (by omega)
                    have e0 := hcl 0 (by omega)
                    rw [Nat.add_zero] at e0
                    have hst := Hrow.out.cell (i := 0) (by omega)
                    have hfz := Hrow.out.frozen 0
                    have hmd := Hmd.out hr
                    rw [if_neg k6, if_pos k7] at hmd
                    generalize gi xs 0 = x at *
                    have HL := Lib.hid (Hfin.out (wr.setCell ⟨w3.heap.size, 0, none⟩ (.int .i64 x)) _ [x] (Hrow.out.set 0 (.int .i64 x)) rfl (fun i hi => by
                      obtain rfl : i = 0 := by omega
                      rw [if_pos rfl]; rfl) hr hmd (Xw.out.setCell (by have := X1.out.size; simp at this ⊢; omega) _))
                    rw [k7] at c0
                    clear k7 k6 k4 k1 k3 hcl hmd hr
                    go_wp2
                    go_ret2
                    exact HL.out
                  · have HL := Lib.hid (Hones.out hr k6 k7)
                    have e4 : (s.k == 4) = false := beq_eq_false_iff_ne.2 (fun e => k4 (.inl e))
                    have e5 : (s.k == 5) = false := beq_eq_false_iff_ne.2 (fun e => k4 (.inr e))
                    have e6 : (s.k == 6) = false := beq_eq_false_iff_ne.2 k6
                    have e7 : (s.k == 7) = false := beq_eq_false_iff_ne.2 k7
                    clear k4 k6 k7 k3 hr
                    go_wp2
                    go_ret2
                    exact HL.out
    · have hl' : ((n : Int) != D) = true := by rw [bne, beq_eq_false_iff_ne.2 hl]; rfl
      have hf := Lib.hid (Hlen.out hl)
      clear hl
      go_wp2
      go_ret2
      exact Herr.out 5 (by decide) hf.out _ (((Ext.refl w).alloc _).trans X1.out)
  · have hr := lerr_chk (s := s) (xs := xs) (by omega)
    have Hr := Lib.hid hr
    have hq : (s.chk != 0) = true := by rw [hc1]; rfl
    have HR := Lib.hid (show ∀ w', Ext w w' → RetIE .i64 w (s.lmade xs).length (s.lmade xs) (s.lerr xs) (.returned (.tuple #[.slice none 0 0, .int .i64 1])) w' from fun w' x => by
      rw [lmade_err (by rw [hr]; decide), hr]; exact ⟨_, rfl, IS.nil _ _, x⟩)
    generalize s.chk = q at Hc hq
    clear hr hc1 hok hnb hmb
    unfold St.val at *
    go_enter Tryd.func71, Tryd.ntmps71
    go_wp2_with fail
    refine (Hc.out _).mono ?_
    rintro e w1 ⟨rfl, x1⟩
    have X1 := Lib.hid (((Ext.refl w).alloc _).trans x1)
    clear x1
    go_wp2
    go_ret2
    exact HR.out _ X1.out
end Go.Proofs.YthllbcjglcplhaaDoor
/- More for walks: append to the call's own as a step of a region that draws its order; slices of pairs of bytes. -/
namespace Go.Proofs.YthllbcjglcplhaaDoor
set_option linter.unusedVariables false
set_option linter.unusedSimpArgs false
open Go Go.RowKit

/-- 'append(s, x...)', s the call's own, x any slice: at a step of a region that draws its order. -/
theorem step_app_own {P : Program} {t e : TypeId} {z : Value} {bytes : Nat} (ei : EI P t e z bytes) {w : World} {ops : Array Oper} {o : Oper} {a : Act} {K : Act → World → Prop} {Q : Exit → Act → World → Prop} {E : Prop}
    (hg : o.guard = none) (s x : Operand) (hop : o.op = Op.call { callee := Callee.builtin Builtin.append, args := #[s, x], argTypes := #[t, t] })
    (B : Nat) (v : Value) (n : Nat) (xs : List Value) (hs : a.eval s = v) (hown : w.ownsRow B e 1 v n xs)
    (y : Value) (c : Nat) (ys : List Value) (hx : a.eval x = y) (hy : VS w y c ys) (h1 : ∀ u ∈ ys, u.oneCell' = true)
    (hbytes : (n + ys.length) * bytes ≤ 140737488355328) (hlen : n + ys.length ≤ 140737488355328) (hB : B ≤ w.heap.size)
    (hK : ∀ v' w', w'.ownsRow B e 1 v' (n + ys.length) (xs ++ ys) → Below B w w' → K (a.put o.dst v') w') :
    if Region.wanted o (yielded ops a.tmps) = true then Oper.wp P o a w K Q else E := by
  have hw : Region.wanted o (yielded ops a.tmps) = true := by simp [Region.wanted, hg]
  rw [if_pos hw]
  obtain ⟨i, hi, hz0, hz1, hz2⟩ := info_parts ei.info
  obtain ⟨ao, rfl, hl, hm, hno, hc⟩ := hy
  have hzs : z.cells.size = 1 := by rw [ei.cell]; rfl
  cases ao with
  | none =>
    have := hno rfl
    obtain rfl : ys = [] := List.eq_nil_of_length_eq_zero (by omega)
    subst this
    have hrun := run_append_owned_none (P := P) (w := w) B t o.type e i 1 ei.und hi _ n xs hown
    unfold Oper.wp
    simp [execOp, hop, resolve, invoke, builtin, hs, hx, hrun, Result.andThen]
    exact hK _ w (by simpa using hown) (Below.refl _ _)
  | some ad =>
    obtain ⟨v', w', hrun, r1, r2, _⟩ := run_append_own (P := P) w B t o.type e i z 1 bytes ei.und hi hz0 hz1 hz2 hzs (by decide) v n xs hown ad ys.length c ys (by simp) (VS.cells hl hc ad rfl) h1 (by unfold maxLen; omega) hbytes hB
    unfold Oper.wp
    simp [execOp, hop, resolve, invoke, builtin, hs, hx, hrun, Result.andThen]
    exact hK _ w' r1 (below_of_grown hown hB r2)

/-- .. with all that is known of the new world. -/
theorem step_app_grown {P : Program} {t e : TypeId} {z : Value} {bytes : Nat} (ei : EI P t e z bytes) {w : World} {ops : Array Oper} {o : Oper} {a : Act} {K : Act → World → Prop} {Q : Exit → Act → World → Prop} {E : Prop}
    (hg : o.guard = none) (s x : Operand) (hop : o.op = Op.call { callee := Callee.builtin Builtin.append, args := #[s, x], argTypes := #[t, t] })
    (B : Nat) (v : Value) (n : Nat) (xs : List Value) (hs : a.eval s = v) (hown : w.ownsRow B e 1 v n xs)
    (y : Value) (c : Nat) (ys : List Value) (hx : a.eval x = y) (hy : VS w y c ys) (h1 : ∀ u ∈ ys, u.oneCell' = true)
    (hbytes : (n + ys.length) * bytes ≤ 140737488355328) (hlen : n + ys.length ≤ 140737488355328) (hB : B ≤ w.heap.size)
    (hK : ∀ v' w', w'.ownsRow B e 1 v' (n + ys.length) (xs ++ ys) → w.grownBy w' v.ownBlock → K (a.put o.dst v') w') :
    if Region.wanted o (yielded ops a.tmps) = true then Oper.wp P o a w K Q else E := by
  have hw : Region.wanted o (yielded ops a.tmps) = true := by simp [Region.wanted, hg]
  rw [if_pos hw]
  obtain ⟨i, hi, hz0, hz1, hz2⟩ := info_parts ei.info
  obtain ⟨ao, rfl, hl, hm, hno, hc⟩ := hy
  have hzs : z.cells.size = 1 := by rw [ei.cell]; rfl
  cases ao with
  | none =>
    have := hno rfl
    obtain rfl : ys = [] := List.eq_nil_of_length_eq_zero (by omega)
    subst this
    have hrun := run_append_owned_none (P := P) (w := w) B t o.type e i 1 ei.und hi _ n xs hown
    unfold Oper.wp
    simp [execOp, hop, resolve, invoke, builtin, hs, hx, hrun, Result.andThen]
    exact hK _ w (by simpa using hown) (World.grownBy.refl _ _)
  | some ad =>
    obtain ⟨v', w', hrun, r1, r2, _⟩ := run_append_own (P := P) w B t o.type e i z 1 bytes ei.und hi hz0 hz1 hz2 hzs (by decide) v n xs hown ad ys.length c ys (by simp) (VS.cells hl hc ad rfl) h1 (by unfold maxLen; omega) hbytes hB
    unfold Oper.wp
    simp [execOp, hop, resolve, invoke, builtin, hs, hx, hrun, Result.andThen]
    exact hK _ w' r1 r2

/-- An empty slice of the call's own. -/
theorem own0 {w : World} {B g : Nat} {e : TypeId} (hb : w.heap[g]? = some (.cells #[] e (0, 0))) (hB : B ≤ g) : w.ownsRow B e 1 (.slice (some ⟨g, 0, none⟩) 0 0) 0 [] :=
  ⟨rfl, .inr ⟨g, 0, #[], rfl, hB, hb, Nat.le_refl _, by unfold maxLen; omega, rfl, rfl⟩⟩
theorem blk_at {w : World} {o : Obj} {g : Nat} (h : g = w.heap.size) : (w.alloc o).heap[g]? = some o := by rw [h]; exact Deep.blk_alloc_new _ _
theorem blk_old {w : World} {o o' : Obj} {g : Nat} (h : w.heap[g]? = some o) : (w.alloc o').heap[g]? = some o := ((Ext.refl w).alloc o').block h
theorem blk_drew {w : World} {o : Obj} {g : Nat} (h : w.heap[g]? = some o) : w.drew.heap[g]? = some o := h
theorem blk_drewN {w : World} {o : Obj} {g n : Nat} (h : w.heap[g]? = some o) : (w.drewN n).heap[g]? = some o := h
/-- A world with some blocks more. -/
theorem Ext.of_push {w W : World} (os : Array Obj) (h1 : W.os = w.os) (h2 : W.tape = w.tape) (h3 : W.output = w.output) (h4 : W.heap = w.heap ++ os) : Ext w W :=
  ⟨h1, h2, h3, by rw [h4]; simp, fun j hj => by rw [h4, Array.getElem?_append_left hj]⟩
/-- Two numbers in a block of the call's own. -/
theorem two_is {w : World} {g : Nat} {e : TypeId} {x y : Int} (hb : w.heap[g]? = some (.cells #[.int .i64 x, .int .i64 y] e (0, 0))) : IS .i64 w (.slice (some ⟨g, 0, none⟩) 2 2) 2 [x, y] :=
  IS.mk rfl (Nat.le_refl _) (by unfold maxLen; omega) fun i hi => by
    rw [Nat.zero_add]
    have : i = 0 ∨ i = 1 := by omega
    rcases this with rfl | rfl <;> simp [World.cell?, hb, gi]

theorem IS.upto {k : IntKind} {w : World} {a : Option Addr} {n c c' : Nat} {xs : List Int} (h : IS k w (.slice a n c) c' xs) {m : Nat} (hm : m ≤ n) : IS k w (.slice a m c) c' (xs.take m) := by
  obtain ⟨rfl, rfl, hc⟩ := h.len
  obtain ⟨ao, hv, h1, h2, h3, h4⟩ := h
  simp only [Value.slice.injEq] at hv
  obtain ⟨rfl, _, _⟩ := hv
  refine ⟨a, by simp [Nat.min_eq_left hm], by simp; omega, h2, h3, fun b hb => ⟨(h4 b hb).1, fun j u hj => (h4 b hb).2 j u ?_⟩⟩
  rw [List.map_take, List.getElem?_take] at hj
  split at hj
  · exact hj
  · cases hj

theorem IS.empty {k : IntKind} {w : World} (a : Option Addr) : IS k w (.slice a 0 0) 0 [] :=
  ⟨a, rfl, Nat.le_refl _, by unfold maxLen; omega, fun _ => rfl, fun b hb => ⟨fun h => absurd h (by omega), fun j u hj => by simp at hj⟩⟩
/-- The part of a slice from i on. -/
theorem IS.from {k : IntKind} {w : World} {a : Option Addr} {n c c' : Nat} {xs : List Int} (h : IS k w (.slice a n c) c' xs) (i : Nat) (hi : i ≤ n) :
    (∃ b o, a = some ⟨b, o, none⟩ ∧ IS k w (.slice (if c = i then some ⟨b, o, none⟩ else some ⟨b, o + i, none⟩) (n - i) (c - i)) (c - i) (xs.drop i)) ∨ (c = 0 ∧ n = 0 ∧ i = 0 ∧ xs = []) := by
  obtain ⟨h1, h2, ao, hv, hao⟩ := h.open
  simp only [Value.slice.injEq] at hv
  obtain ⟨rfl, rfl, rfl⟩ := hv
  rcases hao with ⟨_, h0, h9⟩ | ⟨b, o, rfl, hc⟩
  · exact .inr ⟨h9, h0, by omega, List.eq_nil_of_length_eq_zero h0⟩
  · refine .inl ⟨b, o, rfl, ?_⟩
    split
    · exact IS.mk (by simp) (by omega) (by omega) fun j hj => by omega
    · exact IS.mk (by simp) (by omega) (by omega) fun j hj => by rw [gi_drop, Nat.add_assoc]; exact hc (i + j) (by omega)

/-- 'append(s, x...)' within the capacity, with all that is known of the new world. -/
theorem app_fits_g {P : Program} {t e : TypeId} {z : Value} {bytes : Nat} (ei : EI P t e z bytes) {w : World} {ops : Array Oper} {rest : List Oper} {o : Oper} {a : Act} {Q : Exit → Act → World → Prop}
    (hg : o.guard = none) (s x : Operand) (hop : o.op = Op.call { callee := Callee.builtin Builtin.append, args := #[s, x], argTypes := #[t, t] })
    (B g n cap : Nat) (xs : List Value) (hs : a.eval s = .slice (some ⟨g, 0, none⟩) n cap) (hown : w.ownsRow B e 1 (.slice (some ⟨g, 0, none⟩) n cap) n xs)
    (y : Value) (c : Nat) (ys : List Value) (hx : a.eval x = y) (hy : VS w y c ys) (h1 : ∀ u ∈ ys, u.oneCell' = true) (hfit : n + ys.length ≤ cap)
    (hK : ∀ w', w'.ownsRow B e 1 (.slice (some ⟨g, 0, none⟩) (n + ys.length) cap) (n + ys.length) (xs ++ ys) → w.grownBy w' (some g) → wpList P ops Q rest (a.put o.dst (.slice (some ⟨g, 0, none⟩) (n + ys.length) cap)) w') :
    wpList P ops Q (o :: rest) a w := by
  obtain ⟨i, hi, hz0, hz1, hz2⟩ := info_parts ei.info
  obtain ⟨ao, rfl, hl, hm, hno, hc⟩ := hy
  refine wpList_append_fits_any w hg s x t hop B e i 1 ei.und hi hz1 g n cap xs hs hown ao ys.length c ys hx (by simp) (fun h => ?_) (VS.cells hl hc) h1 hfit ?_
  · have := hno h; omega
  · intro w' h2 h3
    exact hK w' h2 h3

theorem own_of_row {w : World} {g m n : Nat} {e : TypeId} {f : Nat → Value} (h : w.rowIs g e n f) (hm : m ≤ n) (hn : n ≤ maxLen) : w.ownsRow g e 1 (.slice (some ⟨g, 0, none⟩) m n) m ((List.range m).map f) := by
  obtain ⟨cur, h1, h2, h3⟩ := h
  refine ⟨by simp, .inr ⟨g, n, cur, rfl, Nat.le_refl _, h1, hm, hn, by omega, ?_⟩⟩
  apply List.ext_getElem?
  intro i
  simp only [Nat.mul_one]
  by_cases hi : i < m
  · rw [List.getElem?_take, if_pos hi, Array.getElem?_toList, h3 i (by omega)]; simp [hi]
  · rw [List.getElem?_eq_none (by simp; omega), List.getElem?_eq_none (by simp; omega)]

/-- A slice of pairs of bytes: nothing, or an address and the cells. -/
def PS (w : World) (v : Value) (c : Nat) (ms : List (Int × Int)) : Prop :=
  ∃ ao : Option Addr, v = .slice ao ms.length c ∧ ms.length ≤ c ∧ c ≤ maxLen ∧ (ms = [] ∨ ∃ b o, ao = some ⟨b, o, none⟩ ∧
    ∀ i, i < ms.length → w.cell? ⟨b, o + i * 2, none⟩ = some (.int .u8 (ms.getD i (0, 0)).1) ∧ w.cell? ⟨b, o + i * 2 + 1, none⟩ = some (.int .u8 (ms.getD i (0, 0)).2))
theorem PS.ext {w w' : World} {v : Value} {c : Nat} {ms : List (Int × Int)} (h : PS w v c ms) (e : Ext w w') : PS w' v c ms := by
  obtain ⟨ao, h1, h2, h3, h4⟩ := h
  refine ⟨ao, h1, h2, h3, ?_⟩
  rcases h4 with h4 | ⟨b, o, h5, h6⟩
  · exact .inl h4
  · exact .inr ⟨b, o, h5, fun i hi => ⟨e.cell (h6 i hi).1, e.cell (h6 i hi).2⟩⟩
def pi (ms : List (Int × Int)) (i : Nat) : Int × Int := ms.getD i (0, 0)
theorem pi_take {ms : List (Int × Int)} {k : Nat} (h : k < ms.length) : ms.take (k + 1) = ms.take k ++ [pi ms k] := by
  rw [List.take_succ_eq_append_getElem h]; unfold pi; simp [List.getD, h]
theorem PS.open {w : World} {v : Value} {c : Nat} {ms : List (Int × Int)} (h : PS w v c ms) : ∃ ao n, v = .slice ao n c ∧ n = ms.length ∧ n ≤ c ∧ c ≤ maxLen ∧ ∀ i, i < n → ∃ b o, ao = some ⟨b, o, none⟩ ∧ w.cell? ⟨b, o + i * 2, none⟩ = some (.int .u8 (pi ms i).1) ∧ w.cell? ⟨b, o + i * 2 + 1, none⟩ = some (.int .u8 (pi ms i).2) := by
  obtain ⟨ao, h1, h2, h3, h4⟩ := h
  refine ⟨ao, _, h1, rfl, h2, h3, fun i hi => ?_⟩
  rcases h4 with h4 | ⟨b, o, h5, h6⟩
  · rw [h4] at hi; simp at hi
  · exact ⟨b, o, h5, h6 i hi⟩
end Go.Proofs.YthllbcjglcplhaaDoor
