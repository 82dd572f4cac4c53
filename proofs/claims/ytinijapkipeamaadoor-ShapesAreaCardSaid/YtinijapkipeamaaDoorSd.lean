/- Contract of charts.CheckRow. -/
import Derived.Test.YtinijapkipeamaaDoorSc
namespace Go.Proofs.YtinijapkipeamaaDoor
set_option linter.unusedVariables false
set_option linter.unusedSimpArgs false
set_option maxRecDepth 8000
open Go Go.RowKit

theorem rchk_long {l : List St} (h : 16 < l.length) : rchk l = 3 := by unfold rchk; rw [if_pos h]
theorem rchk_empty {l : List St} (h : l.length = 0) : rchk l = 1 := by unfold rchk; rw [if_neg (by omega), if_pos h]
theorem rchk_bad {l : List St} {i : Nat} (h : l.length ≤ 16) (hi : i < l.length) (hb : (si l i).chk ≠ 0) : rchk l = 1 := by
  unfold rchk
  rw [if_neg (by omega), if_neg (by omega), if_pos]
  rw [List.any_eq_true]
  exact ⟨_, si_mem hi, by simpa using hb⟩
theorem rchk_sum {l : List St} (h : l.length ≤ 16) (h0 : l.length ≠ 0) (hg : ∀ i, i < l.length → (si l i).chk = 0) : rchk l = if rneed l < 1 ∨ 16 < rneed l ∨ rmake l < 1 ∨ 16 < rmake l then 5 else 0 := by
  unfold rchk
  rw [if_neg (by omega), if_neg h0, if_neg]
  rw [List.any_eq_true]
  rintro ⟨s, hs, hb⟩
  obtain ⟨i, hi, rfl⟩ := List.mem_iff_getElem.1 hs
  have := hg i hi
  rw [si_of_lt hi] at this
  simp [this] at hb

set_option maxHeartbeats 2000000 in
theorem CheckRow_calls (v : Value) (c : Nat) (l : List St) (w : World) (h : RS w v c l) : Calls Tryd.prog 68 #[v] w fun e w' => e = .returned (.int .i64 (rchk l)) ∧ Ext w w' := by
  obtain ⟨ao, n, rfl, hn, hc, hcm, hat⟩ := h.open
  unfold maxLen at hcm
  have HH := Lib.hid h
  by_cases h16 : 16 < n
  · have hr := Lib.hid (rchk_long (l := l) (by omega))
    have h16' : (16 : Int) < (n : Int) := by omega
    clear hn hat h HH h16
    go_enter Tryd.func68, Tryd.ntmps68
    go_wp2
    go_ret
    exact ⟨ret_int hr.out.symm, Ext.refl _⟩
  have h16' : ¬ (16 : Int) < (n : Int) := by omega
  by_cases h0 : n = 0
  · have hr := Lib.hid (rchk_empty (l := l) (by omega))
    have h0' : ((n : Int) == 0) = true := by rw [beq_iff_eq]; omega
    clear hn hat h HH h16 h0
    go_enter Tryd.func68, Tryd.ntmps68
    go_wp2
    go_ret
    exact ⟨ret_int hr.out.symm, Ext.refl _⟩
  have h0' : ((n : Int) == 0) = false := by rw [beq_eq_false_iff_ne]; omega
  have hbad : ∀ i, i < n → (si l i).chk ≠ 0 → rchk l = 1 := fun i hi hb => rchk_bad (by omega) (by omega) hb
  have hsum : (∀ i, i < n → (si l i).chk = 0) → rchk l = if rneed l < 1 ∨ 16 < rneed l ∨ rmake l < 1 ∨ 16 < rmake l then 5 else 0 := fun hg => rchk_sum (by omega) (by omega) (fun i hi => hg i (by omega))
  have hnb := rneed_bd l
  have hmb := rmake_bd l
  have hCN := fun w' (x : Ext w w') => CNeeds_calls _ c l w' (h.ext x) (by omega)
  have hCM := fun w' (x : Ext w w') => CMakes_calls _ c l w' (h.ext x) (by omega)
  rw [← hn] at hnb hmb
  obtain ⟨A, hA⟩ : ∃ A, A = rneed l := ⟨_, rfl⟩
  obtain ⟨M, hM⟩ : ∃ M, M = rmake l := ⟨_, rfl⟩
  rw [← hA] at hnb hsum hCN
  rw [← hM] at hmb hsum hCM
  obtain ⟨R, hR⟩ : ∃ R, R = rchk l := ⟨_, rfl⟩
  rw [← hR] at hbad hsum ⊢
  have HA := Lib.hid hat; have HBd := Lib.hid hbad; have HSm := Lib.hid hsum; have HN := Lib.hid hCN; have HM := Lib.hid hCM
  clear hat hbad hsum hCN hCM hn h HH hA hM hR h16 h0
  go_enter Tryd.func68, Tryd.ntmps68
  go_wp2
  go_loopw [4, 15] (fun _ i wr => ∃ k : Nat, k ≤ n ∧ i = .int .i64 k ∧ Hid (Ext w wr) ∧ Hid (∀ i, i < k → (si l i).chk = 0)) (fun _ i _ => n - (intOf i).toNat)
  case atStart => exact ⟨0, Nat.zero_le _, rfl, Lib.hid (Ext.refl w), Lib.hid (fun i hi => by omega)⟩
  case round =>
    obtain ⟨k, hk, rfl, Hx, HG⟩ := hrel
    by_cases hlt : k < n
    · obtain ⟨b, o, rfl, h5⟩ := HA.out k hlt
      obtain ⟨c0, c1, c2, c3, c4⟩ := h5.ext Hx.out
      have hcall := fun w => SCheck_calls (si l k) w
      have hbk := HBd.out k hlt
      have hnx : (si l k).chk = 0 → ∀ i, i < k + 1 → (si l i).chk = 0 := fun h0 i hi => by
        by_cases e : i = k
        · rw [e]; exact h0
        · exact HG.out i (by omega)
      obtain ⟨s, hse⟩ : ∃ s, s = si l k := ⟨_, rfl⟩
      rw [← hse] at c0 c1 c2 c3 c4 hcall hbk hnx
      have hcc := St.chk_cases s
      unfold St.val at hcall
      generalize St.chk s = q at hcall hbk hcc hnx
      have HCL := Lib.hid hcall; have HBk := Lib.hid hbk; have HNx := Lib.hid hnx
      clear hcall hbk hse h5 hnx
      go_wp2_with fail
      refine (HCL.out _).mono ?_
      rintro e w1 ⟨rfl, x1⟩
      have HX := Lib.hid (Hx.out.trans (((Ext.refl wr).alloc _).trans x1))
      clear x1 c0 c1 c2 c3 c4 HCL
      rcases hcc with rfl | rfl
      · go_wp2
        go_roundw
        case rel => exact ⟨k + 1, by omega, by go_num, HX, Lib.hid (HNx.out (by first | trivial | rfl))⟩
        case measure => simp [intOf]; omega
      · go_wp2
        go_ret
        exact ⟨ret_int (HBk.out (by decide)).symm, HX.out⟩
    · obtain rfl : n = k := by omega
      have hr := HSm.out HG.out
      have Hr := Lib.hid hr
      clear hr hlt
      go_wp2_with fail
      refine (HN.out _ Hx.out).mono ?_
      rintro e w1 ⟨rfl, x1⟩
      have X1 := Lib.hid (Hx.out.trans x1)
      clear x1
      go_wp2_with fail
      refine (HM.out _ X1.out).mono ?_
      rintro e w2 ⟨rfl, x2⟩
      have X2 := Lib.hid (X1.out.trans x2)
      clear x2
      by_cases a1 : A < 1
      · have hf := Lib.hid (show R = 5 by rw [Hr.out, if_pos (.inl a1)])
        go_wp2
        go_ret
        exact ⟨ret_int hf.out.symm, X2.out⟩
      · by_cases a2 : 16 < A
        · have hf := Lib.hid (show R = 5 by rw [Hr.out, if_pos (.inr (.inl a2))])
          go_wp2
          go_ret
          exact ⟨ret_int hf.out.symm, X2.out⟩
        · by_cases a3 : M < 1
          · have hf := Lib.hid (show R = 5 by rw [Hr.out, if_pos (.inr (.inr (.inl a3)))])
            go_wp2
            go_ret
            exact ⟨ret_int hf.out.symm, X2.out⟩
          · by_cases a4 : 16 < M
            · have hf := Lib.hid (show R = 5 by rw [Hr.out, if_pos (.inr (.inr (.inr a4)))])
              go_wp2
              go_ret
              exact ⟨ret_int hf.out.symm, X2.out⟩
            · have hf := Lib.hid (show R = 0 by rw [Hr.out, if_neg (by omega)])
              go_wp2
              go_ret
              exact ⟨ret_int hf.out.symm, X2.out⟩
end Go.Proofs.YtinijapkipeamaaDoor
