/- Contracts of charts.total, Needs, Makes. -/
import Derived.Test.YtinijapkipeamaaDoorSb
namespace Go.Proofs.YtinijapkipeamaaDoor
set_option linter.unusedVariables false
set_option linter.unusedSimpArgs false
set_option maxRecDepth 8000
open Go Go.RowKit

set_option maxHeartbeats 1000000 in
theorem total_Needs (v : Value) (c : Nat) (l : List St) (w : World) (h : RS w v c l) (hl : l.length ≤ 1000000) : Calls Tryd.prog 56 #[v, .func (Fn.func 54) #[] #[]] w fun e w' => e = .returned (.int .i64 (rneed l)) ∧ Ext w w' := by
  obtain ⟨ao, n, rfl, hn, hc, hcm, hat⟩ := h.open
  have hst : ∀ k, k < n → rneed (l.take (k + 1)) = rneed (l.take k) + St.need (si l k) := fun k hk => by rw [take_succ_si (by omega), rneed_snoc]
  have hbd : ∀ k, k ≤ n → 0 ≤ rneed (l.take k) ∧ rneed (l.take k) ≤ 4000000 := fun k hk => by
    have := rneed_bd (l.take k)
    rw [List.length_take] at this
    omega
  have hend : rneed (l.take n) = rneed l := by rw [hn, List.take_length]
  have hb1 := fun s => St.need_bd s
  rw [← hn] at hl
  have HA := Lib.hid hat; have HS := Lib.hid hst; have HB := Lib.hid hbd; have HE := Lib.hid hend; have HO := Lib.hid hb1
  clear hat hst hbd hend hb1 hn h
  unfold maxLen at hcm
  go_enter Tryd.func56, Tryd.ntmps56
  go_wp2
  go_loopw [5, 7, 10] (fun t _ i wr => ∃ k : Nat, k ≤ n ∧ i = .int .i64 k ∧ t = .int .i64 (rneed (l.take k)) ∧ Hid (Ext w wr)) (fun _ _ i _ => n - (intOf i).toNat)
  case atStart => exact ⟨0, Nat.zero_le _, rfl, rfl, Lib.hid (Ext.refl w)⟩
  case round =>
    obtain ⟨k, hk, rfl, rfl, Hx⟩ := hrel
    by_cases hlt : k < n
    · obtain ⟨b, o, rfl, h5⟩ := HA.out k hlt
      obtain ⟨c0, c1, c2, c3, c4⟩ := h5.ext Hx.out
      obtain ⟨g1, g2⟩ := HB.out k hk
      have hs := HS.out k hlt
      obtain ⟨g3, g4⟩ := HO.out (si l k)
      have hcall := fun w => SNeeds_calls (si l k) w
      obtain ⟨s, hse⟩ : ∃ s, s = si l k := ⟨_, rfl⟩
      rw [← hse] at c0 c1 c2 c3 c4 hs g3 g4 hcall
      obtain ⟨T, hT⟩ : ∃ T, T = rneed (l.take k) := ⟨_, rfl⟩
      rw [← hT] at g1 g2 hs ⊢
      obtain ⟨D, hD⟩ : ∃ D, D = St.need s := ⟨_, rfl⟩
      rw [← hD] at g3 g4 hs
      unfold St.val at hcall
      rw [← hD] at hcall
      have HCL := Lib.hid hcall; have HSS := Lib.hid hs
      clear hcall hs hse hT hD h5
      go_wp2_with fail
      refine (HCL.out _).mono ?_
      rintro e w1 ⟨rfl, x1⟩
      have HX := Lib.hid (Hx.out.trans (((Ext.refl wr).alloc _).trans x1))
      clear x1 c0 c1 c2 c3 c4 HCL
      go_wp2
      go_roundw
      case rel => exact ⟨k + 1, by omega, by go_num, by rw [HSS.out], HX⟩
      case measure => simp [intOf]; omega
    · obtain rfl : n = k := by omega
      rw [HE.out]
      go_wp2
      go_ret
      exact ⟨rfl, Hx.out⟩

theorem CNeeds_calls (v : Value) (c : Nat) (l : List St) (w : World) (h : RS w v c l) (hl : l.length ≤ 1000000) : Calls Tryd.prog 39 #[v] w fun e w' => e = .returned (.int .i64 (rneed l)) ∧ Ext w w' := by
  have hc := total_Needs v c l w h hl
  obtain ⟨ao, n, rfl, h0⟩ := h.open
  have HC := Lib.hid hc
  clear hc h hl h0
  go_enter Tryd.func39, Tryd.ntmps39
  go_wp2_with fail
  refine HC.out.mono ?_
  rintro e w1 ⟨rfl, x1⟩
  go_wp2
  go_ret
  exact ⟨rfl, x1⟩

set_option maxHeartbeats 1000000 in
theorem total_Makes (v : Value) (c : Nat) (l : List St) (w : World) (h : RS w v c l) (hl : l.length ≤ 1000000) : Calls Tryd.prog 56 #[v, .func (Fn.func 22) #[] #[]] w fun e w' => e = .returned (.int .i64 (rmake l)) ∧ Ext w w' := by
  obtain ⟨ao, n, rfl, hn, hc, hcm, hat⟩ := h.open
  have hst : ∀ k, k < n → rmake (l.take (k + 1)) = rmake (l.take k) + St.make (si l k) := fun k hk => by rw [take_succ_si (by omega), rmake_snoc]
  have hbd : ∀ k, k ≤ n → 0 ≤ rmake (l.take k) ∧ rmake (l.take k) ≤ 4000000 := fun k hk => by
    have := rmake_bd (l.take k)
    rw [List.length_take] at this
    omega
  have hend : rmake (l.take n) = rmake l := by rw [hn, List.take_length]
  have hb1 := fun s => St.make_bd s
  rw [← hn] at hl
  have HA := Lib.hid hat; have HS := Lib.hid hst; have HB := Lib.hid hbd; have HE := Lib.hid hend; have HO := Lib.hid hb1
  clear hat hst hbd hend hb1 hn h
  unfold maxLen at hcm
  go_enter Tryd.func56, Tryd.ntmps56
  go_wp2
  go_loopw [5, 7, 10] (fun t _ i wr => ∃ k : Nat, k ≤ n ∧ i = .int .i64 k ∧ t = .int .i64 (rmake (l.take k)) ∧ Hid (Ext w wr)) (fun _ _ i _ => n - (intOf i).toNat)
  case atStart => exact ⟨0, Nat.zero_le _, rfl, rfl, Lib.hid (Ext.refl w)⟩
  case round =>
    obtain ⟨k, hk, rfl, rfl, Hx⟩ := hrel
    by_cases hlt : k < n
    · obtain ⟨b, o, rfl, h5⟩ := HA.out k hlt
      obtain ⟨c0, c1, c2, c3, c4⟩ := h5.ext Hx.out
      obtain ⟨g1, g2⟩ := HB.out k hk
      have hs := HS.out k hlt
      obtain ⟨g3, g4⟩ := HO.out (si l k)
      have hcall := fun w => SMakes_calls (si l k) w
      obtain ⟨s, hse⟩ : ∃ s, s = si l k := ⟨_, rfl⟩
      rw [← hse] at c0 c1 c2 c3 c4 hs g3 g4 hcall
      obtain ⟨T, hT⟩ : ∃ T, T = rmake (l.take k) := ⟨_, rfl⟩
      rw [← hT] at g1 g2 hs ⊢
      obtain ⟨D, hD⟩ : ∃ D, D = St.make s := ⟨_, rfl⟩
      rw [← hD] at g3 g4 hs
      unfold St.val at hcall
      rw [← hD] at hcall
      have HCL := Lib.hid hcall; have HSS := Lib.hid hs
      clear hcall hs hse hT hD h5
      go_wp2_with fail
      refine (HCL.out _).mono ?_
      rintro e w1 ⟨rfl, x1⟩
      have HX := Lib.hid (Hx.out.trans (((Ext.refl wr).alloc _).trans x1))
      clear x1 c0 c1 c2 c3 c4 HCL
      go_wp2
      go_roundw
      case rel => exact ⟨k + 1, by omega, by go_num, by rw [HSS.out], HX⟩
      case measure => simp [intOf]; omega
    · obtain rfl : n = k := by omega
      rw [HE.out]
      go_wp2
      go_ret
      exact ⟨rfl, Hx.out⟩

theorem CMakes_calls (v : Value) (c : Nat) (l : List St) (w : World) (h : RS w v c l) (hl : l.length ≤ 1000000) : Calls Tryd.prog 40 #[v] w fun e w' => e = .returned (.int .i64 (rmake l)) ∧ Ext w w' := by
  have hc := total_Makes v c l w h hl
  obtain ⟨ao, n, rfl, h0⟩ := h.open
  have HC := Lib.hid hc
  clear hc h hl h0
  go_enter Tryd.func40, Tryd.ntmps40
  go_wp2_with fail
  refine HC.out.mono ?_
  rintro e w1 ⟨rfl, x1⟩
  go_wp2
  go_ret
  exact ⟨rfl, x1⟩
end Go.Proofs.YtinijapkipeamaaDoor
