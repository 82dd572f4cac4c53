/- yarns.sided, cancel (of passes in one direction); loops.Count. -/
import Derived.Test.YtlhkehfplcclgaaDoorVi
namespace Go.Proofs.YtlhkehfplcclgaaDoor
set_option linter.unusedVariables false
set_option linter.unusedSimpArgs false
set_option maxRecDepth 8000
open Go Go.RowKit

theorem Sided_calls (d : Int) (w : World) (h : d = 0 ∨ d = 1) : Calls Tryd.prog 96 #[.int .u8 d] w fun e w' => e = .returned (.bool true) ∧ w' = w := by
  go_enter Tryd.func96, Tryd.ntmps96
  rcases h with rfl | rfl
  · go_wp2
    go_ret
    exact ⟨rfl, rfl⟩
  · go_wp2
    go_ret
    exact ⟨rfl, rfl⟩
set_option maxHeartbeats 4000000 in
theorem Cancel_calls (p q : Ps) (w : World) (h : p.d = 0 ∨ p.d = 1) (hq : q.d = p.d) : Calls Tryd.prog 95 #[p.val, q.val] w fun e w' => e = .returned (.bool false) ∧ Ext w w' := by
  obtain ⟨⟨y1, n1⟩, f1, d1⟩ := p
  obtain ⟨⟨y2, n2⟩, f2, d2⟩ := q
  dsimp only at h hq
  subst hq
  unfold Ps.val
  dsimp only
  have X := Lib.hid (show Ext w ((w.alloc (.cells #[.int .u8 y1, .int .i64 n1, .bool f1, .int .u8 d2] 50)).alloc (.cells #[.int .u8 y2, .int .i64 n2, .bool f2, .int .u8 d2] 50)) from ((Ext.refl _).alloc _).alloc _)
  have hS := Lib.hid (fun w' => Sided_calls d2 w' h)
  clear h
  go_enter Tryd.func95, Tryd.ntmps95
  go_wp2_with fail
  refine (hS.out _).mono ?_
  rintro e w1 ⟨rfl, rfl⟩
  go_wp2_with fail
  refine (hS.out _).mono ?_
  rintro e w1 ⟨rfl, rfl⟩
  go_wp2
  go_ret
  exact ⟨rfl, X.out⟩
/-- How many loops. -/
def cntT (t : Tab) : Int := ((t.map List.length).sum : Nat)
theorem cntT_take {t : Tab} {k : Nat} (h : k < t.length) : cntT (t.take (k + 1)) = cntT (t.take k) + ((yi t k).length : Nat) := by
  unfold cntT
  rw [yi_of h, List.take_succ_eq_append_getElem h, List.map_append, List.sum_append]; simp
theorem cntT_bd {t : Tab} (h5 : ∀ r ∈ t, r.length ≤ 1000) : 0 ≤ cntT t ∧ cntT t ≤ (t.length * 1000 : Nat) := by
  unfold cntT
  refine ⟨by omega, ?_⟩
  have : (t.map List.length).sum ≤ t.length * 1000 := by
    induction t with
    | nil => simp
    | cons r t ih =>
      have h1 := ih fun x hx => h5 x (by simp [hx])
      have h2 := h5 r (by simp)
      rw [List.map_cons, List.sum_cons, List.length_cons, Nat.add_mul]; omega
  omega
set_option maxHeartbeats 4000000 in
theorem CountL_calls (tv : Value) (ct : Nat) (t : Tab) (w : World) (h : TB w tv ct t) (h4 : t.length ≤ 100) (h5 : ∀ r ∈ t, r.length ≤ 1000) : Calls Tryd.prog 72 #[tv] w fun e w' => e = .returned (.int .i64 (cntT t)) ∧ w' = w := by
  obtain ⟨ta, tn, rfl, htn, htc, ht9, hat⟩ := h.open
  have hS : ∀ k, k < tn → cntT (t.take (k + 1)) = cntT (t.take k) + ((yi t k).length : Nat) := fun k hk => cntT_take (by omega)
  have hB : ∀ k, k ≤ tn → 0 ≤ cntT (t.take k) ∧ cntT (t.take k) ≤ 100000 := fun k hk => by
    have h1 := cntT_bd (t := t.take k) fun r hr => h5 r (List.mem_of_mem_take hr)
    have h2 : (t.take k).length ≤ 100 := by simp; omega
    have h3 := Nat.mul_le_mul_right 1000 h2
    omega
  have hE : cntT t = cntT (t.take tn) := by rw [htn, List.take_length]
  have tn9 : tn ≤ 100 := by omega
  rw [hE]
  have h0 : (0 : Int) = cntT (t.take 0) := rfl
  obtain ⟨F, hF⟩ : ∃ F : Nat → Int, F = fun k => cntT (t.take k) := ⟨_, rfl⟩
  have HS := Lib.hid (show ∀ k, k < tn → F (k + 1) = F k + ((yi t k).length : Nat) by rw [hF]; exact hS)
  have HB := Lib.hid (show ∀ k, k ≤ tn → 0 ≤ F k ∧ F k ≤ 100000 by rw [hF]; exact hB)
  have H0 := Lib.hid (show (0 : Int) = F 0 by rw [hF]; rfl)
  have HF := Lib.hid (show F tn = cntT (t.take tn) by rw [hF])
  have Hat := Lib.hid hat
  rw [← HF.out]
  clear hS hB hE h0 hF hat htn h h4 h5
  go_enter Tryd.func72, Tryd.ntmps72
  go_wp2
  go_loopw [3, 5, 8] (fun s _ i wr => ∃ k : Nat, k ≤ tn ∧ i = .int .i64 k ∧ s = .int .i64 (F k) ∧ wr = w) (fun _ _ i _ => tn - (intOf i).toNat)
  case atStart => exact ⟨0, Nat.zero_le _, rfl, by rw [← H0.out], rfl⟩
  case round =>
    obtain ⟨k, hk, rfl, rfl, rfl⟩ := hrel
    by_cases hlt : k < tn
    · obtain ⟨b, o, av, m, d, rfl, hc, hm, _⟩ := Hat.out k hlt
      have e1 : (k : Int) < tn := by omega
      have e2 : (0 : Int) ≤ k := by omega
      have h1 := HS.out k hlt
      have h2 := HB.out (k + 1) (by omega)
      rw [← hm] at h1
      have g1 : IntKind.i64.wrap (F k + (m : Int)) = F (k + 1) := by rw [← h1]; exact IntWalk.i64_in _ ⟨by omega, by omega⟩
      clear h1 h2 hm
      go_wp2
      go_roundw
      case rel => exact ⟨k + 1, by omega, by go_num, rfl, by first | rfl | trivial⟩
      case measure => simp [intOf]; omega
    · obtain rfl : k = tn := by omega
      have e1 : ¬ (k : Int) < k := by omega
      go_wp2
      go_ret
      exact ⟨rfl, rfl⟩
end Go.Proofs.YtlhkehfplcclgaaDoor
