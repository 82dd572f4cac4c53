/- ganseyref19.Centre. -/
import Derived.Test.YtinijapkipeamaaDoorTc
namespace Go.Proofs.YtinijapkipeamaaDoor
set_option linter.unusedVariables false
set_option linter.unusedSimpArgs false
set_option maxRecDepth 8000
open Go Go.RowKit

set_option maxHeartbeats 2000000 in
theorem RCentre_calls (v : Value) (c : Nat) (l : List Int) (w : World) (h : IS .i64 w v c l) (he : oerr l = 0) : Calls Tryd.prog 16 #[v] w fun e w' => e = .returned (.int .i64 (cent l)) ∧ Ext w w' := by
  obtain ⟨ao, n, c', rfl, hn, rfl, hIS⟩ := h.out
  obtain ⟨z1, z2, z5, z3, z4⟩ := oerr_zero he
  have hres : cent l = 2 * edge l (n - 1) + gi l (n - 1) - gi l 0 := by unfold cent; rw [hn]
  rw [← hn] at z1 z2 z3 z4
  obtain ⟨R, hR⟩ : ∃ R, R = cent l := ⟨_, rfl⟩
  rw [← hR] at hres ⊢
  obtain ⟨b, o, rfl, hcs⟩ := hIS.at (show 0 < n by omega)
  have HCs := Lib.hid hcs; have H3 := Lib.hid z3; have H4 := Lib.hid z4; have HR := Lib.hid hres
  have hc0 := hcs 0 (by omega)
  rw [Nat.add_zero] at hc0
  have g0 := z3 0 (by omega)
  obtain ⟨x0, hx0⟩ : ∃ x0, x0 = gi l 0 := ⟨_, rfl⟩
  rw [← hx0] at hc0 g0
  have HX0 := Lib.hid hx0
  have t0 : (0 : Int) < n := by omega
  clear hIS h z3 z4 hres hR hn he hcs hx0 z5
  go_enter Tryd.func16, Tryd.ntmps16
  go_wp2
  go_quiet (fail)
  go_wp2
  go_loopw [3, 4, 5] (fun s r i wr => ∃ (k : Nat) (E Q : Int), k + 1 ≤ n ∧ i = .int .i64 (k : Int) ∧ s = .int .i64 E ∧ r = .int .i64 Q ∧ Hid (E = edge l k) ∧ Hid (Q = gi l k + edge l k) ∧ Hid (Ext w wr)) (fun _ _ i _ => n - (intOf i).toNat)
  case atStart => exact ⟨0, 0, x0, by omega, rfl, rfl, rfl, Lib.hid rfl, Lib.hid (by rw [HX0.out]; simp [edge]), Lib.hid (by first | exact Ext.refl _ | exact ((Ext.refl _).drewN _))⟩
  case round =>
    obtain ⟨k, E, Q, hk, rfl, rfl, rfl, HE, HQ, Hy⟩ := hrel
    have hed := edge_bd l k
    have g1 := H3.out k (by omega)
    have he := HE.out
    have hq := HQ.out
    by_cases hlt : k + 1 < n
    · have hc1 := Hy.out.cell (HCs.out (k + 1) hlt); have hc2 := Hy.out.cell (HCs.out k (by omega))
      have g2 := H3.out (k + 1) hlt
      have g3 := H4.out k hlt
      have hst : edge l (k + 1) = edge l k + if endL k (gi l (k + 1) - gi l k) then (if 0 < gi l (k + 1) - gi l k then -1 else 1) else 0 := rfl
      obtain ⟨Y, hY⟩ : ∃ Y, Y = gi l (k + 1) := ⟨_, rfl⟩
      obtain ⟨X, hX⟩ : ∃ X, X = gi l k := ⟨_, rfl⟩
      rw [← hX] at hc2 g1 g3 hst hq
      rw [← hY] at hc1 g2 g3 hst
      have HY := Lib.hid hY
      clear hY hX HE HQ
      rw [← he] at hq hed hst
      generalize hm : Y - X = m at hst g3
      have p2 := odd_eq k
      unfold endL at hst
      generalize odd k = p at p2 hst
      have HSt := Lib.hid hst; have HQ := Lib.hid hq
      have t1 : IntKind.i64.wrap ((k : Int) + 1) = (k : Int) + 1 := IntWalk.i64_in _ ⟨by omega, by omega⟩
      have t2 : ((k : Int) + 1).toNat = k + 1 := by omega
      have t3 : (k : Int) + 1 < n := by omega
      have t4 : (0 : Int) ≤ (k : Int) + 1 := by omega
      have t5 : (k : Int) < n := by omega
      have t7 : (0 : Int) ≤ (k : Int) := by omega
      have t8 : IntKind.i64.wrap (Y - X) = m := by rw [hm]; exact IntWalk.i64_in _ ⟨by omega, by omega⟩
      have hQb : -40 ≤ Q ∧ Q ≤ 60 := by omega
      have hm' := Lib.hid hm
      clear he hst hq hm
      by_cases m1 : m = 2
      · subst m1
        go_wp2
        go_quiet (fail)
        clear hc1 hc2 t1 t2 t4 t5 t7 t8 p2
        go_wp2
        go_roundw
        case rel => exact ⟨k + 1, _, _, by omega, by go_num, rfl, rfl, Lib.hid (by rw [HSt.out]; simp; try omega), Lib.hid (by rw [HSt.out, ← HY.out, HQ.out]; have := hm'.out; simp; omega), Lib.hid (by first | exact Hy.out | exact (Hy.out.drewN _))⟩
        case measure => simp [intOf]; omega
      by_cases m2 : m = -2
      · subst m2
        go_wp2
        go_quiet (fail)
        clear hc1 hc2 t1 t2 t4 t5 t7 t8 p2
        go_wp2
        go_roundw
        case rel => exact ⟨k + 1, _, _, by omega, by go_num, rfl, rfl, Lib.hid (by rw [HSt.out]; simp; try omega), Lib.hid (by rw [HSt.out, ← HY.out, HQ.out]; have := hm'.out; simp; omega), Lib.hid (by first | exact Hy.out | exact (Hy.out.drewN _))⟩
        case measure => simp [intOf]; omega
      have q1 : (m == 2) = false := beq_eq_false_iff_ne.2 m1
      have q2 : (m == -2) = false := beq_eq_false_iff_ne.2 m2
      have hst2 := HSt.out
      rw [show (if m = 2 ∨ m = -2 then true else if m = 1 ∨ m = -1 then p else false) = (if m = 1 ∨ m = -1 then p else false) from if_neg (by omega)] at hst2
      clear HSt
      cases p
      · have HS := Lib.hid (show edge l (k + 1) = E by rw [hst2]; simp)
        have t9 : IntKind.i64.wrap (Q + m) = Q + m := IntWalk.i64_in _ ⟨by omega, by omega⟩
        clear hst2 m1 m2
        go_wp2
        go_quiet (fail)
        clear hc1 hc2 t1 t2 t4 t5 t7 t8
        go_wp2
        go_roundw
        case rel => exact ⟨k + 1, _, _, by omega, by go_num, rfl, rfl, Lib.hid HS.out.symm, Lib.hid (by rw [HS.out, ← HY.out, HQ.out]; have := hm'.out; omega), Lib.hid (by first | exact Hy.out | exact (Hy.out.drewN _))⟩
        case measure => simp [intOf]; omega
      · have HS := Lib.hid (show edge l (k + 1) = E - m by
          by_cases e1 : m = 1
          · subst e1; rw [hst2]; simp; try omega
          by_cases e2 : m = -1
          · subst e2; rw [hst2]; simp
          · obtain rfl : m = 0 := by omega
            rw [hst2]; simp)
        have t9 : IntKind.i64.wrap (E - m) = E - m := IntWalk.i64_in _ ⟨by omega, by omega⟩
        clear hst2 m1 m2
        go_wp2
        go_quiet (fail)
        clear hc1 hc2 t1 t2 t4 t5 t7 t8
        go_wp2
        go_roundw
        case rel => exact ⟨k + 1, _, _, by omega, by go_num, rfl, rfl, Lib.hid HS.out.symm, Lib.hid (by rw [HS.out, ← HY.out, HQ.out]; have := hm'.out; omega), Lib.hid (by first | exact Hy.out | exact (Hy.out.drewN _))⟩
        case measure => simp [intOf]; omega
    · have hnk : n = k + 1 := by omega
      have hr := HR.out
      rw [show n - 1 = k by omega, ← HX0.out] at hr
      have hfin : R = E + Q - x0 := by omega
      have HF := Lib.hid hfin
      replace hc0 := Hy.out.cell hc0
      have t1 : ¬ ((k : Int) + 1 < n) := by omega
      have t5 : IntKind.i64.wrap (E + Q) = E + Q := IntWalk.i64_in _ ⟨by omega, by omega⟩
      have t6 : IntKind.i64.wrap (E + Q - x0) = E + Q - x0 := IntWalk.i64_in _ ⟨by omega, by omega⟩
      clear hnk hlt hfin hr he hq HE HQ
      go_wp2
      go_ret
      exact ⟨ret_int HF.out.symm, by first | exact Hy.out | exact (Hy.out.drewN _)⟩
end Go.Proofs.YtinijapkipeamaaDoor
