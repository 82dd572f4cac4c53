/- The law ShapesCheck, walked. -/
import Derived.Test.YtinijapkipeamaaDoorTp
namespace Go.Proofs.YtinijapkipeamaaDoor
set_option linter.unusedVariables false
set_option linter.unusedSimpArgs false
set_option maxRecDepth 8000
open Go Go.RowKit

set_option maxHeartbeats 2000000 in
theorem ShapesCheck_walk (v : Value) (c : Nat) (l : List Int) (y : Int) (w : World) (h : IS .i64 w v c l) (hl : ∀ i, i < l.length → -9223372036854775808 ≤ gi l i ∧ gi l i ≤ 9223372036854775807) (hb : 0 ≤ y ∧ y ≤ 255) (hy : Sy w) :
    Calls Tryd.prog 3 #[v, .int .u8 y] w fun e w' => e = .returned (.bool true) ∧ Ext w w' := by
  have k1 := RCheck_calls v c l w h
  have k2 := fun w' (x : Ext w w') => Chart_calls v c l y w' (h.ext x) hb
  have k3 := fun w' (x : Ext w w') => Centre_calls v c l w' (h.ext x)
  have k4 := fun w' (x : Ext w w') => HCheck_calls v c l w' (h.ext x)
  have k5 := fun (he : oerr l = 0) w' (x : Ext w w') => RCentre_calls v c l w' (h.ext x) he
  have K1 := Lib.hid k1; have K2 := Lib.hid k2; have K3 := Lib.hid k3; have K4 := Lib.hid k4; have K5 := Lib.hid k5
  have HL := Lib.hid (fun w' (x : Ext w w') => lives_calls w' (hy.ext x))
  obtain ⟨ao, n, c', rfl, hn, rfl, hIS⟩ := h.out
  clear k1 k2 k3 k4 k5 hy h hIS hl
  by_cases hlong : 40 < n
  · have t1 : (40 : Int) < n := by omega
    clear hn
    go_enter Tryd.func3, Tryd.ntmps3
    go_wp2
    go_ret
    exact ⟨rfl, Ext.refl w⟩
  have t1 : ¬ (40 : Int) < n := by omega
  by_cases he : cherr l y = 0
  · have ho : oerr l = 0 ∧ 1 ≤ y ∧ y ≤ 6 := by
      unfold cherr at he
      by_cases a : oerr l ≠ 0
      · rw [if_pos a] at he; exact absurd he a
      · rw [if_neg a] at he
        by_cases b : y < 1 ∨ 6 < y
        · rw [if_pos b] at he; omega
        · exact ⟨by omega, by omega, by omega⟩
    obtain ⟨ho, y1, y2⟩ := ho
    have k5 := K5.out ho
    have k3 := K3.out
    have k1 := K1.out; have k2 := K2.out; have k4 := K4.out
    rw [ho] at k1 k3 k4
    rw [he] at k2
    simp only [if_true] at k3
    replace K1 := Lib.hid k1; replace K2 := Lib.hid k2; replace K3 := Lib.hid k3; replace K4 := Lib.hid k4; replace K5 := Lib.hid k5
    generalize cent l = C at K3 K5
    have g1 : ¬ y < 1 := by omega
    have g2 : ¬ 6 < y := by omega
    clear k1 k2 k3 k4 k5 ho he hn hlong
    go_enter Tryd.func3, Tryd.ntmps3
    go_wp2_with fail
    refine K1.out.mono ?_
    rintro e w1 ⟨rfl, x1⟩
    have X1 := Lib.hid x1
    clear x1 K1
    go_wp2_with fail
    refine (K2.out _ X1.out).mono ?_
    rintro e w2 ⟨v2, rfl, r2, x2⟩
    obtain ⟨a2, n2, rfl, q2⟩ := r2.open
    have X2 := Lib.hid ((X1.out.trans x2).alloc (.cells #[.slice a2 n2 (chres l y).length] 26))
    clear x2 K2 q2 r2 X1
    go_wp2_with fail
    refine (K3.out _ X2.out).mono ?_
    rintro e w3 ⟨rfl, x3⟩
    have X3 := Lib.hid (X2.out.trans x3)
    clear x3 K3 X2
    go_wp2_with fail
    refine (K4.out _ X3.out).mono ?_
    rintro e w4 ⟨rfl, x4⟩
    have X4 := Lib.hid (X3.out.trans x4)
    clear x4 K4 X3
    go_wp2_with fail
    refine (K5.out _ X4.out).mono ?_
    rintro e w5 ⟨rfl, x5⟩
    have X5 := Lib.hid (X4.out.trans x5)
    clear x5 K5 X4
    go_wp2_with fail
    refine (HL.out _ X5.out).mono ?_
    rintro e w6 ⟨rfl, x6⟩
    have X6 := Lib.hid (X5.out.trans x6)
    clear x6 HL X5
    go_wp2
    go_ret
    exact ⟨rfl, X6.out⟩
  · have hr : chres l y = [] := by unfold chres; rw [if_neg he]
    have hd : (oerr l ≠ 0 ∧ cherr l y = oerr l) ∨ (oerr l = 0 ∧ cherr l y = 1 ∧ (y < 1 ∨ 6 < y)) := by
      unfold cherr at he ⊢
      by_cases a : oerr l ≠ 0
      · exact .inl ⟨a, if_pos a⟩
      · rw [if_neg a] at he ⊢
        by_cases b : y < 1 ∨ 6 < y
        · exact .inr ⟨by omega, if_pos b, b⟩
        · rw [if_neg b] at he; exact absurd rfl he
    have k2 := K2.out
    rw [hr] at k2
    replace K2 := Lib.hid k2
    clear k2 hr he hn hlong
    rcases hd with ⟨ho, hc⟩ | ⟨ho, hc, hb2⟩
    · have k1 := K1.out; have k2 := K2.out; have k3 := K3.out; have k4 := K4.out
      rw [hc] at k2
      simp only [if_neg ho] at k3
      replace K1 := Lib.hid k1; replace K2 := Lib.hid k2; replace K3 := Lib.hid k3; replace K4 := Lib.hid k4
      have tq : (oerr l != 0) = true := by rw [bne, beq_eq_false_iff_ne.2 ho]; rfl
      clear k1 k2 k3 k4 K5 hc
      generalize oerr l = q at K1 K2 K3 K4 tq ho
      go_enter Tryd.func3, Tryd.ntmps3
      go_wp2_with fail
      refine K1.out.mono ?_
      rintro e w1 ⟨rfl, x1⟩
      have X1 := Lib.hid x1
      clear x1 K1
      go_wp2_with fail
      refine (K2.out _ X1.out).mono ?_
      rintro e w2 ⟨v2, rfl, r2, x2⟩
      obtain ⟨a2, n2, rfl, q2, _⟩ := r2.open
      rw [List.length_nil] at q2
      subst q2
      have b2 : (w2.alloc (.cells #[.slice a2 0 ([] : List (List St)).length] 26)).cell? ⟨w2.heap.size, 0, none⟩ = some (.slice a2 0 ([] : List (List St)).length) := by rw [World.cell?_alloc_at (hn := rfl)]; rfl
      have X2 := Lib.hid ((X1.out.trans x2).alloc (.cells #[.slice a2 0 ([] : List (List St)).length] 26))
      have B2 := Lib.hid b2
      clear x2 K2 r2 X1 b2
      go_wp2_with fail
      refine (K3.out _ X2.out).mono ?_
      rintro e w3 ⟨rfl, x3⟩
      have X3 := Lib.hid (X2.out.trans x3)
      have B3 := Lib.hid (x3.cell B2.out)
      clear x3 K3 X2 B2
      go_wp2_with fail
      refine (K4.out _ X3.out).mono ?_
      rintro e w4 ⟨rfl, x4⟩
      have X4 := Lib.hid (X3.out.trans x4)
      have b4 := x4.cell B3.out
      clear x4 K4 X3 B3
      go_wp2_with fail
      refine (HL.out _ X4.out).mono ?_
      rintro e w6 ⟨rfl, x6⟩
      have X6 := Lib.hid (X4.out.trans x6)
      clear x6 HL X4
      go_wp2
      go_ret
      exact ⟨rfl, X6.out⟩
    have k1 := K1.out; have k2 := K2.out; have k3 := K3.out; have k4 := K4.out
    rw [ho] at k1 k3 k4
    rw [hc] at k2
    simp only [if_true] at k3
    replace K1 := Lib.hid k1; replace K2 := Lib.hid k2; replace K3 := Lib.hid k3; replace K4 := Lib.hid k4
    generalize cent l = C at K3
    clear k1 k2 k3 k4 K5 hc ho
    rcases (show y < 1 ∨ (¬ y < 1 ∧ 6 < y) by omega) with hy1 | ⟨hy1, hy2⟩
    all_goals
      clear hb2
      go_enter Tryd.func3, Tryd.ntmps3
      go_wp2_with fail
      refine K1.out.mono ?_
      rintro e w1 ⟨rfl, x1⟩
      have X1 := Lib.hid x1
      clear x1 K1
      go_wp2_with fail
      refine (K2.out _ X1.out).mono ?_
      rintro e w2 ⟨v2, rfl, r2, x2⟩
      obtain ⟨a2, n2, rfl, q2, _⟩ := r2.open
      rw [List.length_nil] at q2
      subst q2
      have b2 : (w2.alloc (.cells #[.slice a2 0 ([] : List (List St)).length] 26)).cell? ⟨w2.heap.size, 0, none⟩ = some (.slice a2 0 ([] : List (List St)).length) := by rw [World.cell?_alloc_at (hn := rfl)]; rfl
      have X2 := Lib.hid ((X1.out.trans x2).alloc (.cells #[.slice a2 0 ([] : List (List St)).length] 26))
      have B2 := Lib.hid b2
      clear x2 K2 r2 X1 b2
      go_wp2_with fail
      refine (K3.out _ X2.out).mono ?_
      rintro e w3 ⟨rfl, x3⟩
      have X3 := Lib.hid (X2.out.trans x3)
      have B3 := Lib.hid (x3.cell B2.out)
      clear x3 K3 X2 B2
      go_wp2_with fail
      refine (K4.out _ X3.out).mono ?_
      rintro e w4 ⟨rfl, x4⟩
      have X4 := Lib.hid (X3.out.trans x4)
      have b4 := x4.cell B3.out
      clear x4 K4 X3 B3
      go_wp2_with fail
      refine (HL.out _ X4.out).mono ?_
      rintro e w6 ⟨rfl, x6⟩
      have X6 := Lib.hid (X4.out.trans x6)
      clear x6 HL X4
      go_wp2
      go_ret
      exact ⟨rfl, X6.out⟩
end Go.Proofs.YtinijapkipeamaaDoor
