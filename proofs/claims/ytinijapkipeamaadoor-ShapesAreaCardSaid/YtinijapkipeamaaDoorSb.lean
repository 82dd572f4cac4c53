/- Contracts of stitches.Needs, Makes. -/
import Derived.Test.YtinijapkipeamaaDoorSa
namespace Go.Proofs.YtinijapkipeamaaDoor
set_option linter.unusedVariables false
set_option linter.unusedSimpArgs false
set_option maxRecDepth 8000
open Go Go.RowKit

set_option maxHeartbeats 1000000 in
theorem SNeeds_calls (s : St) (w : World) : Calls Tryd.prog 54 #[s.val] w fun e w' => e = .returned (.int .i64 s.need) ∧ Ext w w' := by
  have hB := fun (_ : Nat) => B5.new w s 52
  have HB := Lib.hid hB
  clear hB
  obtain ⟨k, y, a, b, f⟩ := s
  have hc := SCheck_calls ⟨k, y, a, b, f⟩
  have hcc := St.chk_cases ⟨k, y, a, b, f⟩
  have hok := St.chk_ok (s := ⟨k, y, a, b, f⟩)
  have hfin : ∀ r : Int, r = St.need ⟨k, y, a, b, f⟩ → ∀ w', Ext w w' → (Ending.returned (.int .i64 r) = .returned (.int .i64 (St.need ⟨k, y, a, b, f⟩)) ∧ Ext w w') := fun r h w' hx => ⟨by rw [h], hx⟩
  have Fin := Lib.hid hfin; have Hc := Lib.hid hc
  clear hc hfin
  unfold St.val at *
  generalize hq : St.chk ⟨k, y, a, b, f⟩ = q at *
  have Hq := Lib.hid hq
  dsimp only at hok
  clear hq
  rcases hcc with rfl | rfl
  · obtain ⟨h1, h2, h3⟩ := hok rfl
    go_enter Tryd.func54, Tryd.ntmps54
    go_wp2_with fail
    refine (Hc.out _).mono ?_
    rintro e w1 ⟨rfl, x1⟩
    have hb := (HB.out 0).ext x1
    have c0 := hb.at.1; have c2 := hb.at.2.2.1; have c3 := hb.at.2.2.2.1
    have X1 := Lib.hid (((Ext.refl w).alloc _).trans x1)
    clear hb x1 HB Hc
    dsimp only at c0 c2 c3
    simp only [Nat.zero_add] at c2 c3
    by_cases k8 : k = 8
    · subst k8
      have b1 : 1 ≤ a ∧ a ≤ 3 ∧ 1 ≤ b ∧ b ≤ 3 := by omega
      obtain ⟨b1, b2, b3, b4⟩ := b1
      clear h3
      go_wp2
      go_ret
      exact Fin.out _ (by unfold St.need; rw [Hq.out]; simp) _ X1.out
    · clear h3
      by_cases k3 : k = 3
      · subst k3
        go_wp2
        go_ret
        exact Fin.out _ (by unfold St.need; rw [Hq.out]; simp) _ X1.out
      · by_cases k4 : k = 4
        · subst k4
          go_wp2
          go_ret
          exact Fin.out _ (by unfold St.need; rw [Hq.out]; simp) _ X1.out
        · by_cases k5 : k = 5
          · subst k5
            go_wp2
            go_ret
            exact Fin.out _ (by unfold St.need; rw [Hq.out]; simp) _ X1.out
          · have e3 : (k == 3) = false := beq_eq_false_iff_ne.2 k3
            have e4 : (k == 4) = false := beq_eq_false_iff_ne.2 k4
            have e5 : (k == 5) = false := beq_eq_false_iff_ne.2 k5
            have e8 : (k == 8) = false := beq_eq_false_iff_ne.2 k8
            have hf : (1 : Int) = St.need ⟨k, y, a, b, f⟩ := by unfold St.need; rw [Hq.out]; simp [k3, k4, k5, k8]
            have Hf := Lib.hid hf
            clear hf k3 k4 k5 k8
            go_wp2
            go_ret
            exact Fin.out _ Hf.out _ X1.out
  · go_enter Tryd.func54, Tryd.ntmps54
    go_wp2_with fail
    refine (Hc.out _).mono ?_
    rintro e w1 ⟨rfl, x1⟩
    have X1 := Lib.hid (((Ext.refl w).alloc _).trans x1)
    clear x1
    go_wp2
    go_ret
    exact Fin.out _ (by unfold St.need; rw [Hq.out]; simp) _ X1.out

set_option maxHeartbeats 1000000 in
theorem SMakes_calls (s : St) (w : World) : Calls Tryd.prog 22 #[s.val] w fun e w' => e = .returned (.int .i64 s.make) ∧ Ext w w' := by
  have hB := fun (_ : Nat) => B5.new w s 52
  have HB := Lib.hid hB
  clear hB
  obtain ⟨k, y, a, b, f⟩ := s
  have hc := SCheck_calls ⟨k, y, a, b, f⟩
  have hcc := St.chk_cases ⟨k, y, a, b, f⟩
  have hok := St.chk_ok (s := ⟨k, y, a, b, f⟩)
  have hfin : ∀ r : Int, r = St.make ⟨k, y, a, b, f⟩ → ∀ w', Ext w w' → (Ending.returned (.int .i64 r) = .returned (.int .i64 (St.make ⟨k, y, a, b, f⟩)) ∧ Ext w w') := fun r h w' hx => ⟨by rw [h], hx⟩
  have Fin := Lib.hid hfin; have Hc := Lib.hid hc
  clear hc hfin
  unfold St.val at *
  generalize hq : St.chk ⟨k, y, a, b, f⟩ = q at *
  have Hq := Lib.hid hq
  dsimp only at hok
  clear hq
  rcases hcc with rfl | rfl
  · obtain ⟨h1, h2, h3⟩ := hok rfl
    go_enter Tryd.func22, Tryd.ntmps22
    go_wp2_with fail
    refine (Hc.out _).mono ?_
    rintro e w1 ⟨rfl, x1⟩
    have hb := (HB.out 0).ext x1
    have c0 := hb.at.1; have c2 := hb.at.2.2.1; have c3 := hb.at.2.2.2.1
    have X1 := Lib.hid (((Ext.refl w).alloc _).trans x1)
    clear hb x1 HB Hc
    dsimp only at c0 c2 c3
    simp only [Nat.zero_add] at c2 c3
    by_cases k8 : k = 8
    · subst k8
      have b1 : 1 ≤ a ∧ a ≤ 3 ∧ 1 ≤ b ∧ b ≤ 3 := by omega
      obtain ⟨b1, b2, b3, b4⟩ := b1
      clear h3
      go_wp2
      go_ret
      exact Fin.out _ (by unfold St.make; rw [Hq.out]; simp) _ X1.out
    · have e8 : (k == 8) = false := beq_eq_false_iff_ne.2 k8
      have hf : (1 : Int) = St.make ⟨k, y, a, b, f⟩ := by unfold St.make; rw [Hq.out]; simp [k8]
      have Hf := Lib.hid hf
      clear hf k8 h3
      go_wp2
      go_ret
      exact Fin.out _ Hf.out _ X1.out
  · go_enter Tryd.func22, Tryd.ntmps22
    go_wp2_with fail
    refine (Hc.out _).mono ?_
    rintro e w1 ⟨rfl, x1⟩
    have X1 := Lib.hid (((Ext.refl w).alloc _).trans x1)
    clear x1
    go_wp2
    go_ret
    exact Fin.out _ (by unfold St.make; rw [Hq.out]; simp) _ X1.out
end Go.Proofs.YtinijapkipeamaaDoor
