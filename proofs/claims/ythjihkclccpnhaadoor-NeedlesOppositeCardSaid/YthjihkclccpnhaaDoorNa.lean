/- Contracts of the leaf functions of chapter 1: valid, racked, Check, Spot, spot, needle. -/
import Derived.Test.YthjihkclccpnhaaDoorProg
import Derived.Test.YthjihkclccpnhaaDoorLib
namespace Go.Proofs.YthjihkclccpnhaaDoor
set_option linter.unusedVariables false
set_option linter.unusedSimpArgs false
open Go Go.RowKit

/-- 1 for a valid needle, 0 otherwise. -/
def nval (b a : Int) : Int := if b ≤ 1 ∧ 1 ≤ a ∧ a ≤ 40 then 1 else 0
theorem nval1 {b a : Int} (h : b ≤ 1 ∧ 1 ≤ a ∧ a ≤ 40) : nval b a = 1 := by unfold nval; rw [if_pos h]
theorem nval0 {b a : Int} (h : ¬ (b ≤ 1 ∧ 1 ≤ a ∧ a ≤ 40)) : nval b a = 0 := by unfold nval; rw [if_neg h]

theorem valid_calls (b a : Int) (w : World) (h1 : 0 ≤ b) (h2 : b ≤ 255) :
    Calls Tryd.prog 9 #[.agg #[.int .u8 b, .int .i64 a]] w fun e w' => e = .returned (.int .i64 (nval b a)) ∧ Ext w w' := by
  go_enter Tryd.func9, Tryd.ntmps9
  go_wp2
  all_goals
    go_ret
    exact ⟨ret_int (by unfold nval; split <;> omega), (Ext.refl w).alloc _⟩

/-- A rack is valid. -/
def rval (r : Int) : Bool := decide (-4 ≤ r ∧ r ≤ 4)
theorem rval1 {r : Int} (h : -4 ≤ r ∧ r ≤ 4) : rval r = true := by unfold rval; simpa using h
theorem rval0 {r : Int} (h : ¬ (-4 ≤ r ∧ r ≤ 4)) : rval r = false := by unfold rval; rw [decide_eq_false_iff_not]; exact h
theorem racked_calls (r : Int) (w : World) :
    Calls Tryd.prog 19 #[.int .i64 r] w fun e w' => e = .returned (.bool (rval r)) ∧ w = w' := by
  go_enter Tryd.func19, Tryd.ntmps19
  go_wp2
  all_goals
    go_ret
    refine ⟨ret_bool ?_, rfl⟩
    unfold rval
    rw [Bool.eq_iff_iff]
    simp
    try omega

theorem Check_calls (b a : Int) (w : World) (h1 : 0 ≤ b) (h2 : b ≤ 255) :
    Calls Tryd.prog 10 #[.agg #[.int .u8 b, .int .i64 a]] w fun e w' => e = .returned (.int .i64 (1 - nval b a)) ∧ Ext w w' := by
  go_enter Tryd.func10, Tryd.ntmps10
  go_wp2
  all_goals
    go_ret
    refine ⟨ret_int ?_, (Ext.refl w).alloc _⟩
    try simp only [bne_iff_ne, ne_eq, bne_eq_false_iff_eq] at *
    unfold nval
    split <;> omega

/-- The spot of a valid needle at a valid rack. -/
def nspot (b a r : Int) : Int := if b = 1 then 4 * a + 4 * r else 4 * a + 2

theorem spot_calls (b a r : Int) (w : World) (h1 : 0 ≤ b) (h2 : b ≤ 255) (ha1 : -1000 ≤ a) (ha2 : a ≤ 1000) (hr1 : -1000 ≤ r) (hr2 : r ≤ 1000) :
    Calls Tryd.prog 14 #[.agg #[.int .u8 b, .int .i64 a], .int .i64 r] w fun e w' => e = .returned (.int .i64 (nspot b a r)) ∧ Ext w w' := by
  go_enter Tryd.func14, Tryd.ntmps14
  go_wp2
  all_goals
    go_ret
    refine ⟨ret_int ?_, (Ext.refl w).alloc _⟩
    try simp only [beq_iff_eq, beq_eq_false_iff_ne, ne_eq] at *
    unfold nspot
    split <;> omega

theorem needle_calls (i : Int) (w : World) (h1 : 0 ≤ i) (h2 : i ≤ 255) :
    Calls Tryd.prog 15 #[.int .u8 i] w fun e w' => e = .returned (.agg #[.int .u8 (i % 80 / 40), .int .i64 (1 + i % 40)]) ∧ Ext w w' := by
  go_enter Tryd.func15, Tryd.ntmps15
  go_wp2
  exact bodyPost_ret (v := .agg #[.int .u8 (i % 80 / 40), .int .i64 (1 + i % 40)]) (by simp [results, Tryd.results15, go_sem]) rfl ⟨rfl, (Ext.refl w).alloc _⟩

/-- What Spot returns. -/
def nspotF (b a r : Int) : Int := if b ≤ 1 ∧ 1 ≤ a ∧ a ≤ 40 ∧ -4 ≤ r ∧ r ≤ 4 then nspot b a r else 0
theorem nspotF_ok {b a r : Int} (h : b ≤ 1 ∧ 1 ≤ a ∧ a ≤ 40 ∧ -4 ≤ r ∧ r ≤ 4) : nspotF b a r = nspot b a r := by unfold nspotF; rw [if_pos h]

theorem Spot_calls (b a r : Int) (w : World) (h1 : 0 ≤ b) (h2 : b ≤ 255) :
    Calls Tryd.prog 11 #[.agg #[.int .u8 b, .int .i64 a], .int .i64 r] w fun e w' => e = .returned (.int .i64 (nspotF b a r)) ∧ Ext w w' := by
  by_cases hv : b ≤ 1 ∧ 1 ≤ a ∧ a ≤ 40
  · have hc := fun w => Check_calls b a w h1 h2
    rw [nval1 hv] at hc
    have Hc := Lib.hid hc; clear hc
    obtain ⟨v1, v2, v3⟩ := hv
    by_cases hr : -4 ≤ r ∧ r ≤ 4
    · have hk := fun w => racked_calls r w
      rw [rval1 hr] at hk
      have Hk := Lib.hid hk; clear hk
      obtain ⟨r1, r2⟩ := hr
      go_enter Tryd.func11, Tryd.ntmps11
      go_wp2_with fail
      refine (Hc.out _).mono ?_
      rintro e w1 ⟨rfl, x1⟩
      have hcell := x1.cell (show (w.alloc (.cells #[.int .u8 b, .int .i64 a] 24)).cell? ⟨w.heap.size, 0, none⟩ = some (.int .u8 b) by rw [World.cell?_alloc_at (hn := rfl)]; rfl)
      have hcell2 := x1.cell (show (w.alloc (.cells #[.int .u8 b, .int .i64 a] 24)).cell? ⟨w.heap.size, 1, none⟩ = some (.int .i64 a) by rw [World.cell?_alloc_at (hn := rfl)]; rfl)
      have X1 := Lib.hid ((Ext.refl w).alloc (.cells #[.int .u8 b, .int .i64 a] 24) |>.trans x1); clear x1
      go_wp2_with fail
      refine (Hk.out _).mono ?_
      rintro e w2 ⟨rfl, rfl⟩
      go_wp2
      all_goals
        go_ret
        refine ⟨ret_int ?_, X1.out⟩
        try simp only [beq_iff_eq, beq_eq_false_iff_ne, ne_eq] at *
        rw [nspotF_ok ⟨v1, v2, v3, r1, r2⟩]
        unfold nspot
        split <;> omega
    · have hk := fun w => racked_calls r w
      rw [rval0 hr] at hk
      have Hk := Lib.hid hk; clear hk
      have hz : nspotF b a r = 0 := by unfold nspotF; rw [if_neg (by omega)]
      have Hz := Lib.hid hz
      clear hr hz
      go_enter Tryd.func11, Tryd.ntmps11
      go_wp2_with fail
      refine (Hc.out _).mono ?_
      rintro e w1 ⟨rfl, x1⟩
      go_wp2_with fail
      refine (Hk.out _).mono ?_
      rintro e w2 ⟨rfl, rfl⟩
      go_wp2
      go_ret
      exact ⟨ret_int Hz.out.symm, (Ext.refl w).alloc _ |>.trans x1⟩
  · have hc := fun w => Check_calls b a w h1 h2
    rw [nval0 hv] at hc
    have Hc := Lib.hid hc; clear hc
    have hz : nspotF b a r = 0 := by unfold nspotF; rw [if_neg (by omega)]
    have Hz := Lib.hid hz
    clear hv hz
    go_enter Tryd.func11, Tryd.ntmps11
    go_wp2_with fail
    refine (Hc.out _).mono ?_
    rintro e w1 ⟨rfl, x1⟩
    go_wp2
    go_ret
    exact ⟨ret_int Hz.out.symm, (Ext.refl w).alloc _ |>.trans x1⟩
end Go.Proofs.YthjihkclccpnhaaDoor
