/- Outlines with two steps more, in plain Lean. -/
import Derived.Test.YtinijapkipeamaaDoorUe
namespace Go.Proofs.YtinijapkipeamaaDoor
set_option linter.unusedVariables false
set_option linter.unusedSimpArgs false
set_option maxRecDepth 8000
open Go Go.RowKit

/-- A width within its bounds. -/
def clm (x : Int) : Int := if x < 2 then 2 else if 16 < x then 16 else x
/-- The width behind the last one. -/
def nxt (l : List Int) (s : Int) : Int := clm (gi l (l.length - 1) + s % 5 - 2)
def add1 (l : List Int) (s : Int) : List Int := l ++ [nxt l s]
theorem add1_len (l : List Int) (s : Int) : (add1 l s).length = l.length + 1 := by simp [add1]
theorem add1_gi {l : List Int} {s : Int} {i : Nat} (h : i < l.length) : gi (add1 l s) i = gi l i := gi_append_left h
theorem add1_last (l : List Int) (s : Int) : gi (add1 l s) l.length = nxt l s := by unfold add1; rw [gi_append_right (Nat.le_refl _)]; simp [gi]
theorem clm_bd (x : Int) : 2 ≤ clm x ∧ clm x ≤ 16 := by unfold clm; (repeat' split) <;> omega
theorem clm_near {x d : Int} (h : 2 ≤ x ∧ x ≤ 16) (hd : -2 ≤ d ∧ d ≤ 2) : -2 ≤ clm (x + d) - x ∧ clm (x + d) - x ≤ 2 := by unfold clm; (repeat' split) <;> omega
/-- Widths in their bounds whose steps are small. -/
def small (l : List Int) : Prop := (∀ i, i < l.length → 2 ≤ gi l i ∧ gi l i ≤ 16) ∧ ∀ i, i + 1 < l.length → -2 ≤ gi l (i + 1) - gi l i ∧ gi l (i + 1) - gi l i ≤ 2
theorem small_of {l : List Int} (h : oerr l = 0) : small l := ⟨(oerr_zero h).2.2.2.1, (oerr_zero h).2.2.2.2⟩
theorem small_add {l : List Int} (h : small l) (h0 : 0 < l.length) (s : Int) : small (add1 l s) := by
  obtain ⟨h1, h2⟩ := h
  have hl := h1 (l.length - 1) (by omega)
  refine ⟨fun i hi => ?_, fun i hi => ?_⟩
  · rw [add1_len] at hi
    by_cases e : i < l.length
    · rw [add1_gi e]; exact h1 i e
    · obtain rfl : i = l.length := by omega
      rw [add1_last]; exact clm_bd _
  · rw [add1_len] at hi
    by_cases e : i + 1 < l.length
    · rw [add1_gi e, add1_gi (by omega)]; exact h2 i e
    · have : i = l.length - 1 := by omega
      rw [show i + 1 = l.length by omega, add1_last, add1_gi (by omega), this]
      have := clm_near hl (show -2 ≤ s % 5 - 2 ∧ s % 5 - 2 ≤ 2 by omega)
      unfold nxt
      rw [show gi l (l.length - 1) + s % 5 - 2 = gi l (l.length - 1) + (s % 5 - 2) by omega]
      exact this
theorem small_ok {l : List Int} (h : small l) (h1 : l.length ≤ 32) (h2 : l.length % 2 = 0) (h0 : 2 ≤ l.length) : oerr l = 0 := by
  rw [oerr_in (by omega) (by omega) h.1]
  refine jmp_ok fun i hi => ?_
  have := h.2 i hi
  unfold far; simp; omega
theorem area_congr {l m : List Int} : ∀ k : Nat, (∀ i, i < k → gi l i = gi m i) → area l k = area m k
  | 0, _ => rfl
  | k + 1, h => by
    rw [area, area, area_congr k (fun i hi => h i (by omega)), h k (by omega)]
theorem area_add {l : List Int} (s : Int) (h0 : 0 < l.length) : area (add1 l s) (l.length + 1) = area l l.length + nxt l s := by
  rw [area, if_neg (by omega), add1_last, area_congr l.length (fun i hi => add1_gi hi)]
/-- The stitches of the first rows of a chart. -/
def mks (C : List (List St)) : Nat → Int
  | 0 => 0
  | k + 1 => mks C k + rmake (sw C k)
theorem mks_area {l : List Int} {y : Int} (hl : oerr l = 0) (hy : 1 ≤ y ∧ y ≤ 6) : ∀ k, k + 1 ≤ l.length → mks (chartOf l y) k = area l (k + 1)
  | 0, _ => by simp [mks, area]
  | k + 1, h => by
    have e : area l (k + 1 + 1) = area l (k + 1) + gi l (k + 1) := by rw [area, if_neg (by omega)]
    rw [mks, mks_area hl hy k (by omega), e, (chartOf_facts hl hy k (by omega)).2.2.1]
theorem oof_len (f : Int) (st : List Int) : (oof f st).length ≤ 16 ∧ 2 ≤ (oof f st).length ∧ (oof f st).length % 2 = 0 := by
  have h := oerr_zero (oof_ok f st)
  refine ⟨?_, h.2.1, h.2.2.1⟩
  unfold oof
  rw [List.length_append, olist_len]
  have hm : min st.length 15 ≤ 15 := Nat.min_le_right _ _
  split
  · simp; omega
  · simp; omega
end Go.Proofs.YtinijapkipeamaaDoor
