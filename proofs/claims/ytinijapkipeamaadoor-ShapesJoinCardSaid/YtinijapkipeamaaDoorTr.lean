/- shapes.Join. -/
import Derived.Test.YtinijapkipeamaaDoorTq
import Derived.Deep.RegionHeld3
namespace Go.Proofs.YtinijapkipeamaaDoor
set_option linter.unusedVariables false
set_option linter.unusedSimpArgs false
set_option maxRecDepth 8000
open Go Go.RowKit

def tails (rows : List (List Int)) : List (List Int) := rows.map (List.drop 1)
def jlist (rows : List (List Int)) : List Int := (ri rows 0).take 1 ++ (tails rows).flatten
/-- A list does not begin where the one before ends. -/
def mism (rows : List (List Int)) (i : Nat) : Bool := decide (gi (ri rows (i + 1)) 0 ≠ gi (ri rows i) ((ri rows i).length - 1))
def jerr (rows : List (List Int)) : Int :=
  if rows.length = 0 ∨ (List.range rows.length).any (fun i => decide ((ri rows i).length = 0)) then 1
  else if (List.range (rows.length - 1)).any (mism rows) then 14
  else if 32 < (jlist rows).length then 3 else 0
def jres (rows : List (List Int)) : List Int := if jerr rows = 0 then jlist rows else []
theorem jerr_empty {rows : List (List Int)} (h : rows.length = 0 ∨ ∃ i, i < rows.length ∧ (ri rows i).length = 0) : jerr rows = 1 := by
  unfold jerr
  rw [if_pos]
  rcases h with h | ⟨i, h, h2⟩
  · exact .inl h
  · exact .inr (List.any_eq_true.2 ⟨i, List.mem_range.2 h, by simp [h2]⟩)
theorem jerr_full {rows : List (List Int)} (h : 0 < rows.length) (h2 : ∀ i, i < rows.length → 0 < (ri rows i).length) : jerr rows = if (List.range (rows.length - 1)).any (mism rows) then 14 else if 32 < (jlist rows).length then 3 else 0 := by
  unfold jerr
  rw [if_neg]
  rintro (h3 | h3)
  · omega
  · obtain ⟨i, hi, hb⟩ := List.any_eq_true.1 h3
    have := h2 i (List.mem_range.1 hi)
    simp at hb; rw [hb] at this; simp at this
theorem jerr_mism {rows : List (List Int)} (h : 0 < rows.length) (h2 : ∀ i, i < rows.length → 0 < (ri rows i).length) {i : Nat} (hi : i + 1 < rows.length) (hb : mism rows i = true) : jerr rows = 14 := by
  rw [jerr_full h h2, if_pos (List.any_eq_true.2 ⟨i, List.mem_range.2 (by omega), hb⟩)]
theorem jerr_fit {rows : List (List Int)} (h : 0 < rows.length) (h2 : ∀ i, i < rows.length → 0 < (ri rows i).length) (h3 : ∀ i, i + 1 < rows.length → mism rows i = false) : jerr rows = if 32 < (jlist rows).length then 3 else 0 := by
  rw [jerr_full h h2, if_neg]
  rw [List.any_eq_true]
  rintro ⟨i, hi, hb⟩
  rw [List.mem_range] at hi
  rw [h3 i (by omega)] at hb; cases hb
/-- How many widths there are behind k lists. -/
def tot (rows : List (List Int)) : Nat → Nat
  | 0 => 1
  | k + 1 => tot rows k + ((ri rows k).length - 1)
theorem tot_take (rows : List (List Int)) : ∀ k, k ≤ rows.length → tot rows k = 1 + ((rows.take k).map (List.drop 1)).flatten.length
  | 0, _ => by simp [tot]
  | k + 1, h => by
    rw [tot, tot_take rows k (by omega), take_succ_ri (by omega)]
    simp; omega
theorem tot_all {rows : List (List Int)} (h : 0 < rows.length) (h2 : ∀ i, i < rows.length → 0 < (ri rows i).length) : tot rows rows.length = (jlist rows).length := by
  rw [tot_take rows _ (Nat.le_refl _), List.take_length]
  have := h2 0 h
  unfold jlist tails
  rw [List.length_append, List.length_take]; omega
theorem tot_bd {rows : List (List Int)} (h : ∀ i, i < rows.length → (ri rows i).length ≤ 1000) : ∀ k, k ≤ rows.length → 1 ≤ tot rows k ∧ tot rows k ≤ 1 + 1000 * k
  | 0, _ => by simp [tot]
  | k + 1, hk => by
    have := tot_bd h k (by omega)
    have := h k (by omega)
    rw [tot]; omega
/-- The tails that are laid so far. -/
def PT (w wr : World) (R n k : Nat) (rows : List (List Int)) : Prop :=
  Ext w wr ∧ ∃ (f : Nat → Value) (cp : Nat → Nat), wr.rowIs R 22 n f ∧ ∀ i, i < k → (∃ a m, f i = .slice a m (cp i)) ∧ IS .i64 w (f i) (cp i) ((ri rows i).drop 1)
theorem PT.ret {w wr : World} {R n : Nat} {rows : List (List Int)} (h : PT w wr R n n rows) (hn : n = rows.length) (hm : n ≤ maxLen) : ISS .i64 wr (.slice (some ⟨R, 0, none⟩) n n) n (tails rows) := by
  obtain ⟨x, f, cp, hr, hf⟩ := h
  have hl : n = (tails rows).length := by simp [tails, hn]
  refine ⟨f, cp, ISV.mk' hl (Nat.le_refl _) hm (fun i hi => by rw [Nat.zero_add, hr.cell hi]) fun i hi => ?_⟩
  have : ri (tails rows) i = (ri rows i).drop 1 := by rw [ri_of_lt (by omega), ri_of_lt (by omega)]; simp [tails]
  rw [this]
  exact (hf i hi).2.ext x
theorem PT.put {w wr : World} {R n k m d : Nat} {a : Option Addr} {rows : List (List Int)} (h : PT w wr R n k rows) (hR : w.heap.size ≤ R) (hk : k < n) (hi : IS .i64 w (.slice a m d) d ((ri rows k).drop 1)) : PT w (wr.setCell ⟨R, k, none⟩ (.slice a m d)) R n (k + 1) rows := by
  obtain ⟨x, f, cp, hr, hf⟩ := h
  refine ⟨x.setCell hR _, _, fun i => if i = k then d else cp i, hr.set k _, fun i hik => ?_⟩
  by_cases e : i = k
  · subst e; simp only [if_true]; exact ⟨⟨a, m, rfl⟩, hi⟩
  · simp only [if_neg e]; exact hf i (by omega)
end Go.Proofs.YtinijapkipeamaaDoor
