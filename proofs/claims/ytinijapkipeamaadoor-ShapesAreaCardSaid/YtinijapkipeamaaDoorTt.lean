/- The outlines of plain data: O.Of. -/
import Derived.Test.YtinijapkipeamaaDoorTa
import Derived.Test.YtinijapkipeamaaDoorSh
namespace Go.Proofs.YtinijapkipeamaaDoor
set_option linter.unusedVariables false
set_option linter.unusedSimpArgs false
set_option maxRecDepth 8000
open Go Go.RowKit

/-- A width with a step added, as far as that is possible. -/
def stp (x s : Int) : Int := if 2 ≤ x + (s % 5 - 2) ∧ x + (s % 5 - 2) ≤ 16 then x + (s % 5 - 2) else x
/-- The width behind k steps. -/
def oat (f : Int) (st : List Int) : Nat → Int
  | 0 => 2 + f % 15
  | k + 1 => stp (oat f st k) (gi st k)
def olist (f : Int) (st : List Int) (k : Nat) : List Int := (List.range (k + 1)).map (oat f st)
/-- The outline. -/
def oof (f : Int) (st : List Int) : List Int := olist f st (min st.length 15) ++ (if min st.length 15 % 2 = 0 then [oat f st (min st.length 15)] else [])
theorem olist_len (f : Int) (st : List Int) (k : Nat) : (olist f st k).length = k + 1 := by simp [olist]
theorem olist_succ (f : Int) (st : List Int) (k : Nat) : olist f st (k + 1) = olist f st k ++ [oat f st (k + 1)] := by unfold olist; rw [List.range_succ (n := k + 1)]; simp
theorem stp_bd {x s : Int} (h : 2 ≤ x ∧ x ≤ 16) : 2 ≤ stp x s ∧ stp x s ≤ 16 ∧ -2 ≤ stp x s - x ∧ stp x s - x ≤ 2 := by
  unfold stp; split <;> omega
theorem oat_bd (f : Int) (st : List Int) : ∀ k, 2 ≤ oat f st k ∧ oat f st k ≤ 16
  | 0 => by unfold oat; omega
  | k + 1 => by have := stp_bd (s := gi st k) (oat_bd f st k); rw [oat]; omega
theorem olist_gi {f : Int} {st : List Int} {k i : Nat} (h : i ≤ k) : gi (olist f st k) i = oat f st i := gi_range_map _ (by omega)
/-- It is valid. -/
theorem oof_ok (f : Int) (st : List Int) : oerr (oof f st) = 0 := by
  have hm : min st.length 15 ≤ 15 := Nat.min_le_right _ _
  unfold oof
  generalize min st.length 15 = m at hm
  have hlen : (olist f st m ++ (if m % 2 = 0 then [oat f st m] else [])).length = m + 1 + (if m % 2 = 0 then 1 else 0) := by
    rw [List.length_append, olist_len]; split <;> simp
  have hgi : ∀ i, i < m + 1 + (if m % 2 = 0 then 1 else 0) → gi (olist f st m ++ (if m % 2 = 0 then [oat f st m] else [])) i = oat f st (if i ≤ m then i else m) := fun i hi => by
    by_cases h : i ≤ m
    · rw [gi_append_left (by rw [olist_len]; omega), olist_gi h, if_pos h]
    · rw [gi_append_right (by rw [olist_len]; omega), olist_len, if_neg h]
      have : i = m + 1 := by split at hi <;> omega
      subst this
      have h2 : m % 2 = 0 := by
        by_cases h2 : m % 2 = 0
        · exact h2
        · rw [if_neg h2] at hi; omega
      rw [if_pos h2]; simp [gi]
  have hpar : (m + 1 + (if m % 2 = 0 then 1 else 0)) % 2 = 0 := by split <;> omega
  rw [oerr_in (by rw [hlen]; split <;> omega) (by rw [hlen]; split at hpar <;> split <;> omega) (fun i hi => by
    rw [hlen] at hi; rw [hgi i hi]; exact oat_bd _ _ _)]
  refine jmp_ok fun i hi => ?_
  rw [hlen] at hi
  rw [hgi i (by omega), hgi (i + 1) hi]
  by_cases h : i + 1 ≤ m
  · rw [if_pos (by omega), if_pos h]
    have := stp_bd (s := gi st i) (oat_bd f st i)
    have e : oat f st (i + 1) = stp (oat f st i) (gi st i) := rfl
    rw [e]; unfold far; simp; omega
  · rw [if_neg h]
    have : (if i ≤ m then i else m) = m := by split <;> omega
    rw [this]; unfold far; simp
end Go.Proofs.YtinijapkipeamaaDoor
