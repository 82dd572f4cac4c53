/- Plain mathematics of follow: the strand at each place behind some letters. -/
import Derived.Test.YtbappfeojdehgaaWa
namespace Go.Proofs.Ytbappfeojdehgaa
set_option linter.unusedVariables false
set_option linter.unusedSimpArgs false
set_option maxRecDepth 8000
open Go Go.RowKit

/-- The place of the left strand of a letter. -/
def lft (k : Int) : Nat := (sgn k * k - 1).toNat
/-- Two neighbours exchanged. -/
def swp (a : List Int) (l : Nat) : List Int := (a.set l (gi a (l + 1))).set (l + 1) (gi a l)
/-- The strand at each place behind a word. -/
def fol (n : Nat) (xs : List Int) : List Int := xs.foldl (fun a k => swp a (lft k)) ((List.range n).map Int.ofNat)

theorem swp_len (a : List Int) (l : Nat) : (swp a l).length = a.length := by unfold swp; simp
theorem fol_snoc (n : Nat) (xs : List Int) (k : Int) : fol n (xs ++ [k]) = swp (fol n xs) (lft k) := by unfold fol; simp
theorem foldl_swp_len (xs : List Int) : ∀ a : List Int, (xs.foldl (fun a k => swp a (lft k)) a).length = a.length := by
  induction xs with
  | nil => intro a; rfl
  | cons k xs ih => intro a; simp only [List.foldl_cons]; rw [ih, swp_len]
theorem fol_len (n : Nat) (xs : List Int) : (fol n xs).length = n := by unfold fol; rw [foldl_swp_len]; simp

theorem gi_set (a : List Int) (i : Nat) (x : Int) (j : Nat) (hi : i < a.length) : gi (a.set i x) j = if j = i then x else gi a j := by
  unfold gi
  by_cases h : j = i
  · subst h; simp [List.getD, hi]
  · rw [if_neg h]; simp [List.getD, List.getElem?_set, Ne.symm h]
theorem gi_swp (a : List Int) (l j : Nat) (h : l + 1 < a.length) : gi (swp a l) j = if j = l + 1 then gi a l else if j = l then gi a (l + 1) else gi a j := by
  unfold swp
  rw [gi_set _ _ _ _ (by simpa using h)]
  by_cases e : j = l + 1
  · rw [if_pos e, if_pos e]
  · rw [if_neg e, if_neg e, gi_set _ _ _ _ (by omega)]

theorem lft_bd {n k : Int} (h1 : 1 ≤ n) (h8 : n ≤ 8) (hb : wbad n k = false) : sgn k * k - 1 = (lft k : Int) ∧ (lft k : Int) + 1 < n ∧ -8 ≤ k ∧ k ≤ 8 ∧ 0 ≤ sgn k * k ∧ sgn k * k ≤ 8 := by
  unfold wbad at hb
  simp only [Bool.or_eq_false_iff, beq_eq_false_iff_ne, decide_eq_false_iff_not] at hb
  obtain ⟨⟨h0, h2⟩, h3⟩ := hb
  unfold lft
  by_cases h : k < 0
  · rw [sgn_neg h]; omega
  · rw [sgn_pos h]; omega

/-- Every strand is at some place: 0 ≤ strand < n. -/
theorem swp_mem (P : Int → Prop) (a : List Int) (l : Nat) (h : l + 1 < a.length) (ha : ∀ i, i < a.length → P (gi a i)) : ∀ i, i < (swp a l).length → P (gi (swp a l) i) := by
  intro i hi
  rw [swp_len] at hi
  rw [gi_swp _ _ _ h]
  split
  · exact ha _ (by omega)
  · split
    · exact ha _ h
    · exact ha _ hi

theorem wcheck_zero {n : Int} {xs : List Int} (h : wcheck n xs = 0) : 1 ≤ n ∧ n ≤ 8 ∧ xs.length ≤ 64 ∧ ∀ i, i < xs.length → wbad n (gi xs i) = false := by
  unfold wcheck at h
  split at h
  · omega
  · split at h
    · omega
    · split at h
      · omega
      · rename_i a b c
        refine ⟨by omega, by omega, by omega, fun i hi => ?_⟩
        rw [List.any_eq_true] at c
        cases hb : wbad n (gi xs i)
        · rfl
        · exact absurd ⟨_, gi_mem hi, hb⟩ c

theorem fol_bd {n : Nat} {xs : List Int} (h : ∀ i, i < xs.length → wbad n (gi xs i) = false) (h1 : 1 ≤ n) (h8 : n ≤ 8) : ∀ k, k ≤ xs.length → ∀ i, i < n → 0 ≤ gi (fol n (xs.take k)) i ∧ gi (fol n (xs.take k)) i < n := by
  intro k
  induction k with
  | zero => intro _ i hi; simp only [List.take_zero, fol, List.foldl_nil]; rw [gi_of_lt (by simpa using hi)]; simp; omega
  | succ k ih =>
    intro hk i hi
    rw [take_succ_gi (by omega), fol_snoc]
    have hl := lft_bd (by omega) (by omega) (h k (by omega))
    have := swp_mem (fun x => 0 ≤ x ∧ x < n) (fol n (xs.take k)) (lft (gi xs k)) (by rw [fol_len]; omega) (by rw [fol_len]; exact ih (by omega))
    exact this i (by rw [swp_len, fol_len]; exact hi)
end Go.Proofs.Ytbappfeojdehgaa
