/- Plain mathematics of the images of (1 -2)^t: nothing cancels, so their lengths are known. -/
import Derived.Test.YtbappfeojdehgaaIm
namespace Go.Proofs.Ytbappfeojdehgaa
set_option linter.unusedVariables false
set_option linter.unusedSimpArgs false
open Go Go.RowKit

/-- The letters 1 -2, t times. -/
def pows : Nat → List Int
  | 0 => []
  | t + 1 => pows t ++ [1, -2]
theorem pows_len (t : Nat) : (pows t).length = 2 * t := by
  induction t with
  | zero => rfl
  | succ t ih => simp only [pows, List.length_append, List.length_cons, List.length_nil, ih]; omega
theorem pows_take {j t : Nat} (h : j ≤ t) : (pows t).take (2 * j) = pows j := by
  induction t with
  | zero => obtain rfl : j = 0 := (by omega); rfl
  | succ t ih =>
    by_cases e : j ≤ t
    · rw [pows, List.take_append_of_le_length (by rw [pows_len]; omega)]; exact ih e
    · obtain rfl : j = t + 1 := (by omega)
      exact List.take_of_length_le (by rw [pows_len]; exact Nat.le_refl _)
theorem pows_gi {t k : Nat} (h : k < 2 * t) : gi (pows t) k = if k % 2 = 0 then 1 else -2 := by
  induction t with
  | zero => omega
  | succ t ih =>
    by_cases e : k < 2 * t
    · rw [pows, gi_append_left (by rw [pows_len]; exact e)]; exact ih e
    · rw [pows, gi_append_right (by rw [pows_len]; omega), pows_len]
      rcases (show k = 2 * t ∨ k = 2 * t + 1 by omega) with rfl | rfl
      · rw [if_pos (by omega), Nat.sub_self]; rfl
      · rw [if_neg (by omega), show 2 * t + 1 - 2 * t = 1 by omega]; rfl
theorem pows_odd {j t : Nat} (h : j < t) : (pows t).take (2 * j + 1) = pows j ++ [1] := by
  rw [take_succ_gi (by rw [pows_len]; omega), pows_take (by omega), pows_gi (by omega), if_pos (by omega)]

theorem prodL_free {a b : List Int} (ha : 0 < a.length) (hb : 0 < b.length) (h : gi a (a.length - 1) ≠ - gi b 0) : prodL a b = a ++ b := by
  have hc : canc a.reverse b = 0 := canc_eq 0 _ _ (Nat.zero_le _) (Nat.zero_le _) (fun i hi => by omega) (.inr (.inr (by rw [gi_reverse (by omega), Nat.sub_zero]; exact h)))
  unfold prodL
  rw [hc]; simp

/-- What the three images are like. -/
structure PA (rows : List (List Int)) (la lb lc : Nat) : Prop where
  len : rows.length = 3
  fa : (ri rows 0).length = la
  fb : (ri rows 1).length = lb
  fc : (ri rows 2).length = lc
  pa : 0 < la
  pb : 0 < lb
  pc : 0 < lc
  a0 : gi (ri rows 0) 0 = 1
  a9 : gi (ri rows 0) (la - 1) = -1
  b0 : gi (ri rows 1) 0 = 3 ∨ gi (ri rows 1) 0 = -3
  b9 : gi (ri rows 1) (lb - 1) = 3
  c0 : gi (ri rows 2) 0 = -3
  c9 : gi (ri rows 2) (lc - 1) = 3

theorem app_first {a b : List Int} (ha : 0 < a.length) : gi (a ++ b) 0 = gi a 0 := gi_append_left ha
theorem app_last {a b : List Int} (hb : 0 < b.length) : gi (a ++ b) ((a ++ b).length - 1) = gi b (b.length - 1) := by
  rw [gi_append_right (by simp; omega)]; congr 1; simp; omega
theorem inv_first {a : List Int} (h : 0 < a.length) : gi (invL a) 0 = - gi a (a.length - 1) := by rw [invL_gi h, Nat.sub_zero]
theorem inv_last {a : List Int} (h : 0 < a.length) : gi (invL a) ((invL a).length - 1) = - gi a 0 := by rw [invL_len, invL_gi (by omega)]; congr 2; omega

theorem PA.one {rows : List (List Int)} {la lb lc : Nat} (h : PA rows la lb lc) :
    prodL (prodL (ri rows 0) (ri rows 1)) (invL (ri rows 0)) = ri rows 0 ++ ri rows 1 ++ invL (ri rows 0) := by
  have p1 : 0 < (ri rows 0).length := by rw [h.fa]; exact h.pa
  have p2 : 0 < (ri rows 1).length := by rw [h.fb]; exact h.pb
  rw [prodL_free p1 p2 (by rw [h.fa, h.a9]; rcases h.b0 with e | e <;> rw [e] <;> decide)]
  refine prodL_free (by simp; omega) (by rw [invL_len]; exact p1) ?_
  rw [app_last p2, inv_first p1, h.fa, h.fb, h.a9, h.b9]; decide
theorem PA.two {rows : List (List Int)} {la lb lc : Nat} (h : PA rows la lb lc) :
    prodL (prodL (invL (ri rows 2)) (ri rows 0)) (ri rows 2) = invL (ri rows 2) ++ ri rows 0 ++ ri rows 2 := by
  have p1 : 0 < (ri rows 0).length := by rw [h.fa]; exact h.pa
  have p2 : 0 < (ri rows 2).length := by rw [h.fc]; exact h.pc
  rw [prodL_free (by rw [invL_len]; exact p2) p1 (by rw [inv_last p2, h.c0, h.a0]; decide)]
  refine prodL_free (by simp; omega) p2 ?_
  rw [app_last p1, h.fa, h.a9, h.c0]; decide

/-- Behind the letter 1. -/
theorem PA.mid {rows : List (List Int)} {la lb lc : Nat} (h : PA rows la lb lc) :
    letterRows rows 1 = [ri rows 0 ++ ri rows 1 ++ invL (ri rows 0), ri rows 0, ri rows 2] ∧ letterLen rows 1 = 2 * la + lb := by
  have hl := h.len
  obtain ⟨x, y, z, rfl⟩ : ∃ x y z, rows = [x, y, z] := by
    match rows, hl with
    | [x, y, z], _ => exact ⟨x, y, z, rfl⟩
  have e := letterRows_pos [x, y, z] 0
  have e2 := letterLen_pos [x, y, z] 0 (by simp)
  have h1 := h.one
  simp only [Nat.zero_add] at e e2
  rw [h1] at e e2
  refine ⟨by rw [show ri [x, y, z] 2 = z from rfl]; simpa using e, ?_⟩
  have e3 : letterLen [x, y, z] 1 = (ri [x, y, z] 0 ++ ri [x, y, z] 1 ++ invL (ri [x, y, z] 0)).length := by simpa using e2
  rw [e3]
  have a := h.fa; have b := h.fb
  simp only [List.length_append, invL_len] at a b ⊢
  omega
theorem PA.step {rows : List (List Int)} {la lb lc : Nat} (h : PA rows la lb lc) :
    PA (letterRows (letterRows rows 1) (-2)) (2 * la + lb) lc (2 * lc + la) ∧ letterLen (letterRows rows 1) (-2) = 2 * lc + la := by
  obtain ⟨hm, _⟩ := h.mid
  have h2 := h.two
  obtain ⟨A, hA⟩ : ∃ A, A = ri rows 0 := ⟨_, rfl⟩
  obtain ⟨B, hB⟩ : ∃ B, B = ri rows 1 := ⟨_, rfl⟩
  obtain ⟨C, hC⟩ : ∃ C, C = ri rows 2 := ⟨_, rfl⟩
  have la' := h.fa; have lb' := h.fb; have lc' := h.fc; have a0 := h.a0; have a9 := h.a9; have b9 := h.b9; have c0 := h.c0; have c9 := h.c9
  have pa := h.pa; have pb := h.pb; have pc := h.pc
  rw [← hA, ← hB, ← hC] at hm
  rw [← hA, ← hC] at h2
  rw [← hA] at la' a0 a9
  rw [← hB] at lb' b9
  rw [← hC] at lc' c0 c9
  have e := letterRows_neg (letterRows rows 1) 1
  have e2 := letterLen_neg (letterRows rows 1) 1 (by rw [hm]; simp)
  rw [hm] at e e2 ⊢
  have r1 : ri [A ++ B ++ invL A, A, C] 1 = A := rfl
  have r2 : ri [A ++ B ++ invL A, A, C] (1 + 1) = C := rfl
  rw [r1, r2, h2] at e e2
  have e' : letterRows [A ++ B ++ invL A, A, C] (-2) = [A ++ B ++ invL A, C, invL C ++ A ++ C] := by simpa using e
  have e2' : letterLen [A ++ B ++ invL A, A, C] (-2) = (invL C ++ A ++ C).length := by simpa using e2
  rw [e', e2']
  have n0 : ri [A ++ B ++ invL A, C, invL C ++ A ++ C] 0 = A ++ B ++ invL A := rfl
  have n1 : ri [A ++ B ++ invL A, C, invL C ++ A ++ C] 1 = C := rfl
  have n2 : ri [A ++ B ++ invL A, C, invL C ++ A ++ C] 2 = invL C ++ A ++ C := rfl
  have l0 : (A ++ B ++ invL A).length = 2 * la + lb := by simp only [List.length_append, invL_len]; omega
  have l2 : (invL C ++ A ++ C).length = 2 * lc + la := by simp only [List.length_append, invL_len]; omega
  refine ⟨⟨rfl, by rw [n0]; exact l0, by rw [n1]; exact lc', by rw [n2]; exact l2, by omega, pc, by omega, ?_, ?_, ?_, ?_, ?_, ?_⟩, l2⟩
  · rw [n0, app_first (by simp; omega), app_first (by omega)]; exact a0
  · rw [n0, ← l0, app_last (by rw [invL_len]; omega), inv_last (by omega), a0]
  · rw [n1]; exact .inr c0
  · rw [n1]; exact c9
  · rw [n2, app_first (by simp only [List.length_append, invL_len]; omega), app_first (by rw [invL_len]; omega), inv_first (by omega), lc', c9]
  · rw [n2, ← l2, app_last (by omega), lc']; exact c9

theorem actRows_pows (t : Nat) : actRows 3 (pows (t + 1)) = letterRows (letterRows (actRows 3 (pows t)) 1) (-2) := by
  rw [pows, show pows t ++ [1, -2] = (pows t ++ [1]) ++ [-2] by simp, actRows_snoc, actRows_snoc]

/-- The lengths. -/
def lens : Nat → Nat × Nat × Nat
  | 0 => (1, 1, 1)
  | t + 1 => (2 * (lens t).1 + (lens t).2.1, (lens t).2.2, 2 * (lens t).2.2 + (lens t).1)

theorem pows_one : actRows 3 (pows 1) = [[1, 2, -1], [3], [-3, 1, 3]] := by decide
theorem PA_pows (t : Nat) : PA (actRows 3 (pows (t + 1))) (lens (t + 1)).1 (lens (t + 1)).2.1 (lens (t + 1)).2.2 := by
  induction t with
  | zero => rw [pows_one]; exact ⟨rfl, rfl, rfl, rfl, by decide, by decide, by decide, rfl, rfl, .inl rfl, rfl, rfl, rfl⟩
  | succ t ih => rw [actRows_pows]; exact ih.step.1
theorem lens_mono (t : Nat) : (lens t).1 ≤ (lens (t + 1)).1 ∧ (lens t).2.1 ≤ (lens (t + 1)).2.1 ∧ (lens t).2.2 ≤ (lens (t + 1)).2.2 := by
  induction t with
  | zero => decide
  | succ t ih => simp only [lens] at ih ⊢; omega
theorem lens_le {s t : Nat} (h : s ≤ t) : (lens s).1 ≤ (lens t).1 ∧ (lens s).2.2 ≤ (lens t).2.2 := by
  induction t with
  | zero => obtain rfl : s = 0 := (by omega); exact ⟨Nat.le_refl _, Nat.le_refl _⟩
  | succ t ih =>
    by_cases e : s ≤ t
    · have := lens_mono t; have := ih e; omega
    · obtain rfl : s = t + 1 := (by omega); exact ⟨Nat.le_refl _, Nat.le_refl _⟩

/-- The letter with number k makes an image of this length. -/
theorem pows_letter {t k : Nat} (h : k < 2 * t) : letterLen (actRows 3 ((pows t).take k)) (gi (pows t) k) = if k % 2 = 0 then (lens (k / 2 + 1)).1 else (lens (k / 2 + 1)).2.2 := by
  rw [pows_gi h]
  obtain ⟨j, hj⟩ : ∃ j, j = k / 2 := ⟨_, rfl⟩
  rw [← hj]
  by_cases e : k % 2 = 0
  · rw [if_pos e, if_pos e, show k = 2 * j by omega, pows_take (by omega)]
    cases j with
    | zero => decide
    | succ j => rw [(PA_pows j).mid.2]; rfl
  · rw [if_neg e, if_neg e, show k = 2 * j + 1 by omega, pows_odd (by omega), actRows_snoc]
    cases j with
    | zero => decide
    | succ j => rw [(PA_pows j).step.2]; rfl

theorem pows_fits {t : Nat} (h : t ≤ 12) : fits 3 (pows t) := by
  intro k hk
  rw [pows_len] at hk
  rw [pows_letter hk]
  have := lens_le (s := k / 2 + 1) (t := 12) (by omega)
  have e : (lens 12).1 = 92737 ∧ (lens 12).2.2 = 150049 := by decide
  split <;> omega
theorem pows_over {t : Nat} (h : 13 ≤ t) : (∀ k, k < 25 → letterLen (actRows 3 ((pows t).take k)) (gi (pows t) k) ≤ 262144) ∧ 262144 < letterLen (actRows 3 ((pows t).take 25)) (gi (pows t) 25) := by
  refine ⟨fun k hk => ?_, ?_⟩
  · rw [pows_letter (by omega)]
    have := lens_le (s := k / 2 + 1) (t := 13) (by omega)
    have e : (lens 13).1 = 242787 := by decide
    by_cases h2 : k % 2 = 0
    · rw [if_pos h2]; omega
    · have := lens_le (s := k / 2 + 1) (t := 12) (by omega)
      have e : (lens 12).2.2 = 150049 := by decide
      rw [if_neg h2]; omega
  · rw [pows_letter (by omega)]; decide
end Go.Proofs.Ytbappfeojdehgaa
