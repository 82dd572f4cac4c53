/- Plain mathematics of the images: the law's images are the program's; lengths; the product of all images. -/
import Derived.Test.YtbappfeojdehgaaMi
namespace Go.Proofs.Ytbappfeojdehgaa
set_option linter.unusedVariables false
set_option linter.unusedSimpArgs false
open Go Go.RowKit

theorem ri_end {rows : List (List Int)} {i : Nat} (h : rows.length ≤ i) : ri rows i = [] := by
  unfold ri; simp [List.getD, List.getElem?_eq_none h]
theorem ri_lt {rows : List (List Int)} {i : Nat} (h : i < rows.length) : ri rows i = rows[i] := by
  unfold ri; simp [List.getD, h]

/-- All rows are reduced. -/
def RL (rows : List (List Int)) : Prop := ∀ i, RedL (ri rows i)
theorem RL_start (n : Nat) : RL (start n) := by
  intro i
  by_cases h : i < n
  · unfold start; rw [ri_range_map _ h]; intro j hj; simp at hj
  · rw [ri_end (by unfold start; simp; omega)]; exact redL_nil
theorem img_letter {rows : List (List Int)} {n : Nat} {k : Int} (hl : rows.length = n) (hk : wbad n k = false) (h1 : 1 ≤ n) (h : RL rows) : imgRows rows k = letterRows rows k ∧ RL (letterRows rows k) := by
  rcases letter_place hk (by omega) with ⟨_, q, rfl, hqn⟩ | ⟨_, q, rfl, hqn⟩
  · rw [imgRows_pos, letterRows_pos]
    have e : red (ri rows q ++ ri rows (q + 1) ++ invL (ri rows q)) = prodL (prodL (ri rows q) (ri rows (q + 1))) (invL (ri rows q)) := red_app3 (h _) (h _) (redL_inv (h _))
    rw [e]
    refine ⟨rfl, fun i => ?_⟩
    by_cases hi : i < n
    · rw [ri_set _ _ _ _ (by rw [List.length_set]; omega)]
      split
      · exact h q
      · rw [ri_set _ _ _ _ (by omega)]
        split
        · exact redL_prod (redL_prod (h _) (h _)) (redL_inv (h _))
        · exact h i
    · rw [ri_end (by simp; omega)]; exact redL_nil
  · rw [imgRows_neg, letterRows_neg]
    have e : red (invL (ri rows (q + 1)) ++ ri rows q ++ ri rows (q + 1)) = prodL (prodL (invL (ri rows (q + 1))) (ri rows q)) (ri rows (q + 1)) := red_app3 (redL_inv (h _)) (h _) (h _)
    rw [e]
    refine ⟨rfl, fun i => ?_⟩
    by_cases hi : i < n
    · rw [ri_set _ _ _ _ (by rw [List.length_set]; omega)]
      split
      · exact redL_prod (redL_prod (redL_inv (h _)) (h _)) (h _)
      · rw [ri_set _ _ _ _ (by omega)]
        split
        · exact h (q + 1)
        · exact h i
    · rw [ri_end (by simp; omega)]; exact redL_nil

theorem act_RL {n : Nat} {xs : List Int} (hg : ∀ i, i < xs.length → wbad n (gi xs i) = false) (h1 : 1 ≤ n) : ∀ k, k ≤ xs.length → RL (actRows n (xs.take k)) := by
  intro k
  induction k with
  | zero => intro _; simpa [actRows] using RL_start n
  | succ k ih =>
    intro hk
    rw [take_succ_gi (by omega), actRows_snoc]
    exact (img_letter (actRows_len n _) (hg k (by omega)) h1 (ih (by omega))).2
/-- One step of the law's images is one of the program's. -/
theorem act_img {n : Nat} {xs : List Int} (hg : ∀ i, i < xs.length → wbad n (gi xs i) = false) (h1 : 1 ≤ n) {k : Nat} (hk : k < xs.length) : imgRows (actRows n (xs.take k)) (gi xs k) = actRows n (xs.take (k + 1)) := by
  rw [take_succ_gi hk, actRows_snoc]
  exact (img_letter (actRows_len n _) (hg k hk) h1 (act_RL hg h1 k (by omega))).1

/-! ### lengths -/
/-- All rows have at most m letters, but for one, which has at most M. -/
def Small (rows : List (List Int)) (M m : Nat) : Prop := m ≤ M ∧ ∃ p, ∀ i, (ri rows i).length ≤ (if i = p then M else m)
theorem small_all {rows : List (List Int)} {M m : Nat} (h : Small rows M m) (i : Nat) : (ri rows i).length ≤ M := by
  obtain ⟨h1, p, h2⟩ := h
  have := h2 i
  split at this <;> omega
theorem small_two {rows : List (List Int)} {M m : Nat} (h : Small rows M m) {i j : Nat} (hij : i ≠ j) : 2 * (ri rows i).length + (ri rows j).length ≤ 2 * M + m := by
  obtain ⟨h1, p, h2⟩ := h
  have a := h2 i
  have b := h2 j
  split at a <;> split at b <;> omega
theorem small_letter {rows : List (List Int)} {n : Nat} {k : Int} {M m : Nat} (hl : rows.length = n) (hk : wbad n k = false) (h1 : 1 ≤ n) (h : Small rows M m) : Small (letterRows rows k) (2 * M + m) M ∧ letterLen rows k ≤ 2 * M + m := by
  have hal := small_all h
  rcases letter_place hk (by omega) with ⟨_, q, rfl, hqn⟩ | ⟨_, q, rfl, hqn⟩
  · have ht := small_two h (i := q) (j := q + 1) (by omega)
    have e1 := prodL_len (prodL (ri rows q) (ri rows (q + 1))) (invL (ri rows q))
    have e2 := prodL_len (ri rows q) (ri rows (q + 1))
    have e3 := invL_len (ri rows q)
    rw [letterRows_pos, letterLen_pos _ _ (by omega)]
    refine ⟨⟨by omega, q, fun i => ?_⟩, by omega⟩
    by_cases hi : i < n
    · rw [ri_set _ _ _ _ (by rw [List.length_set]; omega)]
      by_cases a : i = q + 1
      · rw [if_pos a, if_neg (by omega)]; exact hal q
      · rw [if_neg a, ri_set _ _ _ _ (by omega)]
        by_cases b : i = q
        · rw [if_pos b, if_pos b]; omega
        · rw [if_neg b, if_neg b]; exact hal i
    · rw [ri_end (by simp; omega)]; simp
  · have ht := small_two h (i := q + 1) (j := q) (by omega)
    have e1 := prodL_len (prodL (invL (ri rows (q + 1))) (ri rows q)) (ri rows (q + 1))
    have e2 := prodL_len (invL (ri rows (q + 1))) (ri rows q)
    have e3 := invL_len (ri rows (q + 1))
    rw [letterRows_neg, letterLen_neg _ _ (by omega)]
    refine ⟨⟨by omega, q + 1, fun i => ?_⟩, by omega⟩
    by_cases hi : i < n
    · rw [ri_set _ _ _ _ (by rw [List.length_set]; omega)]
      by_cases a : i = q + 1
      · rw [if_pos a, if_pos a]; omega
      · rw [if_neg a, if_neg a, ri_set _ _ _ _ (by omega)]
        by_cases b : i = q
        · rw [if_pos b]; exact hal (q + 1)
        · rw [if_neg b]; exact hal i
    · rw [ri_end (by simp; omega)]; simp

def gr : Nat → Nat × Nat
  | 0 => (1, 1)
  | k + 1 => (2 * (gr k).1 + (gr k).2, (gr k).1)
theorem small_act {n : Nat} {xs : List Int} (hg : ∀ i, i < xs.length → wbad n (gi xs i) = false) (h1 : 1 ≤ n) : ∀ k, k ≤ xs.length → Small (actRows n (xs.take k)) (gr k).1 (gr k).2 := by
  intro k
  induction k with
  | zero =>
    intro _
    refine ⟨Nat.le_refl _, 0, fun i => ?_⟩
    have : (ri (actRows n (xs.take 0)) i).length ≤ 1 := by
      by_cases h : i < n
      · simp only [List.take_zero, actRows, List.foldl_nil, start]; rw [ri_range_map _ h]; simp
      · rw [ri_end (by rw [actRows_len]; omega)]; simp
    show _ ≤ (if i = 0 then 1 else 1)
    split <;> exact this
  | succ k ih =>
    intro hk
    rw [take_succ_gi (by omega), actRows_snoc]
    exact (small_letter (actRows_len n _) (hg k (by omega)) h1 (ih (by omega))).1
theorem gr_le : ∀ k, k < 13 → (gr k).1 ≤ 47321 := by decide
/-- The images of at most twelve letters fit. -/
theorem fits12 {n : Nat} {xs : List Int} (hg : ∀ i, i < xs.length → wbad n (gi xs i) = false) (h1 : 1 ≤ n) (hl : xs.length ≤ 12) : fits n xs := by
  intro k hk
  have h := (small_letter (actRows_len n _) (hg k hk) h1 (small_act hg h1 k (by omega))).2
  have := gr_le (k + 1) (by omega)
  have e : (gr (k + 1)).1 = 2 * (gr k).1 + (gr k).2 := rfl
  omega
theorem len12 {n : Nat} {xs : List Int} (hg : ∀ i, i < xs.length → wbad n (gi xs i) = false) (h1 : 1 ≤ n) (hl : xs.length ≤ 12) (i : Nat) : (ri (actRows n xs) i).length ≤ 47321 := by
  have h := small_all (small_act hg h1 xs.length (Nat.le_refl _)) i
  rw [List.take_length] at h
  have := gr_le xs.length (by omega)
  omega

/-! ### the product of all images -/
theorem two_rows {rows : List (List Int)} {q : Nat} (h : q + 1 < rows.length) : ∃ p s, rows = p ++ ri rows q :: ri rows (q + 1) :: s ∧ p.length = q := by
  refine ⟨rows.take q, rows.drop (q + 2), ?_, by simp; omega⟩
  have h1 : rows.drop q = rows[q] :: rows.drop (q + 1) := List.drop_eq_getElem_cons (by omega)
  have h2 : rows.drop (q + 1) = rows[q + 1] :: rows.drop (q + 2) := List.drop_eq_getElem_cons (by omega)
  rw [ri_lt (by omega), ri_lt h, ← h2, ← h1, List.take_append_drop]
theorem set_two (p s : List (List Int)) (a b x y : List Int) : ((p ++ a :: b :: s).set p.length x).set (p.length + 1) y = p ++ x :: y :: s := by
  rw [List.set_append_right _ _ (Nat.le_refl _), Nat.sub_self, List.set_cons_zero, List.set_append_right _ _ (by omega), show p.length + 1 - p.length = 1 from by omega]
  rfl
theorem flat_letter {rows : List (List Int)} {n : Nat} {k : Int} (hl : rows.length = n) (hk : wbad n k = false) (h1 : 1 ≤ n) (h : RL rows) : red (letterRows rows k).flatten = red rows.flatten := by
  rw [← (img_letter hl hk h1 h).1]
  rcases letter_place hk (by omega) with ⟨_, q, rfl, hqn⟩ | ⟨_, q, rfl, hqn⟩
  · rw [imgRows_pos]
    obtain ⟨p, s, hd, hp⟩ := two_rows (rows := rows) (q := q) (by omega)
    generalize ri rows q = a at hd ⊢
    generalize ri rows (q + 1) = b at hd ⊢
    subst hp
    rw [hd, set_two]
    simp only [List.flatten_append, List.flatten_cons]
    have e1 := red_mid p.flatten (a ++ b ++ invL a) (a ++ s.flatten)
    have e2 := red_cut' (p.flatten ++ a ++ b) a s.flatten
    simp only [List.append_assoc] at e1 e2 ⊢
    rw [e1, e2]
  · rw [imgRows_neg]
    obtain ⟨p, s, hd, hp⟩ := two_rows (rows := rows) (q := q) (by omega)
    generalize ri rows q = a at hd ⊢
    generalize ri rows (q + 1) = b at hd ⊢
    subst hp
    rw [hd, set_two]
    simp only [List.flatten_append, List.flatten_cons]
    have e1 := red_mid (p.flatten ++ b) (invL b ++ a ++ b) s.flatten
    have e2 := red_cut p.flatten b (a ++ b ++ s.flatten)
    simp only [List.append_assoc] at e1 e2 ⊢
    rw [e1, e2]
def onesL (n : Nat) : List Int := (List.range n).map fun i : Nat => (i : Int) + 1
theorem flat_start (n : Nat) : (start n).flatten = onesL n := by
  unfold start onesL
  generalize List.range n = l
  induction l with
  | nil => rfl
  | cons x l ih => simp only [List.map_cons, List.flatten_cons, ih]; rfl
theorem redL_ones (n : Nat) : RedL (onesL n) := by
  intro j hj
  unfold onesL at hj ⊢
  simp only [List.length_map, List.length_range] at hj
  rw [gi_range_map _ (by omega), gi_range_map _ (by omega)]; omega
theorem flat_act {n : Nat} {xs : List Int} (hg : ∀ i, i < xs.length → wbad n (gi xs i) = false) (h1 : 1 ≤ n) : ∀ k, k ≤ xs.length → red (actRows n (xs.take k)).flatten = onesL n := by
  intro k
  induction k with
  | zero => intro _; simp only [List.take_zero, actRows, List.foldl_nil]; rw [flat_start]; exact red_of (redL_ones n)
  | succ k ih =>
    intro hk
    rw [take_succ_gi (by omega), actRows_snoc, flat_letter (actRows_len n _) (hg k (by omega)) h1 (act_RL hg h1 k (by omega))]
    exact ih (by omega)
end Go.Proofs.Ytbappfeojdehgaa
