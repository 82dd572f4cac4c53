/- How long images get: the products of the first images grow as a sum of three. No program in sight. -/
import Derived.Test.YtbappfeojdehgaaAb
namespace Go.Proofs.Ytbappfeojdehgaa
set_option linter.unusedVariables false
set_option linter.unusedSimpArgs false
open Go Go.RowKit

theorem rl_app (x y : List Int) : (red (x ++ y)).length ≤ (red x).length + (red y).length := by
  have e1 := red_mid [] x y
  have e2 := red_mid (red x) y []
  simp only [List.nil_append, List.append_nil] at e1 e2
  rw [← e1, ← e2, red_app (redL_red x) (redL_red y)]
  exact prodL_len _ _
theorem rl_inv (x : List Int) : (red (invL x)).length = (red x).length := by rw [red_invL, invL_len]
theorem rl_three (x y z : List Int) : (red (x ++ invL y ++ z)).length ≤ (red x).length + (red y).length + (red z).length := by
  have h1 := rl_app (x ++ invL y) z
  have h2 := rl_app x (invL y)
  rw [rl_inv] at h2
  omega

/-- The product of the first i images, reduced: how long. -/
def pl (rows : List (List Int)) (i : Nat) : Nat := (red (rows.take i).flatten).length

theorem red_flat_pos (p a b t : List Int) : red (p ++ (red (a ++ b ++ invL a) ++ (a ++ t))) = red (p ++ (a ++ (b ++ t))) := by
  have e1 := red_mid p (a ++ b ++ invL a) (a ++ t)
  have e2 := red_cut' (p ++ a ++ b) a t
  simp only [List.append_assoc] at e1 e2 ⊢
  rw [e1, e2]
theorem red_flat_neg (p a b t : List Int) : red (p ++ (b ++ (red (invL b ++ a ++ b) ++ t))) = red (p ++ (a ++ (b ++ t))) := by
  have e1 := red_mid (p ++ b) (invL b ++ a ++ b) t
  have e2 := red_cut p b (a ++ b ++ t)
  simp only [List.append_assoc] at e1 e2 ⊢
  rw [e1, e2]
theorem new_pos (p a b : List Int) : (red (p ++ red (a ++ b ++ invL a))).length ≤ (red (p ++ (a ++ b))).length + (red (p ++ a)).length + (red p).length := by
  have e1 := red_mid p (a ++ b ++ invL a) []
  have e2 := red_cut' (p ++ a ++ b ++ invL a) p []
  have h := rl_three (p ++ (a ++ b)) (p ++ a) p
  simp only [invL_app, List.append_assoc, List.append_nil] at e1 e2 h ⊢
  rw [e1, ← e2]; exact h
theorem new_neg (p a b : List Int) : (red (p ++ b)).length ≤ (red (p ++ (a ++ b))).length + (red (p ++ a)).length + (red p).length := by
  have e1 := red_cut' (p ++ invL a) p (a ++ b)
  have e2 := red_cut' p a b
  have h := rl_three p (p ++ a) (p ++ (a ++ b))
  simp only [invL_app, List.append_assoc, List.append_nil] at e1 e2 h ⊢
  rw [e1, e2] at h
  omega

theorem take_mid (p s : List (List Int)) (x y : List Int) (i : Nat) : ((p ++ x :: y :: s).take (p.length + 2 + i)).flatten = p.flatten ++ (x ++ (y ++ (s.take i).flatten)) := by
  rw [List.take_append, List.take_of_length_le (by omega), show p.length + 2 + i - p.length = i + 1 + 1 from by omega, List.take_succ_cons, List.take_succ_cons]
  simp
theorem take_one (p s : List (List Int)) (x : List Int) : ((p ++ x :: s).take (p.length + 1)).flatten = p.flatten ++ x := by
  rw [List.take_append, List.take_of_length_le (by omega), show p.length + 1 - p.length = 0 + 1 from by omega, List.take_succ_cons]
  simp
theorem take_low (p s : List (List Int)) {i : Nat} (h : i ≤ p.length) : (p ++ s).take i = p.take i := by
  rw [List.take_append, show i - p.length = 0 from by omega]; simp

theorem pl_letter {n : Nat} {rows : List (List Int)} {k : Int} (h1 : 1 ≤ n) (hV : IV n rows) (hk : wbad n k = false) :
    ∃ q : Nat, q + 1 < n ∧ (∀ i, i ≠ q + 1 → pl (letterRows rows k) i = pl rows i) ∧ pl (letterRows rows k) (q + 1) ≤ pl rows (q + 2) + pl rows (q + 1) + pl rows q := by
  rw [← (img_letter hV.1 hk h1 hV.2).1]
  have hl := hV.1
  rcases letter_place hk (by omega) with ⟨_, q, rfl, hqn⟩ | ⟨_, q, rfl, hqn⟩
  · refine ⟨q, by omega, ?_⟩
    rw [imgRows_pos]
    obtain ⟨p, s, hd, hp⟩ := two_rows (rows := rows) (q := q) (by omega)
    generalize ri rows q = a at hd ⊢
    generalize ri rows (q + 1) = b at hd ⊢
    subst hp
    rw [hd, set_two]
    refine ⟨fun i hi => ?_, ?_⟩
    · unfold pl
      by_cases hlo : i ≤ p.length
      · rw [take_low _ _ hlo, take_low _ _ hlo]
      · obtain ⟨j, rfl⟩ : ∃ j, i = p.length + 2 + j := ⟨i - p.length - 2, by omega⟩
        rw [take_mid, take_mid, red_flat_pos]
    · unfold pl
      rw [take_one, take_one, take_low _ _ (Nat.le_refl _), List.take_length, show p.length + 2 = p.length + 2 + 0 from rfl, take_mid]
      simp only [List.take_zero, List.flatten_nil, List.append_nil]
      exact new_pos _ _ _
  · refine ⟨q, by omega, ?_⟩
    rw [imgRows_neg]
    obtain ⟨p, s, hd, hp⟩ := two_rows (rows := rows) (q := q) (by omega)
    generalize ri rows q = a at hd ⊢
    generalize ri rows (q + 1) = b at hd ⊢
    subst hp
    rw [hd, set_two]
    refine ⟨fun i hi => ?_, ?_⟩
    · unfold pl
      by_cases hlo : i ≤ p.length
      · rw [take_low _ _ hlo, take_low _ _ hlo]
      · obtain ⟨j, rfl⟩ : ∃ j, i = p.length + 2 + j := ⟨i - p.length - 2, by omega⟩
        rw [take_mid, take_mid, red_flat_neg]
    · unfold pl
      rw [take_one, take_one, take_low _ _ (Nat.le_refl _), List.take_length, show p.length + 2 = p.length + 2 + 0 from rfl, take_mid]
      simp only [List.take_zero, List.flatten_nil, List.append_nil]
      exact new_neg _ _ _

/-- One of the lengths is at most A, one more at most B, the others at most C. -/
def Tri (rows : List (List Int)) (n A B C : Nat) : Prop := C ≤ B ∧ B ≤ A ∧ ∃ p q : Nat, ∀ i, i ≤ n → pl rows i ≤ if i = p then A else if i = q then B else C
theorem Tri.at {rows : List (List Int)} {n A B C p q i : Nat} (h : pl rows i ≤ if i = p then A else if i = q then B else C) : (i = p ∧ pl rows i ≤ A) ∨ (i ≠ p ∧ i = q ∧ pl rows i ≤ B) ∨ pl rows i ≤ C := by
  by_cases h1 : i = p
  · rw [if_pos h1] at h; exact .inl ⟨h1, h⟩
  · rw [if_neg h1] at h
    by_cases h2 : i = q
    · rw [if_pos h2] at h; exact .inr (.inl ⟨h1, h2, h⟩)
    · rw [if_neg h2] at h; exact .inr (.inr h)
theorem Tri.three {rows : List (List Int)} {n A B C : Nat} (h : Tri rows n A B C) {i j k : Nat} (hi : i ≤ n) (hj : j ≤ n) (hk : k ≤ n) (h1 : i ≠ j) (h2 : i ≠ k) (h3 : j ≠ k) : pl rows i + pl rows j + pl rows k ≤ A + B + C := by
  obtain ⟨a, b, p, q, h⟩ := h
  have x := Tri.at (n := n) (h i hi)
  have y := Tri.at (n := n) (h j hj)
  have z := Tri.at (n := n) (h k hk)
  rcases x with x | x | x <;> rcases y with y | y | y <;> rcases z with z | z | z <;> omega
theorem Tri.two {rows : List (List Int)} {n A B C : Nat} (h : Tri rows n A B C) {i j : Nat} (hi : i ≤ n) (hj : j ≤ n) (h1 : i ≠ j) : pl rows i + pl rows j ≤ A + B := by
  obtain ⟨a, b, p, q, h⟩ := h
  have x := Tri.at (n := n) (h i hi)
  have y := Tri.at (n := n) (h j hj)
  rcases x with x | x | x <;> rcases y with y | y | y <;> omega
theorem Tri.step {rows : List (List Int)} {n A B C : Nat} {k : Int} (h1 : 1 ≤ n) (hV : IV n rows) (hk : wbad n k = false) (h : Tri rows n A B C) : Tri (letterRows rows k) n (A + B + C) A B := by
  obtain ⟨m, hm, h2, h3⟩ := pl_letter h1 hV hk
  have h4 := h.three (i := m + 2) (j := m + 1) (k := m) (by omega) (by omega) (by omega) (by omega) (by omega) (by omega)
  obtain ⟨a, b, p, q, h⟩ := h
  refine ⟨b, by omega, m + 1, p, fun i hi => ?_⟩
  by_cases e : i = m + 1
  · rw [if_pos e, e]; omega
  · rw [if_neg e, h2 i e]
    have := h i hi
    split at this
    · rename_i e1; rw [if_pos e1]; exact this
    · rename_i e1
      rw [if_neg e1]
      split at this <;> omega

def tr : Nat → Nat × Nat × Nat
  | 0 => (6, 5, 4)
  | k + 1 => ((tr k).1 + (tr k).2.1 + (tr k).2.2, (tr k).1, (tr k).2.1)
theorem tr_le : ∀ k, k < 17 → (tr k).1 + (tr k).2.1 ≤ 202603 := by decide
theorem start_take (n i : Nat) (h : i ≤ n) : (start n).take i = start i := by
  apply List.ext_getElem
  · simp [start]; omega
  · intro j h1 h2; simp [start]
theorem tri_start {n : Nat} (h6 : n ≤ 6) : Tri (start n) n 6 5 4 := by
  refine ⟨by omega, by omega, 6, 5, fun i hi => ?_⟩
  have e : pl (start n) i = i := by
    unfold pl
    rw [start_take n i hi, flat_start, red_of (redL_ones i)]; simp [onesL]
  rw [e]
  by_cases h1 : i = 6
  · rw [if_pos h1]; omega
  · rw [if_neg h1]
    by_cases h2 : i = 5
    · rw [if_pos h2]; omega
    · rw [if_neg h2]; omega
theorem act_IV {n : Nat} {xs : List Int} (h1 : 1 ≤ n) (hv : Val n xs) : IV n (actRows n xs) := by
  refine ⟨actRows_len n xs, ?_⟩
  have := act_RL hv.at h1 xs.length (Nat.le_refl _)
  rwa [List.take_length] at this
theorem tri_act {n : Nat} {xs : List Int} (h1 : 1 ≤ n) (h6 : n ≤ 6) (hv : Val n xs) : ∀ k, k ≤ xs.length → Tri (actRows n (xs.take k)) n (tr k).1 (tr k).2.1 (tr k).2.2 := by
  intro k
  induction k with
  | zero => intro _; exact tri_start h6
  | succ k ih =>
    intro hk
    rw [take_succ_gi (by omega), actRows_snoc]
    exact Tri.step h1 (act_IV h1 (hv.take k)) (hv.at k (by omega)) (ih (by omega))
theorem row_pl {n : Nat} {rows : List (List Int)} (hV : IV n rows) {i : Nat} (hi : i < n) : (ri rows i).length ≤ pl rows i + pl rows (i + 1) := by
  have hl := hV.1
  have e : (rows.take (i + 1)).flatten = (rows.take i).flatten ++ ri rows i := by
    rw [List.take_succ_eq_append_getElem (by omega), ri_lt (by omega), List.flatten_append, List.flatten_singleton]
  have h := rl_app (invL (rows.take i).flatten) (rows.take (i + 1)).flatten
  have e1 := red_cut' [] (rows.take i).flatten (ri rows i)
  rw [rl_inv, e] at h
  simp only [List.nil_append, List.append_assoc] at e1 h
  rw [e1, red_of (hV.2 i), ← e] at h
  exact h
theorem row_le {n : Nat} {u : List Int} (h1 : 1 ≤ n) (h6 : n ≤ 6) (hv : Val n u) (hl : u.length ≤ 16) {i : Nat} (hi : i < n) : (ri (actRows n u) i).length ≤ 202603 := by
  have ht := tri_act h1 h6 hv u.length (Nat.le_refl _)
  rw [List.take_length] at ht
  have := row_pl (act_IV h1 hv) hi
  have h2 := ht.two (i := i) (j := i + 1) (by omega) (by omega) (by omega)
  have h3 := tr_le u.length (by omega)
  omega
theorem letterLen_row {n : Nat} {rows : List (List Int)} {k : Int} (hl : rows.length = n) (hk : wbad n k = false) (h1 : 1 ≤ n) : ∃ i, i < n ∧ letterLen rows k = (ri (letterRows rows k) i).length := by
  rcases letter_place hk (by omega) with ⟨_, q, rfl, hqn⟩ | ⟨_, q, rfl, hqn⟩
  · refine ⟨q, by omega, ?_⟩
    rw [letterLen_pos _ _ (by omega), letterRows_pos, ri_set _ _ _ _ (by rw [List.length_set]; omega), if_neg (by omega), ri_set _ _ _ _ (by omega), if_pos rfl]
  · refine ⟨q + 1, by omega, ?_⟩
    rw [letterLen_neg _ _ (by omega), letterRows_neg, ri_set _ _ _ _ (by rw [List.length_set]; omega), if_pos rfl]
/-- The images of words that are short in their braids fit. -/
theorem fits_br {n : Nat} {v : List Int} (h1 : 1 ≤ n) (h6 : n ≤ 6) (hv : Val n v) (h : ∀ j, j ≤ v.length → ∃ u, Val n u ∧ u.length ≤ 16 ∧ Br n (v.take j) u) : fits n v := by
  intro k hk
  obtain ⟨i, hi, e⟩ := letterLen_row (actRows_len n (v.take k)) (hv.at k hk) h1
  rw [e, ← actRows_snoc, ← take_succ_gi hk]
  obtain ⟨u, hu, hl, hb⟩ := h (k + 1) (by omega)
  rw [br_act h1 hb]
  have := row_le h1 h6 hu hl hi
  omega
/-- A word of a braid that has a word of at most 12 letters, and that word and the way back. -/
theorem fits_two {n : Nat} {w v : List Int} (h1 : 1 ≤ n) (h6 : n ≤ 6) (hw : Val n w) (hv : Val n v) (hb : Br n w v) (hlw : w.length ≤ 12) (hlv : v.length ≤ 21) : fits n v ∧ fits n (w ++ invL v) ∧ actRows n (w ++ invL v) = start n := by
  have key : ∀ j, j ≤ v.length → ∃ u, Val n u ∧ u.length ≤ 16 ∧ Br n (v.take j) u ∧ Br n (w ++ invL (v.drop j)) u := by
    intro j hj
    have hB : Br n (w ++ invL (v.drop j)) (v.take j) := by
      have h2 := hb.right (invL (v.drop j))
      have h3 := (Br.inv (hv.drop j)).left (hv.take j)
      rw [List.append_nil, ← List.append_assoc, List.take_append_drop] at h3
      exact h2.trans h3
    by_cases hs : j ≤ 16
    · exact ⟨v.take j, hv.take j, by rw [List.length_take]; omega, Br.refl _ _, hB⟩
    · exact ⟨w ++ invL (v.drop j), hw.app (hv.drop j).inv, by rw [List.length_append, invL_len, List.length_drop]; omega, hB.symm, Br.refl _ _⟩
  refine ⟨fits_br h1 h6 hv fun j hj => ?_, fits_br h1 h6 (hw.app hv.inv) fun j hj => ?_, ?_⟩
  · obtain ⟨u, a, b, c, _⟩ := key j hj; exact ⟨u, a, b, c⟩
  · by_cases hjw : j ≤ w.length
    · refine ⟨w.take j, hw.take j, by rw [List.length_take]; omega, ?_⟩
      rw [List.take_append_of_le_length hjw]; exact Br.refl _ _
    · rw [List.length_append, invL_len] at hj
      obtain ⟨u, a, b, _, c⟩ := key (v.length - (j - w.length)) (by omega)
      refine ⟨u, a, b, ?_⟩
      have e : (w ++ invL v).take j = w ++ invL (v.drop (v.length - (j - w.length))) := by
        rw [List.take_append, List.take_of_length_le (by omega)]
        congr 1
        unfold invL
        rw [← List.map_take, List.take_reverse]
      rw [e]; exact c
  · have h2 := (hb.right (invL v)).trans (Br.inv hv)
    rw [br_act h1 h2]; rfl
end Go.Proofs.Ytbappfeojdehgaa
