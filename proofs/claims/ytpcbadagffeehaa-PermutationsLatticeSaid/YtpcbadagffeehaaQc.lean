/- Plain facts for the walk of join: what the two loops over pairs add up to. No program in sight. -/
import Derived.Test.YtpcbadagffeehaaQb
namespace Go.Proofs.Ytpcbadagffeehaa
set_option linter.unusedVariables false
set_option linter.unusedSimpArgs false
open Go

/-- The sum of a weight over a list of pairs. -/
def wsum {n : Nat} (wt : Nat → Nat → Int) : List (Pr n) → Int
  | [] => 0
  | x :: l => wt x.1.1 x.1.2 + wsum wt l
theorem wsum_append {n : Nat} (wt : Nat → Nat → Int) (l k : List (Pr n)) : wsum wt (l ++ k) = wsum wt l + wsum wt k := by
  induction l with
  | nil => simp [wsum]
  | cons x l ih => simp only [List.cons_append, wsum, ih]; omega
theorem wsum_prow (n : Nat) (want : Nat → Nat → Bool) (wt : Nat → Nat → Int) {a : Nat} (ha : 1 ≤ a) : ∀ k, k ≤ n → wsum wt (prow n want a (k + 1)) = sm k fun b => if a < b ∧ want a b = true then wt a b else 0
  | 0, _ => by rw [prow_nil (by omega)]; rfl
  | k + 1, h => by
    rw [prow_succ, wsum_append, wsum_prow n want wt ha k (by omega), sm]; congr 1
    by_cases l : a < k + 1
    · cases e : want a (k + 1) with
      | true => rw [pick_yes ⟨ha, l, h⟩ e, if_pos ⟨l, rfl⟩]; simp [wsum]
      | false => rw [pick_no e, if_neg (by simp)]; rfl
    · rw [pick_out (by omega), if_neg (fun h => l h.1)]; rfl
theorem wsum_prows (n : Nat) (want : Nat → Nat → Bool) (wt : Nat → Nat → Int) : ∀ k, wsum wt (prows n want (k + 1)) = sm k fun a => sm n fun b => if a < b ∧ want a b = true then wt a b else 0
  | 0 => by rw [prows_one]; rfl
  | k + 1 => by rw [prows_succ, wsum_append, wsum_prows n want wt k, wsum_prow n want wt (by omega) n (Nat.le_refl _), sm]
theorem wsum_all (n : Nat) (want : Nat → Nat → Bool) (wt : Nat → Nat → Int) : wsum wt (prsAll n want) = sm n fun a => sm n fun b => if a < b ∧ want a b = true then wt a b else 0 := by
  unfold prsAll
  rw [← prows_end n want (n + 1) (by omega), wsum_prows]

/-- The number at place j behind the pairs l. -/
def rk {n : Nat} (l : List (Pr n)) (j : Nat) : Int := (j : Int) + 1 + wsum (fun a b => tf (decide (a = j + 1)) - tf (decide (b = j + 1))) l
theorem rk_nil {n : Nat} (j : Nat) : rk ([] : List (Pr n)) j = (j : Int) + 1 := by simp [rk, wsum]
theorem rk_snoc {n : Nat} (l : List (Pr n)) (x : Pr n) (j : Nat) : rk (l ++ [x]) j = rk l j + (tf (decide (x.1.1 = j + 1)) - tf (decide (x.1.2 = j + 1))) := by
  unfold rk; rw [wsum_append]; simp only [wsum]; omega
theorem rk_all {n : Nat} (C : Nat → Nat → Bool) {j : Nat} (hj : j < n) : rk (prsAll n C) j = rank n C (j + 1) := by
  unfold rk
  rw [wsum_all, rank_eq (by omega) (by omega)]
  have h : (sm n fun a => sm n fun b => if a < b ∧ C a b = true then tf (decide (a = j + 1)) - tf (decide (b = j + 1)) else 0) =
      (sm n fun a => sm n fun b => if a = j + 1 then tf (decide (a < b) && C a b) else 0) - sm n fun a => sm n fun b => if b = j + 1 then tf (decide (a < b) && C a b) else 0 := by
    rw [← sm_sub]
    refine sm_congr fun a _ _ => ?_
    rw [← sm_sub]
    refine sm_congr fun b _ _ => ?_
    by_cases h1 : a < b ∧ C a b = true
    · rw [if_pos h1]; simp only [h1.1, h1.2, decide_true, Bool.and_self, tf_true]
      by_cases ha : a = j + 1 <;> by_cases hb : b = j + 1 <;> simp [ha, hb, tf]
    · rw [if_neg h1]
      have : tf (decide (a < b) && C a b) = 0 := by
        cases e : (decide (a < b) && C a b) with
        | false => rfl
        | true => simp at e; exact absurd e h1
      rw [this]; simp
  rw [h]
  have h1 : (sm n fun a => sm n fun b => if a = j + 1 then tf (decide (a < b) && C a b) else 0) = cnt n fun b => decide (j + 1 < b) && C (j + 1) b := by
    rw [sm_pick (u := j + 1) (by omega) (by omega) fun a _ _ hne => sm_zero fun b _ _ => if_neg hne]
    exact sm_congr fun b _ _ => if_pos rfl
  have h2 : (sm n fun a => sm n fun b => if b = j + 1 then tf (decide (a < b) && C a b) else 0) = cnt n fun a => decide (a < j + 1) && C a (j + 1) := by
    rw [sm_comm, sm_pick (u := j + 1) (by omega) (by omega) fun a _ _ hne => sm_zero fun b _ _ => if_neg hne]
    exact sm_congr fun b _ _ => if_pos rfl
  rw [h1, h2]; omega
/-- .. as a number of eight bits. -/
def rkw {n : Nat} (l : List (Pr n)) (j : Nat) : Int := rk l j % 256
theorem rkw_bd {n : Nat} (l : List (Pr n)) (j : Nat) : 0 ≤ rkw l j ∧ rkw l j ≤ 255 := by unfold rkw; omega
theorem rkw_nil {n j : Nat} (hj : j < 200) : rkw ([] : List (Pr n)) j = (j : Int) + 1 := by unfold rkw; rw [rk_nil]; omega
theorem rkw_all {n : Nat} (h8 : n ≤ 8) (C : Nat → Nat → Bool) {j : Nat} (hj : j < n) : rkw (prsAll n C) j = gi (rankL n C) j := by
  have h := rankL_gi (n := n) (C := C) (i := j + 1) (by omega) (by omega)
  rw [Nat.add_sub_cancel] at h
  rw [h]
  have := rank_bd (n := n) (C := C) (i := j + 1) (by omega) (by omega)
  unfold rkw; rw [rk_all C hj]; omega
theorem rkw_a {n : Nat} (l : List (Pr n)) (x : Pr n) : IntKind.u8.wrap (rkw l (x.1.1 - 1) + 1) = rkw (l ++ [x]) (x.1.1 - 1) := by
  obtain ⟨⟨a, b⟩, h1, h2, h3⟩ := x
  simp only at h1 h2 h3
  have : IntKind.u8.wrap (rkw l (a - 1) + 1) = (rkw l (a - 1) + 1) % 256 := by simp [IntKind.wrap, IntKind.bits, IntKind.signed]
  simp only
  rw [this]
  unfold rkw; rw [rk_snoc]
  have e1 : (decide (a = a - 1 + 1)) = true := decide_eq_true (by omega)
  have e2 : (decide (b = a - 1 + 1)) = false := decide_eq_false (by omega)
  simp only [e1, e2, tf_true, tf_false]
  omega
theorem rkw_b {n : Nat} (l : List (Pr n)) (x : Pr n) : IntKind.u8.wrap (rkw l (x.1.2 - 1) - 1) = rkw (l ++ [x]) (x.1.2 - 1) := by
  obtain ⟨⟨a, b⟩, h1, h2, h3⟩ := x
  simp only at h1 h2 h3
  have : IntKind.u8.wrap (rkw l (b - 1) - 1) = (rkw l (b - 1) - 1) % 256 := by simp [IntKind.wrap, IntKind.bits, IntKind.signed]
  simp only
  rw [this]
  unfold rkw; rw [rk_snoc]
  have e1 : (decide (a = b - 1 + 1)) = false := decide_eq_false (by omega)
  have e2 : (decide (b = b - 1 + 1)) = true := decide_eq_true (by omega)
  simp only [e1, e2, tf_true, tf_false]
  omega
theorem rkw_other {n : Nat} (l : List (Pr n)) (x : Pr n) {j : Nat} (ha : j ≠ x.1.1 - 1) (hb : j ≠ x.1.2 - 1) : rkw (l ++ [x]) j = rkw l j := by
  obtain ⟨⟨a, b⟩, h1, h2, h3⟩ := x
  simp only at h1 h2 h3 ha hb
  unfold rkw; rw [rk_snoc]
  have e1 : (decide (a = j + 1)) = false := decide_eq_false (by omega)
  have e2 : (decide (b = j + 1)) = false := decide_eq_false (by omega)
  simp only [e1, e2, tf_false]
  omega

/-! ### the three loops -/
def Sup (n : Nat) (C : Nat → Nat → Bool) : Prop := ∀ a c, C a c = true → 1 ≤ a ∧ a < c ∧ c ≤ n
theorem wsh_sup {n : Nat} {E : Nat → Nat → Bool} (h : Sup n E) (k : Nat) : Sup n (wsh E k) := fun a c hc => by
  have := wsh_least (n := n) (E := E) (D := fun _ _ => true) (fun a c he => by have := h a c he; exact ⟨this.1, this.2.1, this.2.2, rfl⟩) (fun _ _ _ _ _ _ _ _ _ => rfl) k a c hc
  exact ⟨this.1, this.2.1, this.2.2.1⟩
theorem jE_sup (n : Nat) (xs ys : List Int) : Sup n (jE n xs ys) := fun a c h => by
  unfold jE at h; simp only [Bool.and_eq_true, decide_eq_true_eq] at h; exact h.1
/-- Within the round of b: up to a, and c. -/
def wmid (C : Nat → Nat → Bool) (b a c : Nat) : Nat → Nat → Bool := fun i j => C i j || (decide (i < b ∧ b < j ∧ (i < a ∨ i = a ∧ j < c)) && C i b && C b j)
theorem wmid_start {n : Nat} {C : Nat → Nat → Bool} (h : Sup n C) (b : Nat) (i j : Nat) : C i j = wmid C b 1 0 i j := by
  unfold wmid
  cases e : C i b with
  | false => simp
  | true => have := h _ _ e; rw [decide_eq_false (by omega)]; simp
theorem wmid_inner (C : Nat → Nat → Bool) (b a : Nat) (i j : Nat) : wmid C b a 0 i j = wmid C b a (b + 1) i j := by
  unfold wmid
  congr 3
  rw [decide_eq_decide]; omega
theorem wmid_end {n : Nat} {C : Nat → Nat → Bool} (h : Sup n C) (b a : Nat) (i j : Nat) : wmid C b a (n + 1) i j = wmid C b (a + 1) 0 i j := by
  unfold wmid
  cases e : C b j with
  | false => simp
  | true =>
    have := h _ _ e
    congr 3
    rw [decide_eq_decide]; omega
theorem wmid_round (C : Nat → Nat → Bool) (b : Nat) (i j : Nat) : wmid C b b 0 i j = wround C b i j := by
  unfold wmid wround
  rw [show decide (i < b ∧ b < j ∧ (i < b ∨ i = b ∧ j < 0)) = (decide (i < b) && decide (b < j)) by rw [← Bool.decide_and, decide_eq_decide]; omega]
theorem wmid_left (C : Nat → Nat → Bool) (b a c : Nat) : wmid C b a c a b = C a b := by
  unfold wmid; rw [decide_eq_false (by omega)]; simp
theorem wmid_right (C : Nat → Nat → Bool) (b a c : Nat) : wmid C b a c b c = C b c := by
  unfold wmid; rw [decide_eq_false (by omega)]; simp
theorem wmid_no {C : Nat → Nat → Bool} {b a c : Nat} (h : C a b = false ∨ C b c = false) (i j : Nat) : wmid C b a c i j = wmid C b a (c + 1) i j := by
  unfold wmid
  by_cases e : i = a ∧ j = c
  · obtain ⟨rfl, rfl⟩ := e
    rcases h with h | h <;> simp [h]
  · congr 3
    rw [decide_eq_decide]; omega
theorem wmid_yes {C : Nat → Nat → Bool} {b a c : Nat} (ha : a < b) (hc : b < c) (h : C a b = true) (h' : C b c = true) (i j : Nat) : (decide (i = a ∧ j = c) || wmid C b a c i j) = wmid C b a (c + 1) i j := by
  unfold wmid
  by_cases e : i = a ∧ j = c
  · obtain ⟨rfl, rfl⟩ := e
    simp [h, h', ha, hc]
  · rw [decide_eq_false e, Bool.false_or]
    congr 3
    rw [decide_eq_decide]; omega
end Go.Proofs.Ytpcbadagffeehaa
