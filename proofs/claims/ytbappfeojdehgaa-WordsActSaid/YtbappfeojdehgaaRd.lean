/- Plain mathematics of free reduction: the stack's answer is what taking pairs away one by one gives. -/
import Derived.Test.YtbappfeojdehgaaWc
namespace Go.Proofs.Ytbappfeojdehgaa
set_option linter.unusedVariables false
set_option linter.unusedSimpArgs false
set_option maxRecDepth 8000

def redStep (st : List Int) (k : Int) : List Int := if st.getLast? = some (-k) then st.dropLast else st ++ [k]
def red (xs : List Int) : List Int := xs.foldl redStep []

theorem red_snoc (xs : List Int) (k : Int) : red (xs ++ [k]) = redStep (red xs) k := by unfold red; simp
theorem redStep_len (st : List Int) (k : Int) : (redStep st k).length ≤ st.length + 1 := by
  unfold redStep; split <;> simp; omega
theorem red_len' (xs : List Int) : ∀ st, (xs.foldl redStep st).length ≤ st.length + xs.length := by
  induction xs with
  | nil => intro st; simp
  | cons k xs ih => intro st; have := ih (redStep st k); have := redStep_len st k; simp only [List.foldl_cons, List.length_cons]; omega
theorem red_len (xs : List Int) : (red xs).length ≤ xs.length := by have := red_len' xs []; simpa [red] using this

theorem gi_last {st : List Int} (h : 0 < st.length) : st.getLast? = some (gi st (st.length - 1)) := by
  rw [List.getLast?_eq_getElem?, gi_some (by omega)]
theorem redStep_pop {st : List Int} {k : Int} (h : 0 < st.length) (he : gi st (st.length - 1) = -k) : redStep st k = st.dropLast := by
  unfold redStep; rw [if_pos (by rw [gi_last h, he])]
theorem redStep_push {st : List Int} {k : Int} (he : 0 < st.length → gi st (st.length - 1) ≠ -k) : redStep st k = st ++ [k] := by
  unfold redStep
  rw [if_neg]
  by_cases h : 0 < st.length
  · rw [gi_last h]; simpa using he h
  · have : st = [] := List.eq_nil_of_length_eq_zero (by omega)
    subst this; simp

/-- What is left to do at place i: the stack goes on from the first i letters. -/
def rest (st : List Int) (i : Nat) : List Int := (st.drop i).foldl redStep (st.take i)

theorem rest_zero (xs : List Int) : rest xs 0 = red xs := by unfold rest red; simp

/-- The first n letters do not cancel. -/
def Redd (st : List Int) (n : Nat) : Prop := ∀ j, j + 1 < n → j + 1 < st.length → gi st j ≠ - gi st (j + 1)

theorem rest_end {st : List Int} {i : Nat} (h : ¬ i + 1 < st.length) (hr : Redd st (i + 1)) : rest st i = st := by
  unfold rest
  by_cases hi : i < st.length
  · have hd : st.drop i = [gi st i] := by
      rw [List.drop_eq_getElem_cons hi, gi_of_lt hi, List.drop_of_length_le (by omega)]
    rw [hd]
    simp only [List.foldl_cons, List.foldl_nil]
    rw [redStep_push]
    · rw [← take_succ_gi hi, List.take_of_length_le (by omega)]
    · intro h0
      simp only [List.length_take] at h0 ⊢
      rw [show min i st.length - 1 = i - 1 from by omega, gi_take (by omega)]
      have := hr (i - 1) (by omega) (by omega)
      rwa [show i - 1 + 1 = i from by omega] at this
  · rw [List.drop_of_length_le (by omega), List.take_of_length_le (by omega)]; rfl

theorem rest_step {st : List Int} {i : Nat} (h : i + 1 < st.length) (hr : Redd st (i + 1)) (hne : gi st i ≠ - gi st (i + 1)) : rest st (i + 1) = rest st i ∧ Redd st (i + 2) := by
  constructor
  · unfold rest
    have hd : st.drop i = gi st i :: st.drop (i + 1) := by rw [List.drop_eq_getElem_cons (by omega), gi_of_lt (by omega)]
    rw [hd]
    simp only [List.foldl_cons]
    rw [redStep_push, ← take_succ_gi (by omega)]
    intro h0
    simp only [List.length_take] at h0 ⊢
    rw [show min i st.length - 1 = i - 1 from by omega, gi_take (by omega)]
    have := hr (i - 1) (by omega) (by omega)
    rwa [show i - 1 + 1 = i from by omega] at this
  · intro j hj hj2
    by_cases e : j = i
    · subst e; exact hne
    · exact hr j (by omega) hj2

theorem rest_cut {st : List Int} {i : Nat} (h : i + 1 < st.length) (hr : Redd st (i + 1)) (he : gi st i = - gi st (i + 1)) :
    rest (st.take i ++ st.drop (i + 2)) (i - 1) = rest st i ∧ Redd (st.take i ++ st.drop (i + 2)) (i - 1 + 1) := by
  have hlen : (st.take i).length = i := by simp; omega
  have hd : st.drop i = gi st i :: gi st (i + 1) :: st.drop (i + 2) := by
    rw [List.drop_eq_getElem_cons (by omega), List.drop_eq_getElem_cons (by omega), gi_of_lt (by omega), gi_of_lt (by omega)]
  have push : redStep (st.take i) (gi st i) = st.take (i + 1) := by
    rw [redStep_push, ← take_succ_gi (by omega)]
    intro h0
    rw [hlen] at h0 ⊢
    rw [gi_take (by omega)]
    have := hr (i - 1) (by omega) (by omega)
    rwa [show i - 1 + 1 = i from by omega] at this
  have pop : redStep (st.take (i + 1)) (gi st (i + 1)) = st.take i := by
    rw [redStep_pop]
    · rw [List.dropLast_eq_take, List.take_take]; congr 1; simp; omega
    · simp; omega
    · simp only [List.length_take]
      rw [show min (i + 1) st.length - 1 = i from by omega, gi_take (by omega), he]
  have old : rest st i = (st.drop (i + 2)).foldl redStep (st.take i) := by
    unfold rest; rw [hd]; simp only [List.foldl_cons]; rw [push, pop]
  constructor
  · rw [old]
    by_cases h0 : i = 0
    · subst h0; unfold rest; simp
    · have hd2 : (st.take i ++ st.drop (i + 2)).drop (i - 1) = gi st (i - 1) :: st.drop (i + 2) := by
        have h3 : st.drop (i - 1) = st[i - 1] :: st.drop (i - 1 + 1) := List.drop_eq_getElem_cons (by omega)
        rw [List.drop_append_of_le_length (by omega), List.drop_take, show i - (i - 1) = 1 from by omega, h3, gi_of_lt (by omega)]
        rfl
      have ht2 : (st.take i ++ st.drop (i + 2)).take (i - 1) = st.take (i - 1) := by
        rw [List.take_append_of_le_length (by omega), List.take_take]; congr 1; omega
      unfold rest
      rw [hd2, ht2]
      simp only [List.foldl_cons]
      rw [redStep_push, ← take_succ_gi (by omega), show i - 1 + 1 = i from by omega]
      intro h1
      simp only [List.length_take] at h1 ⊢
      rw [show min (i - 1) st.length - 1 = i - 2 from by omega, gi_take (by omega)]
      have := hr (i - 2) (by omega) (by omega)
      rwa [show i - 2 + 1 = i - 1 from by omega] at this
  · intro j hj hj2
    rw [gi_append_left (by omega), gi_append_left (by omega), gi_take (by omega), gi_take (by omega)]
    exact hr j (by omega) (by omega)

end Go.Proofs.Ytbappfeojdehgaa
