/- Plain mathematics of the images: products are reduced words; lengths; the product of all images. -/
import Derived.Test.YtbappfeojdehgaaIm
import Derived.Test.YtbappfeojdehgaaLr
namespace Go.Proofs.Ytbappfeojdehgaa
set_option linter.unusedVariables false
set_option linter.unusedSimpArgs false
open Go Go.RowKit

theorem redStep_redo {st : List Int} {k : Int} (h : RedL st) : redStep (redStep st k) (-k) = st := by
  by_cases hp : 0 < st.length ∧ gi st (st.length - 1) = -k
  · rw [redStep_pop hp.1 hp.2]
    have hst : st = st.dropLast ++ [-k] := by
      have h1 : st.take (st.length - 1 + 1) = st.take (st.length - 1) ++ [gi st (st.length - 1)] := take_succ_gi (by omega)
      rw [show st.length - 1 + 1 = st.length from by omega, List.take_length, hp.2, ← List.dropLast_eq_take] at h1
      exact h1
    rw [redStep_push, ← hst]
    intro h0
    rw [List.length_dropLast] at h0 ⊢
    rw [List.dropLast_eq_take, gi_take (by omega)]
    have := h (st.length - 1 - 1) (by omega)
    rw [show st.length - 1 - 1 + 1 = st.length - 1 from by omega, hp.2] at this
    exact this
  · have hn : 0 < st.length → gi st (st.length - 1) ≠ -k := fun a b => hp ⟨a, b⟩
    rw [redStep_push hn, redStep_pop (by simp)]
    · simp
    · simp only [List.length_append, List.length_cons, List.length_nil]
      rw [gi_append_right (by omega), show st.length + (0 + 1) - 1 - st.length = 0 from by omega, gi_cons_zero]; omega

theorem redL_tail {k : Int} {b : List Int} (h : RedL (k :: b)) : RedL b := fun j hj => by
  have := h (j + 1) (by simp; omega)
  rwa [gi_cons_succ, gi_cons_succ] at this
theorem canc_zero {k : Int} {a b : List Int} (h : RedL (k :: b)) : canc (k :: a) b = 0 := by
  cases b with
  | nil => rfl
  | cons y b =>
    have := h 0 (by simp)
    rw [gi_cons_succ, gi_cons_zero, gi_cons_zero] at this
    simp [canc, this]
theorem canc_nil (b : List Int) : canc [] b = 0 := by cases b <;> rfl
theorem canc_nil' (a : List Int) : canc a [] = 0 := by cases a <;> rfl

/-- Reducing a reduced word behind a reduced word is taking the product. -/
theorem fold_prod : ∀ (b st : List Int), RedL st → RedL b → b.foldl redStep st = prodL st b := by
  intro b
  induction b with
  | nil => intro st _ _; unfold prodL; simp [canc_nil']
  | cons k b ih =>
    intro st hst hb
    simp only [List.foldl_cons]
    rw [ih _ (redL_step hst) (redL_tail hb)]
    by_cases hp : 0 < st.length ∧ gi st (st.length - 1) = -k
    · rw [redStep_pop hp.1 hp.2]
      have hs : st = st.dropLast ++ [-k] := by
        have h1 : st.take (st.length - 1 + 1) = st.take (st.length - 1) ++ [gi st (st.length - 1)] := take_succ_gi (by omega)
        rw [show st.length - 1 + 1 = st.length from by omega, List.take_length, hp.2, ← List.dropLast_eq_take] at h1
        exact h1
      obtain ⟨y, hy⟩ : ∃ y, y = st.dropLast := ⟨_, rfl⟩
      rw [← hy] at hs ⊢
      subst hs
      have hle := canc_le y.reverse b
      simp only [List.length_reverse] at hle
      have e1 : canc (y ++ [-k]).reverse (k :: b) = canc y.reverse b + 1 := by simp [canc]
      unfold prodL
      rw [e1]
      have e2 : (y ++ [-k]).length - (canc y.reverse b + 1) = y.length - canc y.reverse b := by simp
      rw [e2, List.take_append_of_le_length (by omega), List.drop_succ_cons]
    · have hn : 0 < st.length → gi st (st.length - 1) ≠ -k := fun a b => hp ⟨a, b⟩
      rw [redStep_push hn]
      unfold prodL
      have e1 : canc (st ++ [k]).reverse b = 0 := by simp only [List.reverse_append, List.reverse_cons, List.reverse_nil, List.nil_append, List.cons_append]; exact canc_zero hb
      have e2 : canc st.reverse (k :: b) = 0 := by
        rcases List.eq_nil_or_concat st with rfl | ⟨y, x, hyx⟩
        · rfl
        · rw [List.concat_eq_append] at hyx
          subst hyx
          have := hn (by simp)
          simp only [List.length_append, List.length_cons, List.length_nil] at this
          rw [gi_append_right (by omega), show y.length + (0 + 1) - 1 - y.length = 0 from by omega, gi_cons_zero] at this
          simp [canc, this]
      rw [e1, e2, Nat.sub_zero, Nat.sub_zero, List.take_length, List.take_length]; simp
theorem red_of {a : List Int} (h : RedL a) : red a = a := by
  unfold red; rw [fold_prod a [] redL_nil h]; unfold prodL; simp [canc_nil]
theorem red_app {a b : List Int} (ha : RedL a) (hb : RedL b) : red (a ++ b) = prodL a b := by
  unfold red; rw [List.foldl_append]; rw [show a.foldl redStep [] = a from red_of ha]; exact fold_prod b a ha hb
theorem redL_prod {a b : List Int} (ha : RedL a) (hb : RedL b) : RedL (prodL a b) := by rw [← red_app ha hb]; exact redL_red _
theorem red_app3 {a b c : List Int} (ha : RedL a) (hb : RedL b) (hc : RedL c) : red (a ++ b ++ c) = prodL (prodL a b) c := by
  have : red (a ++ b ++ c) = c.foldl redStep (red (a ++ b)) := by unfold red; rw [List.foldl_append]
  rw [this, red_app ha hb]
  exact fold_prod c _ (redL_prod ha hb) hc
theorem redL_inv {a : List Int} (h : RedL a) : RedL (invL a) := by
  intro j hj
  rw [invL_len] at hj
  rw [invL_gi (by omega), invL_gi (by omega)]
  have := h (a.length - 1 - (j + 1)) (by omega)
  rw [show a.length - 1 - (j + 1) + 1 = a.length - 1 - j from by omega] at this
  omega

/-! ### what cancels may be taken away anywhere -/
theorem fold_red (xs : List Int) : ∀ st, RedL st → (red xs).foldl redStep st = xs.foldl redStep st := by
  have : ∀ n (xs : List Int), xs.length = n → ∀ st, RedL st → (red xs).foldl redStep st = xs.foldl redStep st := by
    intro n
    induction n with
    | zero => intro xs h st _; obtain rfl := List.eq_nil_of_length_eq_zero h; rfl
    | succ n ih =>
      intro xs h st hst
      have hd : xs = xs.take n ++ [gi xs n] := by rw [← take_succ_gi (by omega), List.take_of_length_le (by omega)]
      obtain ⟨ys, hys⟩ : ∃ ys, ys = xs.take n := ⟨_, rfl⟩
      obtain ⟨k, hkk⟩ : ∃ k, k = gi xs n := ⟨_, rfl⟩
      rw [← hys, ← hkk] at hd
      have hl : ys.length = n := by rw [hys]; simp; omega
      have hi := ih ys hl st hst
      rw [hd, red_snoc, List.foldl_append]
      simp only [List.foldl_cons, List.foldl_nil]
      rw [← hi]
      have hr := redL_red ys
      obtain ⟨y, hy⟩ : ∃ y, y = red ys := ⟨_, rfl⟩
      rw [← hy] at hr ⊢
      by_cases hp : 0 < y.length ∧ gi y (y.length - 1) = -k
      · rw [redStep_pop hp.1 hp.2]
        have hs : y = y.dropLast ++ [-k] := by
          have h1 : y.take (y.length - 1 + 1) = y.take (y.length - 1) ++ [gi y (y.length - 1)] := take_succ_gi (by omega)
          rw [show y.length - 1 + 1 = y.length from by omega, List.take_length, hp.2, ← List.dropLast_eq_take] at h1
          exact h1
        obtain ⟨z, hz⟩ : ∃ z, z = y.dropLast := ⟨_, rfl⟩
        rw [← hz] at hs ⊢
        rw [hs, List.foldl_append]
        simp only [List.foldl_cons, List.foldl_nil]
        have := redStep_redo (k := -k) (redL_fold z st hst)
        rw [Int.neg_neg] at this
        exact this.symm
      · have hn : 0 < y.length → gi y (y.length - 1) ≠ -k := fun a b => hp ⟨a, b⟩
        rw [redStep_push hn, List.foldl_append]; rfl
  exact this _ xs rfl
theorem fold_back : ∀ (n : Nat) (xs : List Int), xs.length = n → ∀ st, RedL st → (xs ++ invL xs).foldl redStep st = st := by
  intro n
  induction n with
  | zero => intro xs h st _; obtain rfl := List.eq_nil_of_length_eq_zero h; rfl
  | succ n ih =>
    intro xs h st hst
    have hd : xs = xs.take n ++ [gi xs n] := by rw [← take_succ_gi (by omega), List.take_of_length_le (by omega)]
    obtain ⟨ys, hys⟩ : ∃ ys, ys = xs.take n := ⟨_, rfl⟩
    obtain ⟨k, hkk⟩ : ∃ k, k = gi xs n := ⟨_, rfl⟩
    rw [← hys, ← hkk] at hd
    have hl : ys.length = n := by rw [hys]; simp; omega
    have e : xs ++ invL xs = ys ++ (k :: -k :: invL ys) := by rw [hd]; simp [invL]
    rw [e, List.foldl_append]
    simp only [List.foldl_cons]
    rw [redStep_redo (redL_fold ys st hst), ← List.foldl_append]
    exact ih ys hl st hst
theorem invL_invL (xs : List Int) : invL (invL xs) = xs := by unfold invL; simp [Function.comp_def]
theorem red_mid (p x s : List Int) : red (p ++ red x ++ s) = red (p ++ x ++ s) := by
  unfold red
  simp only [List.foldl_append]
  rw [show (x.foldl redStep []) = red x from rfl, fold_red x _ (redL_fold p [] redL_nil)]
theorem red_cut (p x s : List Int) : red (p ++ (x ++ invL x) ++ s) = red (p ++ s) := by
  have : (x ++ invL x).foldl redStep (p.foldl redStep []) = p.foldl redStep [] := fold_back _ x rfl _ (redL_fold p [] redL_nil)
  unfold red
  rw [List.foldl_append, List.foldl_append (l := p) (l' := x ++ invL x), this, ← List.foldl_append]
theorem red_cut' (p x s : List Int) : red (p ++ (invL x ++ x) ++ s) = red (p ++ s) := by
  have := red_cut p (invL x) s
  rwa [invL_invL] at this
end Go.Proofs.Ytbappfeojdehgaa
