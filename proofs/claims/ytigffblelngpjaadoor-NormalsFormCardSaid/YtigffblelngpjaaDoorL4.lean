/- Texts of this claim in one file: libraries and walks. -/
import Derived.Test.YtigffblelngpjaaDoorL0
import Derived.Test.YtigffblelngpjaaDoorL3
/- Contracts of the law's back and image. -/
namespace Go.Proofs.YtigffblelngpjaaDoor
set_option linter.unusedVariables false
set_option linter.unusedSimpArgs false
open Go Go.RowKit

theorem winvL_len (a : List Int) : (winvL a).length = a.length := by unfold winvL; simp
theorem invL_gi {a : List Int} {i : Nat} (h : i < a.length) : gi (winvL a) i = - gi a (a.length - 1 - i) := by unfold winvL; exact negs_gi h

/-- What the law's definition makes of images. -/
def imgRows (rows : List (List Int)) (k : Int) : List (List Int) :=
  if 0 < k then
    let i := (k - 1).toNat
    (rows.set i (red (ri rows i ++ ri rows (i + 1) ++ winvL (ri rows i)))).set (i + 1) (ri rows i)
  else
    let i := (-k - 1).toNat
    (rows.set i (ri rows (i + 1))).set (i + 1) (red (winvL (ri rows (i + 1)) ++ ri rows i ++ ri rows (i + 1)))
theorem imgRows_pos (rows : List (List Int)) (i : Nat) : imgRows rows ((i : Int) + 1) = (rows.set i (red (ri rows i ++ ri rows (i + 1) ++ winvL (ri rows i)))).set (i + 1) (ri rows i) := by
  unfold imgRows
  rw [if_pos (by omega), show ((i : Int) + 1 - 1).toNat = i from by omega]
theorem imgRows_neg (rows : List (List Int)) (i : Nat) : imgRows rows (-((i : Int) + 1)) = (rows.set i (ri rows (i + 1))).set (i + 1) (red (winvL (ri rows (i + 1)) ++ ri rows i ++ ri rows (i + 1))) := by
  unfold imgRows
  rw [if_neg (by omega), show (-(-((i : Int) + 1)) - 1).toNat = i from by omega]
theorem imgRows_len (rows : List (List Int)) (k : Int) : (imgRows rows k).length = rows.length := by unfold imgRows; split <;> simp

theorem okr_app {m m' : Nat} {a b : List Int} (ha : Okr m a) (hb : Okr m' b) : Okr (m + m') (a ++ b) := by
  refine ⟨by simp; have := ha.1; have := hb.1; omega, fun i hi => ?_⟩
  by_cases e : i < a.length
  · rw [gi_append_left e]; exact ha.2 i e
  · rw [gi_append_right (by omega)]; exact hb.2 _ (by simp at hi; omega)

theorem eiRow : EI Tryd.prog 40 34 (.slice none 0 0) 24 := ⟨Tryd.underlying40, by kernel_rfl, rfl⟩
theorem oneVs {k : IntKind} {w : World} {v : Value} {c : Nat} {vs : Nat → Value} {caps : Nat → Nat} {rows : List (List Int)} (h : ISV k w v c vs caps rows) : ∀ u ∈ (List.range rows.length).map vs, u.oneCell' = true := by
  intro u hu
  obtain ⟨i, hi, rfl⟩ := List.mem_map.1 hu
  obtain ⟨a, n, c', hv, _⟩ := (h.2 i (by simpa using hi)).out
  rw [hv]; rfl

end Go.Proofs.YtigffblelngpjaaDoor
/- The law WordsReduce: its walk. -/
namespace Go.Proofs.YtigffblelngpjaaDoor
set_option linter.unusedVariables false
set_option linter.unusedSimpArgs false
open Go Go.RowKit

/-! ### words of plain data are words -/
theorem letter_ok {n x : Int} (hn : 1 < n) (h8 : n ≤ 8) (hx : 0 ≤ x) : wbad n (letter n x) = false ∧ -100 ≤ letter n x ∧ letter n x ≤ 100 := by
  have e1 : 0 ≤ x / 2 % (n - 1) := Int.emod_nonneg _ (by omega)
  have e2 : x / 2 % (n - 1) < n - 1 := Int.emod_lt_of_pos _ (by omega)
  by_cases h : x % 2 = 1
  · rw [letter_neg h]; exact ⟨wbad_not (by omega) (by omega) (by omega), by omega, by omega⟩
  · rw [letter_pos h]; exact ⟨wbad_not (by omega) (by omega) (by omega), by omega, by omega⟩
theorem wordOf_mem {n : Int} {xs : List Int} (h8 : n ≤ 8) (hx : ∀ i, i < xs.length → 0 ≤ gi xs i ∧ gi xs i ≤ 255) : ∀ k ∈ wordOf n xs, wbad n k = false ∧ -100 ≤ k ∧ k ≤ 100 := by
  intro k hk
  unfold wordOf at hk
  split at hk
  · simp at hk
  · obtain ⟨x, hx', rfl⟩ := List.mem_map.1 hk
    exact letter_ok (by omega) h8 (gi_all (P := fun x => 0 ≤ x) (fun i hi => (hx i hi).1) x (List.mem_of_mem_take hx'))
theorem wordOf_len (n : Int) (xs : List Int) : (wordOf n xs).length ≤ 24 := by
  unfold wordOf; split <;> simp; omega
theorem wcheck_mem {n : Int} {w : List Int} (h1 : 1 ≤ n) (h8 : n ≤ 8) (hl : w.length ≤ 64) (hm : ∀ k ∈ w, wbad n k = false) : wcheck n w = 0 := by
  exact wcheck_ok h1 h8 hl fun i hi => hm _ (gi_mem hi)

/-! ### a word and its inverse cancel -/
def RedL (st : List Int) : Prop := ∀ j, j + 1 < st.length → gi st j ≠ - gi st (j + 1)
theorem redL_nil : RedL [] := fun j h => by simp at h
theorem redL_step {st : List Int} {k : Int} (h : RedL st) : RedL (redStep st k) := by
  by_cases hp : 0 < st.length ∧ gi st (st.length - 1) = -k
  · rw [redStep_pop hp.1 hp.2]
    intro j hj
    rw [List.length_dropLast] at hj
    rw [List.dropLast_eq_take, gi_take (by omega), gi_take (by omega)]
    exact h j (by omega)
  · have hn : 0 < st.length → gi st (st.length - 1) ≠ -k := fun a b => hp ⟨a, b⟩
    rw [redStep_push hn]
    intro j hj
    simp only [List.length_append, List.length_cons, List.length_nil] at hj
    by_cases e : j + 1 < st.length
    · rw [gi_append_left (by omega), gi_append_left e]; exact h j e
    · rw [gi_append_left (by omega), gi_append_right (by omega)]
      have : j + 1 - st.length = 0 := by omega
      rw [this, gi_cons_zero]
      have := hn (by omega)
      rwa [show st.length - 1 = j from by omega] at this
theorem redL_fold (xs : List Int) : ∀ st, RedL st → RedL (xs.foldl redStep st) := by
  induction xs with
  | nil => intro st h; exact h
  | cons k xs ih => intro st h; exact ih _ (redL_step h)
theorem redL_red (xs : List Int) : RedL (red xs) := redL_fold xs [] redL_nil

/-- A letter and its opposite change nothing. -/
theorem redStep_back {st : List Int} {k : Int} (h : RedL st) (hk : k ≠ 0) : redStep (redStep st k) (-k) = st := by
  by_cases hp : 0 < st.length ∧ gi st (st.length - 1) = -k
  · rw [redStep_pop hp.1 hp.2]
    have hst : st = st.dropLast ++ [-k] := by
      have h1 : st.take (st.length - 1 + 1) = st.take (st.length - 1) ++ [gi st (st.length - 1)] := take_succ_gi (by omega)
      rw [show st.length - 1 + 1 = st.length from by omega, List.take_length, hp.2, ← List.dropLast_eq_take] at h1
      exact h1
    rw [redStep_push, ← hst]
    intro h0
    rw [List.length_dropLast] at h0 ⊢
    rw [List.dropLast_eq_take, gi_take (by omega)]
    have := h (st.length - 1 - 1) (by omega)
    rw [show st.length - 1 - 1 + 1 = st.length - 1 from by omega, hp.2] at this
    exact this
  · have hn : 0 < st.length → gi st (st.length - 1) ≠ -k := fun a b => hp ⟨a, b⟩
    rw [redStep_push hn, redStep_pop (by simp)]
    · simp
    · simp only [List.length_append, List.length_cons, List.length_nil]
      rw [gi_append_right (by omega), show st.length + (0 + 1) - 1 - st.length = 0 from by omega, gi_cons_zero]; omega

theorem fold_inv : ∀ (n : Nat) (xs : List Int), xs.length = n → (∀ k ∈ xs, k ≠ 0) → ∀ st, RedL st → (xs ++ xs.reverse.map (fun x => -x)).foldl redStep st = st := by
  intro n
  induction n with
  | zero => intro xs h _ st _; obtain rfl := List.eq_nil_of_length_eq_zero h; rfl
  | succ n ih =>
    intro xs h hk st hst
    have hd : xs = xs.take n ++ [gi xs n] := by rw [← take_succ_gi (by omega), List.take_of_length_le (by omega)]
    obtain ⟨ys, hys⟩ : ∃ ys, ys = xs.take n := ⟨_, rfl⟩
    obtain ⟨k, hkk⟩ : ∃ k, k = gi xs n := ⟨_, rfl⟩
    rw [← hys, ← hkk] at hd
    have hl : ys.length = n := by rw [hys]; simp; omega
    have hk0 : k ≠ 0 := hk k (by rw [hd]; simp)
    have e : xs ++ xs.reverse.map (fun x => -x) = ys ++ (k :: -k :: ys.reverse.map (fun x => -x)) := by rw [hd]; simp
    rw [e, List.foldl_append]
    simp only [List.foldl_cons]
    rw [redStep_back (redL_fold ys st hst) hk0, ← List.foldl_append]
    exact ih ys hl (fun x hx => hk x (by rw [hd]; simp [hx])) st hst
theorem red_inv {xs : List Int} (hk : ∀ k ∈ xs, k ≠ 0) : red (xs ++ xs.reverse.map (fun x => -x)) = [] := fold_inv _ xs rfl hk [] redL_nil


/-! ### the walk -/
theorem Strands_m (n m : Int) (w : World) (h : 0 ≤ n ∧ n ≤ 255) (hm : m = 1 + n % 6) : Calls Tryd.prog 8 #[.int .u8 n] w fun e w' => e = .returned (.int .i64 m) ∧ w = w' := by
  rw [hm]; exact Strands_calls n w h

theorem flipk_neg {n k : Int} (h : k < 0) : flipk n k = -(n + k) := by unfold flipk; rw [sgn_neg h]; omega
theorem flipk_pos {n k : Int} (h : ¬ k < 0) : flipk n k = n - k := by unfold flipk; rw [sgn_pos h]; omega

end Go.Proofs.YtigffblelngpjaaDoor
/- Plain mathematics of the images: products are reduced words; lengths; the product of all images. -/
namespace Go.Proofs.YtigffblelngpjaaDoor
set_option linter.unusedVariables false
set_option linter.unusedSimpArgs false
open Go Go.RowKit

theorem redStep_redo {st : List Int} {k : Int} (h : RedL st) : redStep (redStep st k) (-k) = st := by
  by_cases hp : 0 < st.length ∧ gi st (st.length - 1) = -k
  · rw [redStep_pop hp.1 hp.2]
    have hst : st = st.dropLast ++ [-k] := by
      have h1 : st.take (st.length - 1 + 1) = st.take (st.length - 1) ++ [gi st (st.length - 1)] := take_succ_gi (by omega)
      rw [show st.length - 1 + 1 = st.length from by omega, List.take_length, hp.2, ← List.dropLast_eq_take] at h1
      exact h1
    rw [redStep_push, ← hst]
    intro h0
    rw [List.length_dropLast] at h0 ⊢
    rw [List.dropLast_eq_take, gi_take (by omega)]
    have := h (st.length - 1 - 1) (by omega)
    rw [show st.length - 1 - 1 + 1 = st.length - 1 from by omega, hp.2] at this
    exact this
  · have hn : 0 < st.length → gi st (st.length - 1) ≠ -k := fun a b => hp ⟨a, b⟩
    rw [redStep_push hn, redStep_pop (by simp)]
    · simp
    · simp only [List.length_append, List.length_cons, List.length_nil]
      rw [gi_append_right (by omega), show st.length + (0 + 1) - 1 - st.length = 0 from by omega, gi_cons_zero]; omega

theorem redL_tail {k : Int} {b : List Int} (h : RedL (k :: b)) : RedL b := fun j hj => by
  have := h (j + 1) (by simp; omega)
  rwa [gi_cons_succ, gi_cons_succ] at this
theorem canc_zero {k : Int} {a b : List Int} (h : RedL (k :: b)) : canc (k :: a) b = 0 := by
  cases b with
  | nil => rfl
  | cons y b =>
    have := h 0 (by simp)
    rw [gi_cons_succ, gi_cons_zero, gi_cons_zero] at this
    simp [canc, this]
theorem canc_nil (b : List Int) : canc [] b = 0 := by cases b <;> rfl
theorem canc_nil' (a : List Int) : canc a [] = 0 := by cases a <;> rfl

/-- Reducing a reduced word behind a reduced word is taking the product. -/
theorem fold_prod : ∀ (b st : List Int), RedL st → RedL b → b.foldl redStep st = prodL st b := by
  intro b
  induction b with
  | nil => intro st _ _; unfold prodL; simp [canc_nil']
  | cons k b ih =>
    intro st hst hb
    simp only [List.foldl_cons]
    rw [ih _ (redL_step hst) (redL_tail hb)]
    by_cases hp : 0 < st.length ∧ gi st (st.length - 1) = -k
    · rw [redStep_pop hp.1 hp.2]
      have hs : st = st.dropLast ++ [-k] := by
        have h1 : st.take (st.length - 1 + 1) = st.take (st.length - 1) ++ [gi st (st.length - 1)] := take_succ_gi (by omega)
        rw [show st.length - 1 + 1 = st.length from by omega, List.take_length, hp.2, ← List.dropLast_eq_take] at h1
        exact h1
      obtain ⟨y, hy⟩ : ∃ y, y = st.dropLast := ⟨_, rfl⟩
      rw [← hy] at hs ⊢
      subst hs
      have hle := canc_le y.reverse b
      simp only [List.length_reverse] at hle
      have e1 : canc (y ++ [-k]).reverse (k :: b) = canc y.reverse b + 1 := by simp [canc]
      unfold prodL
      rw [e1]
      have e2 : (y ++ [-k]).length - (canc y.reverse b + 1) = y.length - canc y.reverse b := by simp
      rw [e2, List.take_append_of_le_length (by omega), List.drop_succ_cons]
    · have hn : 0 < st.length → gi st (st.length - 1) ≠ -k := fun a b => hp ⟨a, b⟩
      rw [redStep_push hn]
      unfold prodL
      have e1 : canc (st ++ [k]).reverse b = 0 := by simp only [List.reverse_append, List.reverse_cons, List.reverse_nil, List.nil_append, List.cons_append]; exact canc_zero hb
      have e2 : canc st.reverse (k :: b) = 0 := by
        rcases List.eq_nil_or_concat st with rfl | ⟨y, x, hyx⟩
        · rfl
        · rw [List.concat_eq_append] at hyx
          subst hyx
          have := hn (by simp)
          simp only [List.length_append, List.length_cons, List.length_nil] at this
          rw [gi_append_right (by omega), show y.length + (0 + 1) - 1 - y.length = 0 from by omega, gi_cons_zero] at this
          simp [canc, this]
      rw [e1, e2, Nat.sub_zero, Nat.sub_zero, List.take_length, List.take_length]; simp
theorem red_of {a : List Int} (h : RedL a) : red a = a := by
  unfold red; rw [fold_prod a [] redL_nil h]; unfold prodL; simp [canc_nil]
theorem red_app {a b : List Int} (ha : RedL a) (hb : RedL b) : red (a ++ b) = prodL a b := by
  unfold red; rw [List.foldl_append]; rw [show a.foldl redStep [] = a from red_of ha]; exact fold_prod b a ha hb
theorem redL_prod {a b : List Int} (ha : RedL a) (hb : RedL b) : RedL (prodL a b) := by rw [← red_app ha hb]; exact redL_red _
theorem red_app3 {a b c : List Int} (ha : RedL a) (hb : RedL b) (hc : RedL c) : red (a ++ b ++ c) = prodL (prodL a b) c := by
  have : red (a ++ b ++ c) = c.foldl redStep (red (a ++ b)) := by unfold red; rw [List.foldl_append]
  rw [this, red_app ha hb]
  exact fold_prod c _ (redL_prod ha hb) hc
theorem redL_inv {a : List Int} (h : RedL a) : RedL (winvL a) := by
  intro j hj
  rw [winvL_len] at hj
  rw [invL_gi (by omega), invL_gi (by omega)]
  have := h (a.length - 1 - (j + 1)) (by omega)
  rw [show a.length - 1 - (j + 1) + 1 = a.length - 1 - j from by omega] at this
  omega

/-! ### what cancels may be taken away anywhere -/
theorem fold_red (xs : List Int) : ∀ st, RedL st → (red xs).foldl redStep st = xs.foldl redStep st := by
  have : ∀ n (xs : List Int), xs.length = n → ∀ st, RedL st → (red xs).foldl redStep st = xs.foldl redStep st := by
    intro n
    induction n with
    | zero => intro xs h st _; obtain rfl := List.eq_nil_of_length_eq_zero h; rfl
    | succ n ih =>
      intro xs h st hst
      have hd : xs = xs.take n ++ [gi xs n] := by rw [← take_succ_gi (by omega), List.take_of_length_le (by omega)]
      obtain ⟨ys, hys⟩ : ∃ ys, ys = xs.take n := ⟨_, rfl⟩
      obtain ⟨k, hkk⟩ : ∃ k, k = gi xs n := ⟨_, rfl⟩
      rw [← hys, ← hkk] at hd
      have hl : ys.length = n := by rw [hys]; simp; omega
      have hi := ih ys hl st hst
      rw [hd, red_snoc, List.foldl_append]
      simp only [List.foldl_cons, List.foldl_nil]
      rw [← hi]
      have hr := redL_red ys
      obtain ⟨y, hy⟩ : ∃ y, y = red ys := ⟨_, rfl⟩
      rw [← hy] at hr ⊢
      by_cases hp : 0 < y.length ∧ gi y (y.length - 1) = -k
      · rw [redStep_pop hp.1 hp.2]
        have hs : y = y.dropLast ++ [-k] := by
          have h1 : y.take (y.length - 1 + 1) = y.take (y.length - 1) ++ [gi y (y.length - 1)] := take_succ_gi (by omega)
          rw [show y.length - 1 + 1 = y.length from by omega, List.take_length, hp.2, ← List.dropLast_eq_take] at h1
          exact h1
        obtain ⟨z, hz⟩ : ∃ z, z = y.dropLast := ⟨_, rfl⟩
        rw [← hz] at hs ⊢
        rw [hs, List.foldl_append]
        simp only [List.foldl_cons, List.foldl_nil]
        have := redStep_redo (k := -k) (redL_fold z st hst)
        rw [Int.neg_neg] at this
        exact this.symm
      · have hn : 0 < y.length → gi y (y.length - 1) ≠ -k := fun a b => hp ⟨a, b⟩
        rw [redStep_push hn, List.foldl_append]; rfl
  exact this _ xs rfl
theorem fold_back : ∀ (n : Nat) (xs : List Int), xs.length = n → ∀ st, RedL st → (xs ++ winvL xs).foldl redStep st = st := by
  intro n
  induction n with
  | zero => intro xs h st _; obtain rfl := List.eq_nil_of_length_eq_zero h; rfl
  | succ n ih =>
    intro xs h st hst
    have hd : xs = xs.take n ++ [gi xs n] := by rw [← take_succ_gi (by omega), List.take_of_length_le (by omega)]
    obtain ⟨ys, hys⟩ : ∃ ys, ys = xs.take n := ⟨_, rfl⟩
    obtain ⟨k, hkk⟩ : ∃ k, k = gi xs n := ⟨_, rfl⟩
    rw [← hys, ← hkk] at hd
    have hl : ys.length = n := by rw [hys]; simp; omega
    have e : xs ++ winvL xs = ys ++ (k :: -k :: winvL ys) := by rw [hd]; simp [winvL]
    rw [e, List.foldl_append]
    simp only [List.foldl_cons]
    rw [redStep_redo (redL_fold ys st hst), ← List.foldl_append]
    exact ih ys hl st hst
theorem invL_invL (xs : List Int) : winvL (winvL xs) = xs := by unfold winvL; simp [Function.comp_def]
theorem red_mid (p x s : List Int) : red (p ++ red x ++ s) = red (p ++ x ++ s) := by
  unfold red
  simp only [List.foldl_append]
  rw [show (x.foldl redStep []) = red x from rfl, fold_red x _ (redL_fold p [] redL_nil)]
theorem red_cut (p x s : List Int) : red (p ++ (x ++ winvL x) ++ s) = red (p ++ s) := by
  have : (x ++ winvL x).foldl redStep (p.foldl redStep []) = p.foldl redStep [] := fold_back _ x rfl _ (redL_fold p [] redL_nil)
  unfold red
  rw [List.foldl_append, List.foldl_append (l := p) (l' := x ++ winvL x), this, ← List.foldl_append]
theorem red_cut' (p x s : List Int) : red (p ++ (winvL x ++ x) ++ s) = red (p ++ s) := by
  have := red_cut p (winvL x) s
  rwa [invL_invL] at this
end Go.Proofs.YtigffblelngpjaaDoor
/- Plain mathematics of the images: the law's images are the program's; lengths; the product of all images. -/
namespace Go.Proofs.YtigffblelngpjaaDoor
set_option linter.unusedVariables false
set_option linter.unusedSimpArgs false
open Go Go.RowKit

theorem ri_end {rows : List (List Int)} {i : Nat} (h : rows.length ≤ i) : ri rows i = [] := by
  unfold ri; simp [List.getD, List.getElem?_eq_none h]
theorem ri_lt {rows : List (List Int)} {i : Nat} (h : i < rows.length) : ri rows i = rows[i] := by
  unfold ri; simp [List.getD, h]

/-- All rows are reduced. -/
def RL (rows : List (List Int)) : Prop := ∀ i, RedL (ri rows i)
theorem RL_start (n : Nat) : RL (start n) := by
  intro i
  by_cases h : i < n
  · unfold start; rw [ri_range_map _ h]; intro j hj; simp at hj
  · rw [ri_end (by unfold start; simp; omega)]; exact redL_nil
theorem img_letter {rows : List (List Int)} {n : Nat} {k : Int} (hl : rows.length = n) (hk : wbad n k = false) (h1 : 1 ≤ n) (h : RL rows) : imgRows rows k = letterRows rows k ∧ RL (letterRows rows k) := by
  rcases letter_place hk (by omega) with ⟨_, q, rfl, hqn⟩ | ⟨_, q, rfl, hqn⟩
  · rw [imgRows_pos, letterRows_pos]
    have e : red (ri rows q ++ ri rows (q + 1) ++ winvL (ri rows q)) = prodL (prodL (ri rows q) (ri rows (q + 1))) (winvL (ri rows q)) := red_app3 (h _) (h _) (redL_inv (h _))
    rw [e]
    refine ⟨rfl, fun i => ?_⟩
    by_cases hi : i < n
    · rw [ri_set _ _ _ _ (by rw [List.length_set]; omega)]
      split
      · exact h q
      · rw [ri_set _ _ _ _ (by omega)]
        split
        · exact redL_prod (redL_prod (h _) (h _)) (redL_inv (h _))
        · exact h i
    · rw [ri_end (by simp; omega)]; exact redL_nil
  · rw [imgRows_neg, letterRows_neg]
    have e : red (winvL (ri rows (q + 1)) ++ ri rows q ++ ri rows (q + 1)) = prodL (prodL (winvL (ri rows (q + 1))) (ri rows q)) (ri rows (q + 1)) := red_app3 (redL_inv (h _)) (h _) (h _)
    rw [e]
    refine ⟨rfl, fun i => ?_⟩
    by_cases hi : i < n
    · rw [ri_set _ _ _ _ (by rw [List.length_set]; omega)]
      split
      · exact redL_prod (redL_prod (redL_inv (h _)) (h _)) (h _)
      · rw [ri_set _ _ _ _ (by omega)]
        split
        · exact h (q + 1)
        · exact h i
    · rw [ri_end (by simp; omega)]; exact redL_nil

theorem act_RL {n : Nat} {xs : List Int} (hg : ∀ i, i < xs.length → wbad n (gi xs i) = false) (h1 : 1 ≤ n) : ∀ k, k ≤ xs.length → RL (actRows n (xs.take k)) := by
  intro k
  induction k with
  | zero => intro _; simpa [actRows] using RL_start n
  | succ k ih =>
    intro hk
    rw [take_succ_gi (by omega), actRows_snoc]
    exact (img_letter (actRows_len n _) (hg k (by omega)) h1 (ih (by omega))).2
/-- One step of the law's images is one of the program's. -/
theorem act_img {n : Nat} {xs : List Int} (hg : ∀ i, i < xs.length → wbad n (gi xs i) = false) (h1 : 1 ≤ n) {k : Nat} (hk : k < xs.length) : imgRows (actRows n (xs.take k)) (gi xs k) = actRows n (xs.take (k + 1)) := by
  rw [take_succ_gi hk, actRows_snoc]
  exact (img_letter (actRows_len n _) (hg k hk) h1 (act_RL hg h1 k (by omega))).1

/-! ### lengths -/
/-- All rows have at most m letters, but for one, which has at most M. -/
def Small (rows : List (List Int)) (M m : Nat) : Prop := m ≤ M ∧ ∃ p, ∀ i, (ri rows i).length ≤ (if i = p then M else m)
theorem small_all {rows : List (List Int)} {M m : Nat} (h : Small rows M m) (i : Nat) : (ri rows i).length ≤ M := by
  obtain ⟨h1, p, h2⟩ := h
  have := h2 i
  split at this <;> omega
theorem small_two {rows : List (List Int)} {M m : Nat} (h : Small rows M m) {i j : Nat} (hij : i ≠ j) : 2 * (ri rows i).length + (ri rows j).length ≤ 2 * M + m := by
  obtain ⟨h1, p, h2⟩ := h
  have a := h2 i
  have b := h2 j
  split at a <;> split at b <;> omega
theorem small_letter {rows : List (List Int)} {n : Nat} {k : Int} {M m : Nat} (hl : rows.length = n) (hk : wbad n k = false) (h1 : 1 ≤ n) (h : Small rows M m) : Small (letterRows rows k) (2 * M + m) M ∧ letterLen rows k ≤ 2 * M + m := by
  have hal := small_all h
  rcases letter_place hk (by omega) with ⟨_, q, rfl, hqn⟩ | ⟨_, q, rfl, hqn⟩
  · have ht := small_two h (i := q) (j := q + 1) (by omega)
    have e1 := prodL_len (prodL (ri rows q) (ri rows (q + 1))) (winvL (ri rows q))
    have e2 := prodL_len (ri rows q) (ri rows (q + 1))
    have e3 := winvL_len (ri rows q)
    rw [letterRows_pos, letterLen_pos _ _ (by omega)]
    refine ⟨⟨by omega, q, fun i => ?_⟩, by omega⟩
    by_cases hi : i < n
    · rw [ri_set _ _ _ _ (by rw [List.length_set]; omega)]
      by_cases a : i = q + 1
      · rw [if_pos a, if_neg (by omega)]; exact hal q
      · rw [if_neg a, ri_set _ _ _ _ (by omega)]
        by_cases b : i = q
        · rw [if_pos b, if_pos b]; omega
        · rw [if_neg b, if_neg b]; exact hal i
    · rw [ri_end (by simp; omega)]; simp
  · have ht := small_two h (i := q + 1) (j := q) (by omega)
    have e1 := prodL_len (prodL (winvL (ri rows (q + 1))) (ri rows q)) (ri rows (q + 1))
    have e2 := prodL_len (winvL (ri rows (q + 1))) (ri rows q)
    have e3 := winvL_len (ri rows (q + 1))
    rw [letterRows_neg, letterLen_neg _ _ (by omega)]
    refine ⟨⟨by omega, q + 1, fun i => ?_⟩, by omega⟩
    by_cases hi : i < n
    · rw [ri_set _ _ _ _ (by rw [List.length_set]; omega)]
      by_cases a : i = q + 1
      · rw [if_pos a, if_pos a]; omega
      · rw [if_neg a, if_neg a, ri_set _ _ _ _ (by omega)]
        by_cases b : i = q
        · rw [if_pos b]; exact hal (q + 1)
        · rw [if_neg b]; exact hal i
    · rw [ri_end (by simp; omega)]; simp

def gr : Nat → Nat × Nat
  | 0 => (1, 1)
  | k + 1 => (2 * (gr k).1 + (gr k).2, (gr k).1)
theorem small_act {n : Nat} {xs : List Int} (hg : ∀ i, i < xs.length → wbad n (gi xs i) = false) (h1 : 1 ≤ n) : ∀ k, k ≤ xs.length → Small (actRows n (xs.take k)) (gr k).1 (gr k).2 := by
  intro k
  induction k with
  | zero =>
    intro _
    refine ⟨Nat.le_refl _, 0, fun i => ?_⟩
    have : (ri (actRows n (xs.take 0)) i).length ≤ 1 := by
      by_cases h : i < n
      · simp only [List.take_zero, actRows, List.foldl_nil, start]; rw [ri_range_map _ h]; simp
      · rw [ri_end (by rw [actRows_len]; omega)]; simp
    show _ ≤ (if i = 0 then 1 else 1)
    split <;> exact this
  | succ k ih =>
    intro hk
    rw [take_succ_gi (by omega), actRows_snoc]
    exact (small_letter (actRows_len n _) (hg k (by omega)) h1 (ih (by omega))).1
theorem gr_le : ∀ k, k < 13 → (gr k).1 ≤ 47321 := by decide
/-- The images of at most twelve letters fit. -/
theorem fits12 {n : Nat} {xs : List Int} (hg : ∀ i, i < xs.length → wbad n (gi xs i) = false) (h1 : 1 ≤ n) (hl : xs.length ≤ 12) : fits n xs := by
  intro k hk
  have h := (small_letter (actRows_len n _) (hg k hk) h1 (small_act hg h1 k (by omega))).2
  have := gr_le (k + 1) (by omega)
  have e : (gr (k + 1)).1 = 2 * (gr k).1 + (gr k).2 := rfl
  omega
theorem len12 {n : Nat} {xs : List Int} (hg : ∀ i, i < xs.length → wbad n (gi xs i) = false) (h1 : 1 ≤ n) (hl : xs.length ≤ 12) (i : Nat) : (ri (actRows n xs) i).length ≤ 47321 := by
  have h := small_all (small_act hg h1 xs.length (Nat.le_refl _)) i
  rw [List.take_length] at h
  have := gr_le xs.length (by omega)
  omega

/-! ### the product of all images -/
theorem two_rows {rows : List (List Int)} {q : Nat} (h : q + 1 < rows.length) : ∃ p s, rows = p ++ ri rows q :: ri rows (q + 1) :: s ∧ p.length = q := by
  refine ⟨rows.take q, rows.drop (q + 2), ?_, by simp; omega⟩
  have h1 : rows.drop q = rows[q] :: rows.drop (q + 1) := List.drop_eq_getElem_cons (by omega)
  have h2 : rows.drop (q + 1) = rows[q + 1] :: rows.drop (q + 2) := List.drop_eq_getElem_cons (by omega)
  rw [ri_lt (by omega), ri_lt h, ← h2, ← h1, List.take_append_drop]
theorem set_two (p s : List (List Int)) (a b x y : List Int) : ((p ++ a :: b :: s).set p.length x).set (p.length + 1) y = p ++ x :: y :: s := by
  rw [List.set_append_right _ _ (Nat.le_refl _), Nat.sub_self, List.set_cons_zero, List.set_append_right _ _ (by omega), show p.length + 1 - p.length = 1 from by omega]
  rfl
theorem flat_letter {rows : List (List Int)} {n : Nat} {k : Int} (hl : rows.length = n) (hk : wbad n k = false) (h1 : 1 ≤ n) (h : RL rows) : red (letterRows rows k).flatten = red rows.flatten := by
  rw [← (img_letter hl hk h1 h).1]
  rcases letter_place hk (by omega) with ⟨_, q, rfl, hqn⟩ | ⟨_, q, rfl, hqn⟩
  · rw [imgRows_pos]
    obtain ⟨p, s, hd, hp⟩ := two_rows (rows := rows) (q := q) (by omega)
    generalize ri rows q = a at hd ⊢
    generalize ri rows (q + 1) = b at hd ⊢
    subst hp
    rw [hd, set_two]
    simp only [List.flatten_append, List.flatten_cons]
    have e1 := red_mid p.flatten (a ++ b ++ winvL a) (a ++ s.flatten)
    have e2 := red_cut' (p.flatten ++ a ++ b) a s.flatten
    simp only [List.append_assoc] at e1 e2 ⊢
    rw [e1, e2]
  · rw [imgRows_neg]
    obtain ⟨p, s, hd, hp⟩ := two_rows (rows := rows) (q := q) (by omega)
    generalize ri rows q = a at hd ⊢
    generalize ri rows (q + 1) = b at hd ⊢
    subst hp
    rw [hd, set_two]
    simp only [List.flatten_append, List.flatten_cons]
    have e1 := red_mid (p.flatten ++ b) (winvL b ++ a ++ b) s.flatten
    have e2 := red_cut p.flatten b (a ++ b ++ s.flatten)
    simp only [List.append_assoc] at e1 e2 ⊢
    rw [e1, e2]
def onesL (n : Nat) : List Int := (List.range n).map fun i : Nat => (i : Int) + 1
theorem flat_start (n : Nat) : (start n).flatten = onesL n := by
  unfold start onesL
  generalize List.range n = l
  induction l with
  | nil => rfl
  | cons x l ih => simp only [List.map_cons, List.flatten_cons, ih]; rfl
theorem redL_ones (n : Nat) : RedL (onesL n) := by
  intro j hj
  unfold onesL at hj ⊢
  simp only [List.length_map, List.length_range] at hj
  rw [gi_range_map _ (by omega), gi_range_map _ (by omega)]; omega
theorem flat_act {n : Nat} {xs : List Int} (hg : ∀ i, i < xs.length → wbad n (gi xs i) = false) (h1 : 1 ≤ n) : ∀ k, k ≤ xs.length → red (actRows n (xs.take k)).flatten = onesL n := by
  intro k
  induction k with
  | zero => intro _; simp only [List.take_zero, actRows, List.foldl_nil]; rw [flat_start]; exact red_of (redL_ones n)
  | succ k ih =>
    intro hk
    rw [take_succ_gi (by omega), actRows_snoc, flat_letter (actRows_len n _) (hg k (by omega)) h1 (act_RL hg h1 k (by omega))]
    exact ih (by omega)
end Go.Proofs.YtigffblelngpjaaDoor
/- Words of the same braid, in plain Lean: whatever follows the letters and keeps the braid's laws is the same for both. No program in sight. -/
namespace Go.Proofs.YtigffblelngpjaaDoor
set_option linter.unusedVariables false
set_option linter.unusedSimpArgs false
open Go Go.RowKit

/-- All letters are letters. -/
def Val (n : Int) (xs : List Int) : Prop := ∀ x ∈ xs, wbad n x = false
theorem Val.app {n : Int} {x y : List Int} (h : Val n x) (k : Val n y) : Val n (x ++ y) := fun z hz => by
  rcases List.mem_append.1 hz with hz | hz
  · exact h z hz
  · exact k z hz
theorem Val.left {n : Int} {x y : List Int} (h : Val n (x ++ y)) : Val n x := fun z hz => h z (List.mem_append_left _ hz)
theorem Val.right {n : Int} {x y : List Int} (h : Val n (x ++ y)) : Val n y := fun z hz => h z (List.mem_append_right _ hz)
theorem Val.nil (n : Int) : Val n [] := fun z hz => by cases hz
theorem Val.cons {n : Int} {k : Int} {y : List Int} (h : wbad n k = false) (hy : Val n y) : Val n (k :: y) := fun z hz => by
  rcases List.mem_cons.1 hz with rfl | hz
  · exact h
  · exact hy z hz
theorem Val.head {n : Int} {k : Int} {y : List Int} (h : Val n (k :: y)) : wbad n k = false := h k (by simp)
theorem Val.tail {n : Int} {k : Int} {y : List Int} (h : Val n (k :: y)) : Val n y := fun z hz => h z (by simp [hz])
theorem wbad_neg {n k : Int} (h : wbad n k = false) : wbad n (-k) = false := by
  unfold wbad at *
  simp only [Bool.or_eq_false_iff, beq_eq_false_iff_ne, decide_eq_false_iff_not] at *
  omega
theorem Val.inv {n : Int} {x : List Int} (h : Val n x) : Val n (winvL x) := fun z hz => by
  unfold winvL at hz
  obtain ⟨y, hy, rfl⟩ := List.mem_map.1 hz
  exact wbad_neg (h y (List.mem_reverse.1 hy))
theorem Val.take {n : Int} {x : List Int} (h : Val n x) (k : Nat) : Val n (x.take k) := fun z hz => h z (List.mem_of_mem_take hz)
theorem Val.drop {n : Int} {x : List Int} (h : Val n x) (k : Nat) : Val n (x.drop k) := fun z hz => h z (List.mem_of_mem_drop hz)
theorem Val.at {n : Int} {x : List Int} (h : Val n x) : ∀ i, i < x.length → wbad n (gi x i) = false := fun i hi => h _ (gi_mem hi)

/-- What keeps the laws of braids. -/
structure Laws (n : Int) {S : Type} (f : S → Int → S) (V : S → Prop) : Prop where
  keep : ∀ s k, V s → wbad n k = false → V (f s k)
  canc : ∀ s k, V s → wbad n k = false → f (f s k) (-k) = s
  far : ∀ s (p q : Nat) a b, V s → wbad n a = false → wbad n b = false → a.natAbs = p + 1 → b.natAbs = q + 1 → p + 2 ≤ q → f (f s a) b = f (f s b) a
  pos : ∀ s (q : Nat), V s → (q : Int) + 2 < n → f (f (f s (q + 1)) (q + 2)) (q + 1) = f (f (f s (q + 2)) (q + 1)) (q + 2)
  neg : ∀ s (q : Nat), V s → (q : Int) + 2 < n → f (f (f s (-((q : Int) + 1))) (-((q : Int) + 2))) (-((q : Int) + 1)) = f (f (f s (-((q : Int) + 2))) (-((q : Int) + 1))) (-((q : Int) + 2))

theorem Laws.keeps {n : Int} {S : Type} {f : S → Int → S} {V : S → Prop} (L : Laws n f V) : ∀ (xs : List Int) s, V s → Val n xs → V (xs.foldl f s)
  | [], s, h, _ => h
  | k :: xs, s, h, hv => L.keeps xs (f s k) (L.keep s k h hv.head) hv.tail

/-- Words of the same braid. -/
def Br (n : Int) (x y : List Int) : Prop := ∀ (S : Type) (f : S → Int → S) (V : S → Prop), Laws n f V → ∀ s, V s → x.foldl f s = y.foldl f s
theorem Br.refl (n : Int) (x : List Int) : Br n x x := fun _ _ _ _ _ _ => rfl
theorem Br.symm {n : Int} {x y : List Int} (h : Br n x y) : Br n y x := fun S f V L s hs => (h S f V L s hs).symm
theorem Br.trans {n : Int} {x y z : List Int} (h : Br n x y) (k : Br n y z) : Br n x z := fun S f V L s hs => (h S f V L s hs).trans (k S f V L s hs)
theorem Br.right {n : Int} {x y : List Int} (h : Br n x y) (z : List Int) : Br n (x ++ z) (y ++ z) := fun S f V L s hs => by
  rw [List.foldl_append, List.foldl_append, h S f V L s hs]
theorem Br.left {n : Int} {x y : List Int} (h : Br n x y) {p : List Int} (hp : Val n p) : Br n (p ++ x) (p ++ y) := fun S f V L s hs => by
  rw [List.foldl_append, List.foldl_append]; exact h S f V L _ (L.keeps p s hs hp)
theorem Br.mid {n : Int} {x y : List Int} (h : Br n x y) {p : List Int} (hp : Val n p) (z : List Int) : Br n (p ++ x ++ z) (p ++ y ++ z) := (h.left hp).right z
theorem Br.canc {n k : Int} (hk : wbad n k = false) : Br n [k, -k] [] := fun S f V L s hs => L.canc s k hs hk
theorem Br.far {n a b : Int} (ha : wbad n a = false) (hb : wbad n b = false) (h : (a.natAbs : Int) - b.natAbs > 1 ∨ (a.natAbs : Int) - b.natAbs < -1) : Br n [a, b] [b, a] := fun S f V L s hs => by
  have h1 := ha
  have h2 := hb
  unfold wbad at h1 h2
  simp only [Bool.or_eq_false_iff, beq_eq_false_iff_ne, decide_eq_false_iff_not] at h1 h2
  rcases h with h | h
  · exact (L.far s (b.natAbs - 1) (a.natAbs - 1) b a hs hb ha (by omega) (by omega) (by omega)).symm
  · exact L.far s (a.natAbs - 1) (b.natAbs - 1) a b hs ha hb (by omega) (by omega) (by omega)
theorem Br.braid {n a b : Int} (ha : wbad n a = false) (hb : wbad n b = false) (hs : decide (a > 0) = decide (b > 0)) (h : (a.natAbs : Int) - b.natAbs = 1 ∨ (a.natAbs : Int) - b.natAbs = -1) : Br n [a, b, a] [b, a, b] := by
  have h1 := ha
  have h2 := hb
  unfold wbad at h1 h2
  simp only [Bool.or_eq_false_iff, beq_eq_false_iff_ne, decide_eq_false_iff_not] at h1 h2
  have main : ∀ (q : Nat), (q : Int) + 2 < n → Br n [(q : Int) + 1, q + 2, q + 1] [(q : Int) + 2, q + 1, q + 2] ∧ Br n [-((q : Int) + 1), -((q : Int) + 2), -((q : Int) + 1)] [-((q : Int) + 2), -((q : Int) + 1), -((q : Int) + 2)] :=
    fun q hq => ⟨fun S f V L s hs => L.pos s q hs hq, fun S f V L s hs => L.neg s q hs hq⟩
  have hs' : (a > 0 ↔ b > 0) := by simpa using hs
  by_cases hp : a > 0
  · have hp' := hs'.1 hp
    rcases h with h | h
    · obtain ⟨q, rfl⟩ : ∃ q : Nat, b = (q : Int) + 1 := ⟨(b - 1).toNat, by omega⟩
      obtain rfl : a = (q : Int) + 2 := by omega
      exact (main q (by omega)).1.symm
    · obtain ⟨q, rfl⟩ : ∃ q : Nat, a = (q : Int) + 1 := ⟨(a - 1).toNat, by omega⟩
      obtain rfl : b = (q : Int) + 2 := by omega
      exact (main q (by omega)).1
  · have hp' : ¬ b > 0 := fun e => hp (hs'.2 e)
    rcases h with h | h
    · obtain ⟨q, rfl⟩ : ∃ q : Nat, b = -((q : Int) + 1) := ⟨(-b - 1).toNat, by omega⟩
      obtain rfl : a = -((q : Int) + 2) := by omega
      exact (main q (by omega)).2.symm
    · obtain ⟨q, rfl⟩ : ∃ q : Nat, a = -((q : Int) + 1) := ⟨(-a - 1).toNat, by omega⟩
      obtain rfl : b = -((q : Int) + 2) := by omega
      exact (main q (by omega)).2

/-! ### Moves -/
theorem Val.step {n k : Int} {st : List Int} (h : Val n st) (hk : wbad n k = false) : Val n (redStep st k) := by
  unfold redStep
  split
  · exact fun z hz => h z (List.dropLast_subset _ hz)
  · exact h.app (Val.cons hk (Val.nil n))
theorem Val.redF {n : Int} : ∀ (xs st : List Int), Val n st → Val n xs → Val n (xs.foldl redStep st)
  | [], st, h, _ => h
  | k :: xs, st, h, hv => Val.redF xs _ (h.step hv.head) hv.tail
theorem Val.red {n : Int} {xs : List Int} (h : Val n xs) : Val n (red xs) := Val.redF xs [] (Val.nil n) h
theorem Br.step {n k : Int} {st : List Int} (h : Val n st) (hk : wbad n k = false) : Br n (st ++ [k]) (redStep st k) := by
  by_cases hp : 0 < st.length ∧ gi st (st.length - 1) = -k
  · rw [redStep_pop hp.1 hp.2]
    have hs : st = st.dropLast ++ [-k] := by
      have h1 : st.take (st.length - 1 + 1) = st.take (st.length - 1) ++ [gi st (st.length - 1)] := take_succ_gi (by omega)
      rw [show st.length - 1 + 1 = st.length from by omega, List.take_length, hp.2, ← List.dropLast_eq_take] at h1
      exact h1
    obtain ⟨z, hz⟩ : ∃ z, z = st.dropLast := ⟨_, rfl⟩
    rw [← hz] at hs ⊢
    subst hs
    have hc := Br.canc (wbad_neg hk)
    rw [Int.neg_neg] at hc
    have := hc.left (p := z) h.left
    simpa using this
  · rw [redStep_push (fun a b => hp ⟨a, b⟩)]; exact Br.refl _ _
theorem Br.redF {n : Int} : ∀ (xs st : List Int), Val n st → Val n xs → Br n (st ++ xs) (xs.foldl redStep st)
  | [], st, h, _ => by rw [List.append_nil]; exact Br.refl _ _
  | k :: xs, st, h, hv => by
    have h1 := (Br.step h hv.head).right xs
    rw [List.append_assoc] at h1
    exact h1.trans (Br.redF xs _ (h.step hv.head) hv.tail)
theorem Br.red {n : Int} {xs : List Int} (h : Val n xs) : Br n xs (red xs) := Br.redF xs [] (Val.nil n) h
theorem Br.inv {n : Int} : ∀ {xs : List Int}, Val n xs → Br n (xs ++ winvL xs) []
  | [], _ => Br.refl _ _
  | k :: xs, h => by
    have h1 := ((Br.inv h.tail).left (p := [k]) (Val.cons h.head (Val.nil n))).right [-k]
    have e : [k] ++ (xs ++ winvL xs) ++ [-k] = (k :: xs) ++ winvL (k :: xs) := by unfold winvL; simp
    rw [e] at h1
    exact h1.trans (Br.canc h.head)

/-- Two or three letters exchanged, if that is allowed. -/
def exch (w : List Int) (i : Nat) : List Int :=
  if w.length ≤ i + 1 then w
  else if ((gi w i).natAbs : Int) - (gi w (i + 1)).natAbs > 1 ∨ ((gi w i).natAbs : Int) - (gi w (i + 1)).natAbs < -1 then (w.set i (gi w (i + 1))).set (i + 1) (gi w i)
  else if i + 2 < w.length ∧ gi w (i + 2) = gi w i ∧ (((gi w i).natAbs : Int) - (gi w (i + 1)).natAbs = 1 ∨ ((gi w i).natAbs : Int) - (gi w (i + 1)).natAbs = -1) ∧ decide (gi w i > 0) = decide (gi w (i + 1) > 0) then ((w.set i (gi w (i + 1))).set (i + 1) (gi w i)).set (i + 2) (gi w (i + 1))
  else w
theorem exch_len (w : List Int) (i : Nat) : (exch w i).length = w.length := by
  unfold exch
  split
  · rfl
  · split
    · simp
    · split
      · simp
      · rfl
theorem split_two {w : List Int} {i : Nat} (h : i + 1 < w.length) : ∃ p s, w = p ++ gi w i :: gi w (i + 1) :: s ∧ p.length = i := by
  refine ⟨w.take i, w.drop (i + 2), ?_, by simp; omega⟩
  have h1 : w.drop i = w[i] :: w.drop (i + 1) := List.drop_eq_getElem_cons (by omega)
  have h2 : w.drop (i + 1) = w[i + 1] :: w.drop (i + 2) := List.drop_eq_getElem_cons (by omega)
  rw [gi_of_lt (by omega), gi_of_lt h, ← h2, ← h1, List.take_append_drop]
theorem gi_split (p s : List Int) (a : Int) : gi (p ++ a :: s) p.length = a := by rw [gi_append_right (Nat.le_refl _), Nat.sub_self]; rfl
theorem gi_split1 (p s : List Int) (a b : Int) : gi (p ++ a :: b :: s) (p.length + 1) = b := by rw [gi_append_right (by omega), show p.length + 1 - p.length = 1 from by omega]; rfl
theorem gi_split2 (p s : List Int) (a b c : Int) : gi (p ++ a :: b :: c :: s) (p.length + 2) = c := by rw [gi_append_right (by omega), show p.length + 2 - p.length = 2 from by omega]; rfl
theorem setI_two (p s : List Int) (a b x y : Int) : ((p ++ a :: b :: s).set p.length x).set (p.length + 1) y = p ++ x :: y :: s := by
  rw [List.set_append_right _ _ (Nat.le_refl _), Nat.sub_self, List.set_cons_zero, List.set_append_right _ _ (by omega), show p.length + 1 - p.length = 1 from by omega]
  rfl
theorem setI_three (p s : List Int) (a b c x y z : Int) : (((p ++ a :: b :: c :: s).set p.length x).set (p.length + 1) y).set (p.length + 2) z = p ++ x :: y :: z :: s := by
  rw [setI_two, List.set_append_right _ _ (by omega), show p.length + 2 - p.length = 2 from by omega]
  rfl
theorem exch_br {n : Int} {w : List Int} (hv : Val n w) (i : Nat) : Br n w (exch w i) ∧ Val n (exch w i) := by
  unfold exch
  by_cases h0 : w.length ≤ i + 1
  · rw [if_pos h0]; exact ⟨Br.refl _ _, hv⟩
  rw [if_neg h0]
  obtain ⟨p, s, hw, hp⟩ := split_two (w := w) (i := i) (by omega)
  generalize gi w i = a at hw ⊢
  generalize gi w (i + 1) = b at hw ⊢
  subst hp
  rw [hw] at hv
  have hpv := hv.left
  have hav := hv.right.head
  have hbv := hv.right.tail.head
  have hsv := hv.right.tail.tail
  by_cases h1 : (a.natAbs : Int) - b.natAbs > 1 ∨ (a.natAbs : Int) - b.natAbs < -1
  · rw [if_pos h1, hw, setI_two]
    have := (Br.far hav hbv h1).mid hpv s
    simp only [List.append_assoc, List.cons_append, List.nil_append] at this
    exact ⟨this, hpv.app (Val.cons hbv (Val.cons hav hsv))⟩
  rw [if_neg h1]
  by_cases h2 : p.length + 2 < w.length ∧ gi w (p.length + 2) = a ∧ ((a.natAbs : Int) - b.natAbs = 1 ∨ (a.natAbs : Int) - b.natAbs = -1) ∧ decide (a > 0) = decide (b > 0)
  · rw [if_pos h2]
    obtain ⟨l1, l2, l3, l4⟩ := h2
    rw [hw] at l1 l2 ⊢
    cases s with
    | nil => simp at l1
    | cons c s =>
      rw [gi_split2] at l2
      subst l2
      rw [setI_three]
      have := (Br.braid hav hbv l4 l3).mid hpv s
      simp only [List.append_assoc, List.cons_append, List.nil_append] at this
      exact ⟨this, hpv.app (Val.cons hbv (Val.cons hav (Val.cons hbv hsv.tail)))⟩
  · rw [if_neg h2, hw]; exact ⟨Br.refl _ _, hv⟩

/-- One change of a word: where, and which. -/
def mv (n : Int) (w : List Int) (x y : Int) : List Int :=
  if y % 4 = 0 ∧ w.length < 20 then w.take (x % (w.length + 1)).toNat ++ [1 + y / 4 % (n - 1), -(1 + y / 4 % (n - 1))] ++ w.drop (x % (w.length + 1)).toNat
  else if y % 4 = 1 then red w
  else exch w (x % (w.length + 1)).toNat
theorem gen_ok {n y : Int} (hn : 1 < n) : wbad n (1 + y / 4 % (n - 1)) = false := by
  have h1 := Int.emod_nonneg (y / 4) (show n - 1 ≠ 0 by omega)
  have h2 := Int.emod_lt_of_pos (y / 4) (show 0 < n - 1 by omega)
  exact wbad_not (by omega) (by omega) (by omega)
theorem mv_br {n : Int} {w : List Int} (hn : 1 < n) (hv : Val n w) (x y : Int) (hl : w.length ≤ 24) : Br n w (mv n w x y) ∧ Val n (mv n w x y) ∧ (mv n w x y).length ≤ 24 := by
  unfold mv
  split
  · rename_i h
    obtain ⟨i, hi⟩ : ∃ i, i = (x % (w.length + 1)).toNat := ⟨_, rfl⟩
    rw [← hi]
    obtain ⟨k, hk⟩ : ∃ k, k = 1 + y / 4 % (n - 1) := ⟨_, rfl⟩
    have hg := gen_ok (y := y) hn
    rw [← hk] at hg ⊢
    have h1 := (Br.canc hg).mid (hv.take i) (w.drop i)
    rw [List.append_nil, List.take_append_drop] at h1
    refine ⟨h1.symm, ((hv.take i).app (Val.cons hg (Val.cons (wbad_neg hg) (Val.nil n)))).app (hv.drop i), ?_⟩
    simp; omega
  · split
    · exact ⟨Br.red hv, hv.red, Nat.le_trans (red_len w) hl⟩
    · have := exch_br hv (x % (w.length + 1)).toNat
      exact ⟨this.1, this.2, by rw [exch_len]; exact hl⟩
def mvs (n : Int) (w : List Int) (ms : List (Int × Int)) : List Int := ms.foldl (fun w m => mv n w m.1 m.2) w
theorem mvs_br {n : Int} (hn : 1 < n) : ∀ (ms : List (Int × Int)) {w : List Int}, Val n w → w.length ≤ 24 → Br n w (mvs n w ms) ∧ Val n (mvs n w ms) ∧ (mvs n w ms).length ≤ 24
  | [], w, h, hl => ⟨Br.refl _ _, h, hl⟩
  | m :: ms, w, h, hl => by
    obtain ⟨h1, h2, h3⟩ := mv_br hn h m.1 m.2 hl
    obtain ⟨k1, k2, k3⟩ := mvs_br hn ms h2 h3
    exact ⟨h1.trans k1, k2, k3⟩
theorem mvs_snoc (n : Int) (w : List Int) (ms : List (Int × Int)) (m : Int × Int) : mvs n w (ms ++ [m]) = mv n (mvs n w ms) m.1 m.2 := by unfold mvs; simp
end Go.Proofs.YtigffblelngpjaaDoor
