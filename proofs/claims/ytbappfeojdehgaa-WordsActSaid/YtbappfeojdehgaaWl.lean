/- Contract of Act. -/
import Derived.Test.YtbappfeojdehgaaWk
namespace Go.Proofs.Ytbappfeojdehgaa
set_option linter.unusedVariables false
set_option linter.unusedSimpArgs false
set_option maxRecDepth 8000
open Go Go.RowKit

/-! ### the images -/
def start (n : Nat) : List (List Int) := (List.range n).map fun i : Nat => [(i : Int) + 1]
def actRows (n : Nat) (xs : List Int) : List (List Int) := xs.foldl letterRows (start n)
theorem actRows_snoc (n : Nat) (xs : List Int) (k : Int) : actRows n (xs ++ [k]) = letterRows (actRows n xs) k := by unfold actRows; simp
/-- No image is too great on the way. -/
def fits (n : Nat) (xs : List Int) : Prop := ∀ k, k < xs.length → letterLen (actRows n (xs.take k)) (gi xs k) ≤ 262144

theorem letterRows_len (rows : List (List Int)) (k : Int) : (letterRows rows k).length = rows.length := by unfold letterRows; split <;> simp
theorem actRows_len (n : Nat) (xs : List Int) : (actRows n xs).length = n := by
  have : ∀ xs : List Int, ∀ rows, (xs.foldl letterRows rows).length = rows.length := by
    intro xs
    induction xs with
    | nil => intro rows; rfl
    | cons k xs ih => intro rows; simp only [List.foldl_cons]; rw [ih, letterRows_len]
  unfold actRows; rw [this]; unfold start; simp

/-- Where a letter of n strands stands. -/
theorem letter_place {n k : Int} (hb : wbad n k = false) (h1 : 1 ≤ n) : (0 < k ∧ ∃ i : Nat, k = (i : Int) + 1 ∧ (i : Int) + 1 < n) ∨ (k < 0 ∧ ∃ i : Nat, k = -((i : Int) + 1) ∧ (i : Int) + 1 < n) := by
  unfold wbad at hb
  simp only [Bool.or_eq_false_iff, beq_eq_false_iff_ne, decide_eq_false_iff_not] at hb
  obtain ⟨⟨h0, h2⟩, h3⟩ := hb
  by_cases h : 0 < k
  · exact .inl ⟨h, (k - 1).toNat, by omega, by omega⟩
  · exact .inr ⟨by omega, (-k - 1).toNat, by omega, by omega⟩

theorem letterRows_pos (rows : List (List Int)) (i : Nat) : letterRows rows ((i : Int) + 1) = (rows.set i (prodL (prodL (ri rows i) (ri rows (i + 1))) (invL (ri rows i)))).set (i + 1) (ri rows i) := by
  unfold letterRows
  rw [if_pos (by omega), show ((i : Int) + 1 - 1).toNat = i from by omega]
theorem letterRows_neg (rows : List (List Int)) (i : Nat) : letterRows rows (-((i : Int) + 1)) = (rows.set i (ri rows (i + 1))).set (i + 1) (prodL (prodL (invL (ri rows (i + 1))) (ri rows i)) (ri rows (i + 1))) := by
  unfold letterRows
  rw [if_neg (by omega), show (-(-((i : Int) + 1)) - 1).toNat = i from by omega]
theorem letterLen_pos (rows : List (List Int)) (i : Nat) (h : i + 1 < rows.length) : letterLen rows ((i : Int) + 1) = (prodL (prodL (ri rows i) (ri rows (i + 1))) (invL (ri rows i))).length := by
  unfold letterLen
  rw [if_pos (by omega), letterRows_pos, show ((i : Int) + 1 - 1).toNat = i from by omega, ri_set _ _ _ _ (by simpa using h), if_neg (by omega), ri_set _ _ _ _ (by omega), if_pos rfl]
theorem letterLen_neg (rows : List (List Int)) (i : Nat) (h : i + 1 < rows.length) : letterLen rows (-((i : Int) + 1)) = (prodL (prodL (invL (ri rows (i + 1))) (ri rows i)) (ri rows (i + 1))).length := by
  unfold letterLen
  rw [if_neg (by omega), letterRows_neg, show (-(-((i : Int) + 1))).toNat = i + 1 from by omega, ri_set _ _ _ _ (by simpa using h), if_pos rfl]

/-- Every image stays small and in its letters while the word fits. -/
theorem act_okr {n : Nat} {xs : List Int} (hg : ∀ i, i < xs.length → wbad n (gi xs i) = false) (h1 : 1 ≤ n) (h8 : n ≤ 8) : ∀ k, k ≤ xs.length → (∀ j, j < k → letterLen (actRows n (xs.take j)) (gi xs j) ≤ 262144) → ∀ i, i < n → Okr 262144 (ri (actRows n (xs.take k)) i) := by
  intro k
  induction k with
  | zero =>
    intro _ _ i hi
    simp only [List.take_zero, actRows, List.foldl_nil, start]
    rw [ri_range_map _ hi]
    refine ⟨by simp, fun j hj => ?_⟩
    have : j = 0 := by simpa using hj
    subst this
    rw [gi_cons_zero]; omega
  | succ k ih =>
    intro hk hf i hi
    have ih' := ih (by omega) (fun j hj => hf j (by omega))
    have hlen := actRows_len n (xs.take k)
    have hfk := hf k (by omega)
    rw [take_succ_gi (by omega), actRows_snoc]
    rcases letter_place (hg k (by omega)) (by omega) with ⟨_, q, hq, hqn⟩ | ⟨_, q, hq, hqn⟩
    · rw [hq, letterLen_pos _ _ (by omega)] at hfk
      rw [hq, letterRows_pos, ri_set _ _ _ _ (by rw [List.length_set]; omega)]
      split
      · exact ih' q (by omega)
      · rw [ri_set _ _ _ _ (by omega)]
        split
        · exact ⟨hfk, (okr_prod (okr_prod (ih' q (by omega)) (ih' (q + 1) (by omega))) (okr_inv (ih' q (by omega)))).2⟩
        · exact ih' i hi
    · rw [hq, letterLen_neg _ _ (by omega)] at hfk
      rw [hq, letterRows_neg, ri_set _ _ _ _ (by rw [List.length_set]; omega)]
      split
      · exact ⟨hfk, (okr_prod (okr_prod (okr_inv (ih' (q + 1) (by omega))) (ih' q (by omega))) (ih' (q + 1) (by omega))).2⟩
      · rw [ri_set _ _ _ _ (by omega)]
        split
        · exact ih' (q + 1) (by omega)
        · exact ih' i hi

/-- The closure at any letter. -/
theorem Act1_calls (k : Int) (B n : Nat) (vs : Nat → Value) (rows : List (List Int)) (w : World) (h : Img w B n vs rows) (hk : wbad n k = false) (h1 : 1 ≤ n) (hn : n ≤ 8) (hb : ∀ j, j < n → Okr 262144 (ri rows j)) :
    Calls Try.prog 33 #[.int .i64 k, .pointer (some ⟨B + 1, 0, none⟩)] w (RetA B n w (letterRows rows k) (letterLen rows k)) := by
  rcases letter_place hk (by omega) with ⟨_, q, rfl, hqn⟩ | ⟨_, q, rfl, hqn⟩
  · rw [letterRows_pos, letterLen_pos _ _ (by rw [h.len]; omega)]
    exact Act1_pos q B n vs rows w h (by omega) hn hb
  · rw [letterRows_neg, letterLen_neg _ _ (by rw [h.len]; omega)]
    exact Act1_neg q B n vs rows w h (by omega) hn hb

theorem Act_bad (n : Int) (v : Value) (c : Nat) (xs : List Int) (w : World) (h : IS .i64 w v c xs) (hw : wcheck n xs ≠ 0) :
    Calls Try.prog 18 #[.int .i64 n, v] w (RetXE .i64 w 0 [] (wcheck n xs)) := by
  have hne : (wcheck n xs != 0) = true := by simpa using hw
  go_enter Try.func18, Try.ntmps18
  go_wp2_with fail
  refine (Check_calls _ _ _ _ _ h).mono ?_
  rintro e w1 ⟨rfl, rfl⟩
  go_wp2
  go_ret2
  exact ⟨_, rfl, ISX.nil _ _, Ext.refl _⟩

end Go.Proofs.Ytbappfeojdehgaa
