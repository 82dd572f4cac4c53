/- Contracts of Sum and Permutation. -/
import Derived.Test.YtbappfeojdehgaaWf
namespace Go.Proofs.Ytbappfeojdehgaa
set_option linter.unusedVariables false
set_option linter.unusedSimpArgs false
set_option maxRecDepth 8000
open Go Go.RowKit

/-! ### Sum -/
def ssum (xs : List Int) : Int := (xs.map sgn).foldl (· + ·) 0
theorem ssum_snoc (xs : List Int) (k : Int) : ssum (xs ++ [k]) = ssum xs + sgn k := by unfold ssum; simp
theorem ssum_bd (xs : List Int) : -(xs.length : Int) ≤ ssum xs ∧ ssum xs ≤ xs.length := by
  have : ∀ n, ∀ xs : List Int, xs.length = n → -(n : Int) ≤ ssum xs ∧ ssum xs ≤ n := by
    intro n
    induction n with
    | zero => intro xs h; obtain rfl := List.eq_nil_of_length_eq_zero h; simp [ssum]
    | succ n ih =>
      intro xs h
      have hd : xs = xs.take n ++ [gi xs n] := by rw [← take_succ_gi (by omega), List.take_of_length_le (by omega)]
      rw [hd, ssum_snoc]
      have := ih (xs.take n) (by simp; omega)
      by_cases hk : gi xs n < 0
      · rw [sgn_neg hk]; omega
      · rw [sgn_pos hk]; omega
  exact this _ xs rfl

theorem Sum1_calls (a b s S : Int) (B : Nat) (w : World) (h : w.heap[B]? = some (.cells #[.int .i64 S] 3 (0, 0))) (hs : -1 ≤ s ∧ s ≤ 1) (hS : -1000 ≤ S ∧ S ≤ 1000) :
    Calls Try.prog 37 #[.int .i64 a, .int .i64 b, .int .i64 s, .pointer (some ⟨B, 0, none⟩)] w fun e w' => e = .returned (.tuple #[]) ∧ w' = w.setCell ⟨B, 0, none⟩ (.int .i64 (S + s)) := by
  have hc := cell_of_one h
  have hf := free_of_one h
  obtain ⟨h1, h2⟩ := hs
  obtain ⟨h3, h4⟩ := hS
  clear h
  go_enter Try.func37, Try.ntmps37
  go_wp2
  go_end0
  exact ⟨rfl, rfl⟩

theorem Sum_bad (n : Int) (v : Value) (c : Nat) (xs : List Int) (w : World) (h : IS .i64 w v c xs) (hw : wcheck n xs ≠ 0) :
    Calls Try.prog 21 #[.int .i64 n, v] w (RetNE w 0 (wcheck n xs)) := by
  have hne : (wcheck n xs != 0) = true := by simpa using hw
  go_enter Try.func21, Try.ntmps21
  go_wp2_with fail
  refine (Check_calls _ _ _ _ _ h).mono ?_
  rintro e w1 ⟨rfl, rfl⟩
  go_wp2
  go_ret2
  exact ⟨rfl, Ext.refl _⟩

theorem Sum_calls (n : Nat) (v : Value) (c : Nat) (xs : List Int) (w : World) (h : IS .i64 w v c xs) (hw : wcheck n xs = 0) :
    Calls Try.prog 21 #[.int .i64 n, v] w (RetNE w (ssum xs) 0) := by
  have hcall := Check_calls n v c xs w h
  have hz := wcheck_zero hw
  rw [hw] at hcall
  have Hcall := Lib.hid hcall; clear hcall
  have Hz := Lib.hid hz; clear hz hw
  go_enter Try.func21, Try.ntmps21
  go_wp2_with fail
  refine Hcall.out.mono ?_
  rintro e w1 ⟨rfl, rfl⟩
  go_wp2_with fail
  obtain ⟨z1, z2, z3, z4⟩ := Hz.out
  refine (follow_Sum n v c xs w.heap.size _ (fun k wr => Below w.heap.size w wr ∧ wr.heap[w.heap.size]? = some (.cells #[.int .i64 (ssum (xs.take k))] 3 (0, 0))) (fun k wr hr => h.ext hr.1) ⟨(Below.refl _ _).alloc (Nat.le_refl _) _, Deep.blk_alloc_new _ _⟩ ?st ?step (by omega) (by omega) z3 z4).mono ?_
  case st =>
    rintro k wr w' ⟨hb, hc⟩ hb'
    exact ⟨hb.trans (hb'.mono (by simp)), (hb'.block _ (by simp)).trans hc⟩
  case step =>
    rintro k wr hk ⟨hb, hc⟩
    have hS := ssum_bd (xs.take k)
    simp at hS
    refine (Sum1_calls _ _ _ (ssum (xs.take k)) _ wr hc ?_ ?_).mono ?_
    · by_cases hk : gi xs k < 0
      · rw [sgn_neg hk]; omega
      · rw [sgn_pos hk]; omega
    · omega
    · rintro e w' ⟨rfl, rfl⟩
      refine ⟨rfl, ⟨hb.setCell (Nat.le_refl _) _, ?_⟩, (Above.refl _ _).setCell (by simp) _⟩
      rw [one_setCell hc, take_succ_gi hk, ssum_snoc]
  · rintro e w2 ⟨rfl, ⟨hb, hc⟩, hv, _⟩
    have hcell := cell_of_one hc
    have hcell' : w2.cell? ⟨w.heap.size, 0, none⟩ = some (.int .i64 (ssum xs)) := by rw [hcell]; simp
    clear hcell hc hv Hz z1 z2 z3 z4
    go_wp2
    go_ret2
    exact ⟨rfl, hb⟩

end Go.Proofs.Ytbappfeojdehgaa
