/- The contracts of layer 23 at lists that are no permutations. -/
import Derived.Test.YtpcbadagffeehaaSf
namespace Go.Proofs.Ytpcbadagffeehaa
set_option linter.unusedVariables false
set_option linter.unusedSimpArgs false
open Go Go.RowKit
variable {xs ys : List Int} {v v1 v2 : Value} {c c1 c2 : Nat} {W : World} {e : Int}

theorem bd_check (hb : U8L xs) (h : IS .u8 W v c xs) (he : pcheck xs = e) : Calls Try.prog 26 #[v] W fun en w' => en = .returned (.int .i64 e) ∧ Ext W w' := by
  have := Pcheck_calls v c xs W h hb
  rw [he] at this; exact this
theorem bd_checked (hb : U8L xs) (h : IS .u8 W v c xs) (he : pcheck xs = e) : Calls Try.prog 34 #[v] W fun en w' => en = .returned (.int .i64 e) ∧ Ext W w' := by
  have := checked_calls v c xs W h hb
  rw [he] at this; exact this
theorem bd_inv (hb : U8L xs) (h : IS .u8 W v c xs) (he : pcheck xs = e) (h0 : e ≠ 0) : Calls Try.prog 27 #[v] W (RetIE .u8 W 0 [] e) := by
  have := Inverse_calls v c xs W h hb
  rw [he, if_neg h0, if_neg h0] at this; exact this
theorem bd_flip (hb : U8L xs) (h : IS .u8 W v c xs) (he : pcheck xs = e) (h0 : e ≠ 0) : Calls Try.prog 28 #[v] W (RetIE .u8 W 0 [] e) := by
  have := Flip_bad v c xs W h hb (by rw [he]; exact h0)
  rw [he] at this; exact this
theorem bd_pairs (hb : U8L xs) (h : IS .u8 W v c xs) (he : pcheck xs = e) (h0 : e ≠ 0) : Calls Try.prog 11 #[v] W fun en w' => ∃ a, en = .returned (.tuple #[.slice a 0 0, .int .i64 e]) ∧ Ext W w' := by
  refine (Inversions_calls 5 (by omega) v c xs W h hb).mono ?_
  rintro en w' ⟨v', rfl, hp, hx⟩
  rw [he] at hp ⊢
  rw [if_neg h0, if_neg h0] at hp
  rcases hp with ⟨rfl, _⟩ | ⟨b, rfl, h1, h2⟩
  · exact ⟨_, rfl, hx⟩
  · exact ⟨_, rfl, hx⟩
theorem ok_pairs {n : Nat} (hx : PM n xs) (h : IS .u8 W v c xs) : Calls Try.prog 11 #[v] W fun en w' => ∃ a m, en = .returned (.tuple #[.slice a m m, .int .i64 0]) ∧ Ext W w' := by
  refine (Inversions_calls 5 (by omega) v c xs W h hx.u8).mono ?_
  rintro en w' ⟨v', rfl, hp, hxt⟩
  rw [hx.chk] at hp ⊢
  rw [if_pos rfl, if_pos rfl] at hp
  rcases hp with ⟨rfl, _⟩ | ⟨b, rfl, h1, h2⟩
  · exact ⟨_, 0, rfl, hxt⟩
  · exact ⟨_, _, rfl, hxt⟩
theorem bd_len (hb : U8L xs) (h : IS .u8 W v c xs) (he : pcheck xs = e) (h0 : e ≠ 0) : Calls Try.prog 12 #[v] W fun en w' => en = .returned (.tuple #[.int .i64 0, .int .i64 e]) ∧ Ext W w' := by
  have := Length_calls 5 (by omega) v c xs W h hb
  rw [he, if_neg h0] at this; exact this
theorem bd_starts (hb : U8L xs) (h : IS .u8 W v c xs) (he : pcheck xs = e) (h0 : e ≠ 0) : Calls Try.prog 13 #[v] W (RetIE .i64 W 0 [] e) := by
  have := Starts_calls v c xs W h hb
  rw [he, if_neg h0, if_neg h0] at this; exact this
theorem bd_ends (hb : U8L xs) (h : IS .u8 W v c xs) (he : pcheck xs = e) (h0 : e ≠ 0) : Calls Try.prog 14 #[v] W (RetIE .i64 W 0 [] e) := by
  have := Ends_calls v c xs W h hb
  rw [he, if_neg h0, if_neg h0] at this; exact this
theorem bd_word (hb : U8L xs) (h : IS .u8 W v c xs) (he : pcheck xs = e) (h0 : e ≠ 0) : Calls Try.prog 30 #[v] W (RetIE .i64 W 0 [] e) := by
  have := Word_bad v c xs W h hb (by rw [he]; exact h0)
  rw [he] at this; exact this
theorem bd_text (hb : U8L xs) (h : IS .u8 W v c xs) (he : pcheck xs = e) (h0 : e ≠ 0) : Calls Try.prog 32 #[v] W fun en w' => en = .returned (.string ⟨#[]⟩) ∧ Ext W w' := PText_bad v c xs W h hb (by rw [he]; exact h0)
theorem ok_text {n : Nat} (hx : PM n xs) (h : IS .u8 W v c xs) : Calls Try.prog 32 #[v] W fun en w' => (∃ s : ByteArray, en = .returned (.string s) ∧ s.toList.isEmpty = false ∧ (s.toList == []) = false ∧ s.toList ≠ []) ∧ Ext W w' := by
  refine (PText_ok v c xs W h hx.u8 hx.chk).mono ?_
  rintro en w' ⟨rfl, hxt⟩
  have hl : (textTo xs xs.length).length = 2 * n - 1 := by rw [textTo_len, hx.len]
  have hne : (⟨(textTo xs xs.length).toArray⟩ : ByteArray).toList ≠ [] := fun e => by
    rw [ByteArray.toList_eq] at e
    have e' : textTo xs xs.length = [] := by simpa using e
    rw [e'] at hl
    change 0 = 2 * n - 1 at hl
    have := hx.pos
    omega
  exact ⟨⟨_, rfl, by simpa using hne, by simpa using hne, hne⟩, hxt⟩
theorem bd_times (hb : U8L xs) (hb' : U8L ys) (h : IS .u8 W v1 c1 xs) (h' : IS .u8 W v2 c2 ys) (he : bothE xs ys = e) (h0 : e ≠ 0) : Calls Try.prog 23 #[v1, v2] W (RetIE .u8 W 0 [] e) := by
  have := Times_calls v1 v2 c1 c2 xs ys W h h' hb hb'
  rw [he, if_neg h0, if_neg h0] at this; exact this
theorem bd_meet (hb : U8L xs) (hb' : U8L ys) (h : IS .u8 W v1 c1 xs) (h' : IS .u8 W v2 c2 ys) (he : bothE xs ys = e) (h0 : e ≠ 0) : Calls Try.prog 19 #[v1, v2] W (RetIE .u8 W 0 [] e) := by
  have := Meet_calls v1 v2 c1 c2 xs ys W h h' hb hb'
  rw [he, if_neg h0, if_neg h0] at this; exact this
theorem bd_join (hb : U8L xs) (hb' : U8L ys) (h : IS .u8 W v1 c1 xs) (h' : IS .u8 W v2 c2 ys) (he : bothE xs ys = e) (h0 : e ≠ 0) : Calls Try.prog 25 #[v1, v2] W (RetIE .u8 W 0 [] e) := by
  have := Join_calls v1 v2 c1 c2 xs ys W h h' hb hb'
  rw [he, if_neg h0, if_neg h0] at this; exact this
theorem bd_below (hb : U8L xs) (hb' : U8L ys) (h : IS .u8 W v1 c1 xs) (h' : IS .u8 W v2 c2 ys) (he : bothE xs ys = e) (h0 : e ≠ 0) : Calls Try.prog 20 #[v1, v2] W fun en w' => en = .returned (.tuple #[.bool false, .int .i64 e]) ∧ Ext W w' := by
  have := Below_calls v1 v2 c1 c2 xs ys W h h' hb hb'
  rw [he, if_neg h0] at this; exact this
theorem bd_rest (hb : U8L xs) (hb' : U8L ys) (h : IS .u8 W v1 c1 xs) (h' : IS .u8 W v2 c2 ys) (he : bothE xs ys = e) (h0 : e ≠ 0) : Calls Try.prog 21 #[v1, v2] W (RetIE .u8 W 0 [] e) := by
  have := Rest_calls v1 v2 c1 c2 xs ys W h h' hb hb' (fun h => absurd (he.symm.trans h) h0)
  have e' : restE xs ys = e := by unfold restE; rw [he, if_pos h0]
  rw [e', if_neg h0, if_neg h0] at this; exact this
theorem bd_id {n : Int} (he : sizeE n = e) (h0 : e ≠ 0) : Calls Try.prog 29 #[.int .i64 n] W (RetIE .u8 W 0 [] e) := by
  have := Identity_bad n W (by rw [he]; exact h0)
  rw [he] at this; exact this
theorem bd_half {n : Int} (he : sizeE n = e) (h0 : e ≠ 0) : Calls Try.prog 31 #[.int .i64 n] W (RetIE .u8 W 0 [] e) := by
  have := Half_bad n W (by rw [he]; exact h0)
  rw [he] at this; exact this
theorem pcheck_pm {xs : List Int} (h : pcheck xs = 0) : PM xs.length xs := by
  obtain ⟨a, b, d⟩ := pcheck_zero h
  exact ⟨d, rfl, a, b⟩
end Go.Proofs.Ytpcbadagffeehaa
