/- The contracts of layer 23 at permutations, as the laws use them. -/
import Derived.Test.YtpcbadagffeehaaSe
namespace Go.Proofs.Ytpcbadagffeehaa
set_option linter.unusedVariables false
set_option linter.unusedSimpArgs false
open Go Go.RowKit

theorem RetX.lit {k : IntKind} {w0 w' : World} {xs : List Int} {e : Ending} (h : RetX k w0 xs e w') {n : Nat} (hn : xs.length = n) :
    ∃ a c, e = .returned (.slice a n c) ∧ IS k w' (.slice a n c) c xs ∧ Ext w0 w' := by
  obtain ⟨a, n', c', rfl, rfl, h1, h2⟩ := h.open
  subst hn
  exact ⟨a, c', rfl, h1, h2⟩

/-- A permutation of n strands. -/
structure PM (n : Nat) (xs : List Int) : Prop where
  ok : pok xs
  len : xs.length = n
  pos : 1 ≤ n
  le : n ≤ 8
theorem PM.chk {n : Nat} {xs : List Int} (h : PM n xs) : pcheck xs = 0 := pcheck_ok (by have := h.len; have := h.pos; omega) (by have := h.len; have := h.le; omega) h.ok
theorem PM.u8 {n : Nat} {xs : List Int} (h : PM n xs) : U8L xs := pok_u8 h.ok (by rw [h.len]; exact h.le)
theorem PM.both {n : Nat} {xs ys : List Int} (h : PM n xs) (k : PM n ys) : bothE xs ys = 0 := by
  unfold bothE
  rw [if_neg (by rw [h.chk]; simp), if_neg (by rw [k.chk]; simp), if_neg (by rw [h.len, k.len]; simp)]
theorem PM.ofM {xs : List Int} (hb : U8L xs) : PM (mN xs) (mof xs) := ⟨mof_pok fun j hj => (hb j hj).1, mof_len fun j hj => (hb j hj).1, (mN_bd xs).1, (mN_bd xs).2⟩
theorem PM.asM {xs : List Int} {n : Nat} (hb : U8L xs) (n1 : 1 ≤ n) (n8 : n ≤ 8) : PM n (mof (masL xs n)) := by
  have hb' := masL_bd (n := n) hb
  refine ⟨mof_pok fun j hj => (hb' j hj).1, ?_, n1, n8⟩
  rw [mof_len fun j hj => (hb' j hj).1, mN_of (by rw [masL_len]; exact n1) (by rw [masL_len]; exact n8), masL_len]
theorem PM.times {n : Nat} {xs ys : List Int} (h : PM n xs) (k : PM n ys) : PM n (timesL xs ys) := ⟨timesL_pok h.ok k.ok (h.len.trans k.len.symm), by rw [timesL_len, h.len], h.pos, h.le⟩
theorem PM.inv {n : Nat} {xs : List Int} (h : PM n xs) : PM n (invL xs) := ⟨invL_pok h.ok, by rw [invL_len, h.len], h.pos, h.le⟩
theorem PM.meet {n : Nat} {xs : List Int} (ys : List Int) (h : PM n xs) : PM n (meetL xs ys) := ⟨meetL_pok _ _, by rw [meetL_len, h.len], h.pos, h.le⟩
theorem PM.join {n : Nat} {xs : List Int} (ys : List Int) (h : PM n xs) : PM n (joinL xs ys) := ⟨joinL_pok _ _, by rw [joinL_len, h.len], h.pos, h.le⟩
theorem PM.rest {n : Nat} {xs ys : List Int} (h : PM n xs) (k : PM n ys) : PM n (restL xs ys) := ⟨restL_pok h.ok k.ok (h.len.trans k.len.symm), by rw [restL_len, h.len], h.pos, h.le⟩
theorem PM.half {n : Nat} (n1 : 1 ≤ n) (n8 : n ≤ 8) : PM n (halfL n) := ⟨halfL_pok, halfL_len n, n1, n8⟩
theorem PM.idP {n : Nat} (n1 : 1 ≤ n) (n8 : n ≤ 8) : PM n (idL n) := ⟨idL_pok, idL_len n, n1, n8⟩

variable {n : Nat} {xs ys : List Int} {v v1 v2 : Value} {c c1 c2 : Nat} {W : World}
theorem ok_check (hx : PM n xs) (h : IS .u8 W v c xs) : Calls Try.prog 26 #[v] W fun e w' => e = .returned (.int .i64 0) ∧ Ext W w' := by
  have := Pcheck_calls v c xs W h hx.u8
  rw [hx.chk] at this; exact this
theorem ok_times (hx : PM n xs) (hy : PM n ys) (h : IS .u8 W v1 c1 xs) (h' : IS .u8 W v2 c2 ys) : Calls Try.prog 23 #[v1, v2] W (RetIE .u8 W n (timesL xs ys) 0) := by
  have := Times_calls v1 v2 c1 c2 xs ys W h h' hx.u8 hy.u8
  rw [hx.both hy, if_pos rfl, if_pos rfl, hx.len] at this; exact this
theorem ok_inv (hx : PM n xs) (h : IS .u8 W v c xs) : Calls Try.prog 27 #[v] W (RetIE .u8 W n (invL xs) 0) := by
  have := Inverse_calls v c xs W h hx.u8
  rw [hx.chk, if_pos rfl, if_pos rfl, hx.len] at this; exact this
theorem ok_flip (hx : PM n xs) (h : IS .u8 W v c xs) : Calls Try.prog 28 #[v] W (RetIE .u8 W n (flipL xs) 0) := by
  have := Flip_ok v c xs W h hx.u8 hx.chk
  rw [hx.len] at this; exact this
theorem ok_starts (hx : PM n xs) (h : IS .u8 W v c xs) : Calls Try.prog 13 #[v] W (RetIE .i64 W (fallsL xs).length (fallsL xs) 0) := by
  have := Starts_calls v c xs W h hx.u8
  rw [hx.chk, if_pos rfl, if_pos rfl] at this; exact this
theorem ok_ends (hx : PM n xs) (h : IS .u8 W v c xs) : Calls Try.prog 14 #[v] W (RetIE .i64 W (fallsL (invL xs)).length (fallsL (invL xs)) 0) := by
  have := Ends_calls v c xs W h hx.u8
  rw [hx.chk, if_pos rfl, if_pos rfl] at this; exact this
theorem ok_word (hx : PM n xs) (h : IS .u8 W v c xs) {m : Nat} (hm : (m : Int) = invs xs) : Calls Try.prog 30 #[v] W (RetIE .i64 W m (wlet xs m) 0) := by
  have := Word_ok v c xs W h hx.u8 hx.chk
  have e : (crossers xs).length = m := by have := crossers_len xs; omega
  rw [e] at this; exact this
theorem ok_len (hx : PM n xs) (h : IS .u8 W v c xs) {m : Nat} (hm : (m : Int) = invs xs) : Calls Try.prog 12 #[v] W fun e w' => e = .returned (.tuple #[.int .i64 (m : Int), .int .i64 0]) ∧ Ext W w' := by
  have := Length_calls 5 (by omega) v c xs W h hx.u8
  have e : ((crossers xs).length : Int) = (m : Int) := by have := crossers_len xs; omega
  rw [hx.chk, if_pos rfl, e] at this; exact this
theorem ok_meet (hx : PM n xs) (hy : PM n ys) (h : IS .u8 W v1 c1 xs) (h' : IS .u8 W v2 c2 ys) : Calls Try.prog 19 #[v1, v2] W (RetIE .u8 W n (meetL xs ys) 0) := by
  have := Meet_calls v1 v2 c1 c2 xs ys W h h' hx.u8 hy.u8
  rw [hx.both hy, if_pos rfl, if_pos rfl, hx.len] at this; exact this
theorem ok_join (hx : PM n xs) (hy : PM n ys) (h : IS .u8 W v1 c1 xs) (h' : IS .u8 W v2 c2 ys) : Calls Try.prog 25 #[v1, v2] W (RetIE .u8 W n (joinL xs ys) 0) := by
  have := Join_calls v1 v2 c1 c2 xs ys W h h' hx.u8 hy.u8
  rw [hx.both hy, if_pos rfl, if_pos rfl, hx.len] at this; exact this
theorem belowB_le (hx : PM n xs) : belowB xs ys = leB n xs ys := by
  rw [Bool.eq_iff_iff, leB_iff]
  unfold belowB
  rw [List.all_eq_true]
  have hl := hx.len
  constructor
  · intro h a b a1 ab bn hc
    exact h ⟨(a, b), a1, ab, by omega⟩ ((mem_prsAll _ _ _).2 hc)
  · intro h x hm
    exact h x.1.1 x.1.2 x.2.1 x.2.2.1 (by have := x.2.2.2; omega) ((mem_prsAll _ _ _).1 hm)
theorem ok_below (hx : PM n xs) (hy : PM n ys) (h : IS .u8 W v1 c1 xs) (h' : IS .u8 W v2 c2 ys) : Calls Try.prog 20 #[v1, v2] W fun e w' => e = .returned (.tuple #[.bool (leB n xs ys), .int .i64 0]) ∧ Ext W w' := by
  have := Below_calls v1 v2 c1 c2 xs ys W h h' hx.u8 hy.u8
  rw [hx.both hy, if_pos rfl, belowB_le hx] at this; exact this
theorem inv_inR (hx : PM n xs) : inR (invL xs) xs.length := by
  have := pok_inR hx.inv.ok
  rwa [invL_len] at this
theorem ok_rest (hx : PM n xs) (hy : PM n ys) (h : IS .u8 W v1 c1 xs) (h' : IS .u8 W v2 c2 ys) (hle : leB n xs ys = true) : Calls Try.prog 21 #[v1, v2] W (RetIE .u8 W n (restL xs ys) 0) := by
  have := Rest_calls v1 v2 c1 c2 xs ys W h h' hx.u8 hy.u8 (fun _ => inv_inR hx)
  have e : restE xs ys = 0 := by unfold restE; rw [hx.both hy, if_neg (by simp), belowB_le hx, hle, if_pos rfl]
  rw [e, if_pos rfl, if_pos rfl, hx.len] at this; exact this
theorem ok_none (hx : PM n xs) (hy : PM n ys) (h : IS .u8 W v1 c1 xs) (h' : IS .u8 W v2 c2 ys) (hle : leB n xs ys = false) : Calls Try.prog 21 #[v1, v2] W (RetIE .u8 W 0 [] 7) := by
  have := Rest_calls v1 v2 c1 c2 xs ys W h h' hx.u8 hy.u8 (fun _ => inv_inR hx)
  have e : restE xs ys = 7 := by unfold restE; rw [hx.both hy, if_neg (by simp), belowB_le hx, hle, if_neg (by simp)]
  rw [e, if_neg (by decide), if_neg (by decide)] at this; exact this
theorem ok_within (hx : PM n xs) (hy : PM n ys) (h : IS .u8 W v1 c1 xs) (h' : IS .u8 W v2 c2 ys) : Calls Try.prog 22 #[v1, v2] W fun e w' => e = .returned (.bool (leB n xs ys)) ∧ Ext W w' := by
  have := within_calls v1 v2 c1 c2 xs ys W h h' (by rw [hx.len]; exact hx.le) (by rw [hx.len, hy.len])
  rw [hx.len] at this; exact this
theorem ok_same (hx : PM n xs) (hy : PM n ys) (h : IS .u8 W v1 c1 xs) (h' : IS .u8 W v2 c2 ys) (hc : c1 = n) (he : xs = ys) : Calls Try.prog 24 #[v1, v2] W fun e w' => e = .returned (.bool true) ∧ W = w' := by
  have := same_calls v1 v2 c1 c2 xs ys W h h' hx.u8 hy.u8
  have e : sameB xs ys c1 = true := by unfold sameB; exact decide_eq_true ⟨he, by rw [hc, hx.len]⟩
  rw [e] at this; exact this
theorem ok_id (n1 : 1 ≤ n) (n8 : n ≤ 8) : Calls Try.prog 29 #[.int .i64 (n : Int)] W (RetIE .u8 W n (idL n) 0) := Identity_ok n W n1 n8
theorem ok_half (n1 : 1 ≤ n) (n8 : n ≤ 8) : Calls Try.prog 31 #[.int .i64 (n : Int)] W (RetIE .u8 W n (halfL n) 0) := Half_ok n W n1 n8
end Go.Proofs.Ytpcbadagffeehaa
