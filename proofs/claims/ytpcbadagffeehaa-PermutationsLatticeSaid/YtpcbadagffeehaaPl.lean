/- Contracts of permutations: Identity, Half, Flip. -/
import Derived.Test.YtpcbadagffeehaaPk
namespace Go.Proofs.Ytpcbadagffeehaa
set_option linter.unusedVariables false
set_option linter.unusedSimpArgs false
open Go Go.RowKit

def idL (n : Nat) : List Int := updL (fun k => k) (fun k => (k : Int) + 1) n
theorem idL_len (n : Nat) : (idL n).length = n := updL_len _ _ _
theorem idL_gi {n i : Nat} (h : i < n) : gi (idL n) i = (i : Int) + 1 := by unfold idL; rw [updL_gi h, upd_id _ _ _ h]

set_option maxHeartbeats 1000000 in
theorem Identity_bad (n : Int) (w : World) (h : sizeE n ≠ 0) : Calls Try.prog 29 #[.int .i64 n] w (RetIE .u8 w 0 [] (sizeE n)) := by
  have hP := size_calls n w
  obtain ⟨e1, he1⟩ : ∃ e, e = sizeE n := ⟨_, rfl⟩
  rw [← he1] at hP h ⊢
  have HP := Lib.hid hP
  have hne : (e1 != 0) = true := by simpa using h
  clear hP he1 h
  go_enter Try.func29, Try.ntmps29
  go_wp2_with fail
  refine HP.out.mono ?_
  rintro e w1 ⟨rfl, rfl⟩
  go_wp2
  go_ret2
  exact ⟨_, rfl, IS.nil _ _, Ext.refl _⟩

set_option maxHeartbeats 1000000 in
theorem Identity_ok (N : Nat) (w : World) (h1 : 1 ≤ N) (hl : N ≤ 8) : Calls Try.prog 29 #[.int .i64 (N : Int)] w (RetIE .u8 w N (idL N) 0) := by
  have hP := size_calls (N : Int) w
  have hz : sizeE (N : Int) = 0 := by unfold sizeE; rw [if_neg (by omega), if_neg (by omega)]
  rw [hz] at hP
  have HP := Lib.hid hP
  clear hP hz
  have hfin : ∀ wr, URow w wr N (fun k => k) (fun k => (k : Int) + 1) N → IS .u8 wr (.slice (some ⟨w.heap.size, 0, none⟩) N N) N (idL N) := fun wr hu => hu.ret (by omega)
  have HF := Lib.hid hfin; clear hfin
  have hmk := run_make_row' (P := Try.prog) 22 5 (.int .u8 0) 1 Try.underlying22 (by kernel_rfl) rfl .i64 .i64 N (by omega) (by omega)
  go_enter Try.func29, Try.ntmps29
  go_wp2_with fail
  refine HP.out.mono ?_
  rintro e w1 ⟨rfl, rfl⟩
  go_wp2
  go_loopw [16] (fun i wr => ∃ k : Nat, k ≤ N ∧ i = .int .i64 k ∧ Hid (URow w1 wr N (fun k => k) (fun k => (k : Int) + 1) k)) (fun i _ => N - (intOf i).toNat)
  case atStart => exact ⟨0, Nat.zero_le _, rfl, Lib.hid (URow.start w1 N _ _)⟩
  case round =>
    obtain ⟨k, hk, rfl, H⟩ := hrel
    by_cases hlt : k < N
    · have hnx := H.out.next
      obtain ⟨_, f, hrow, hf⟩ := H.out
      have hst := hrow.cell (i := k) (by omega)
      have hfz := hrow.frozen k
      rw [hf k] at hst
      have HNX := Lib.hid hnx
      clear hnx hrow hf
      go_wp2
      go_roundw
      case rel => exact ⟨k + 1, by omega, by go_num, HNX.out⟩
      case measure => simp [intOf]; omega
    · obtain rfl : k = N := by omega
      go_wp2
      go_ret2
      exact ⟨_, rfl, HF.out _ H.out, H.out.1⟩

def halfL (n : Nat) : List Int := turnL (idL n)
theorem halfL_len (n : Nat) : (halfL n).length = n := by unfold halfL; rw [turnL_len, idL_len]
theorem halfL_gi {n i : Nat} (h : i < n) : gi (halfL n) i = (n : Int) - i := by
  unfold halfL; rw [turnL_gi (by rw [idL_len]; exact h), idL_len, idL_gi h]; omega

theorem Half_bad (n : Int) (w : World) (h : sizeE n ≠ 0) : Calls Try.prog 31 #[.int .i64 n] w (RetIE .u8 w 0 [] (sizeE n)) := by
  have hP := Identity_bad n w h
  obtain ⟨e1, he1⟩ : ∃ e, e = sizeE n := ⟨_, rfl⟩
  rw [← he1] at hP h ⊢
  have HP := Lib.hid hP
  have hne : (e1 != 0) = true := by simpa using h
  clear hP he1 h
  go_enter Try.func31, Try.ntmps31
  go_wp2_with fail
  refine HP.out.mono ?_
  rintro e w1 hret
  obtain ⟨a2, n2, c2, rfl, rfl, rfl, r1, hx⟩ := RetIE.open hret
  go_wp2
  go_ret2
  exact ⟨_, rfl, IS.nil _ _, hx⟩
theorem Half_ok (N : Nat) (w : World) (h1 : 1 ≤ N) (hl : N ≤ 8) : Calls Try.prog 31 #[.int .i64 (N : Int)] w (RetIE .u8 w N (halfL N) 0) := by
  have hP := Identity_ok N w h1 hl
  have hG : ∀ w1 v c, IS .u8 w1 v c (idL N) → Calls Try.prog 40 #[v] w1 (RetI .u8 w1 N (halfL N)) := fun w1 v c h => by
    have := turned_calls v c (idL N) w1 h (by rw [idL_len]; exact hl) (fun i hi => by rw [idL_len] at hi ⊢; rw [idL_gi hi]; omega)
    have e : halfL N = updL (fun k => k) (fun k => ((idL N).length : Int) + 1 - gi (idL N) k) (idL N).length := rfl
    rw [← e, idL_len] at this
    exact this
  obtain ⟨Q, hQ⟩ : ∃ Q, Q = idL N := ⟨_, rfl⟩
  obtain ⟨L, hL⟩ : ∃ Q, Q = halfL N := ⟨_, rfl⟩
  rw [← hQ] at hP hG
  rw [← hL] at hG ⊢
  have HP := Lib.hid hP; have HG := Lib.hid hG
  clear hP hG hQ hL
  go_enter Try.func31, Try.ntmps31
  go_wp2_with fail
  refine HP.out.mono ?_
  rintro e w1 hret
  obtain ⟨a2, n2, c2, rfl, rfl, rfl, r1, hx⟩ := RetIE.open hret
  have HR := Lib.hid (HG.out _ _ _ r1)
  go_wp2_with fail
  refine HR.out.mono ?_
  rintro e w2 hret
  obtain ⟨v2, rfl, r1, r2, r3⟩ := hret
  obtain ⟨a2, n2, c2, rfl, rfl, rfl, r1⟩ := r1.out
  go_wp2
  go_ret2
  exact ⟨_, rfl, r1, hx.trans r2⟩

def flipL (xs : List Int) : List Int := updL (fun k => xs.length - 1 - k) (fun k => (xs.length : Int) + 1 - gi xs k) xs.length
theorem flipL_len (xs : List Int) : (flipL xs).length = xs.length := updL_len _ _ _
theorem Flip_bad (v : Value) (c : Nat) (xs : List Int) (w : World) (h : IS .u8 w v c xs) (hb : U8L xs) (h0 : pcheck xs ≠ 0) :
    Calls Try.prog 28 #[v] w (RetIE .u8 w 0 [] (pcheck xs)) := by
  have hP := Pcheck_calls _ _ _ _ h hb
  obtain ⟨_, _, ao, rfl, _⟩ := h.open
  obtain ⟨e1, he1⟩ : ∃ e, e = pcheck xs := ⟨_, rfl⟩
  rw [← he1] at hP h0 ⊢
  have HP := Lib.hid hP
  have hne : (e1 != 0) = true := by simpa using h0
  clear hP he1 h0 h hb
  go_enter Try.func28, Try.ntmps28
  go_wp2_with fail
  refine HP.out.mono ?_
  rintro e w1 ⟨rfl, hx⟩
  go_wp2
  go_ret2
  exact ⟨_, rfl, IS.nil _ _, hx⟩

set_option maxHeartbeats 1000000 in
theorem Flip_ok (v : Value) (c : Nat) (xs : List Int) (w : World) (h : IS .u8 w v c xs) (hb : U8L xs) (h0 : pcheck xs = 0) :
    Calls Try.prog 28 #[v] w (RetIE .u8 w xs.length (flipL xs) 0) := by
  have hP := Pcheck_calls _ _ _ _ h hb
  rw [h0] at hP
  obtain ⟨h1, h2, ao, rfl, hao⟩ := h.open
  obtain ⟨hl1, hl, hok⟩ := pcheck_zero h0
  have hb := pok_inR hok
  have hfin : ∀ w1 wr, URow w1 wr xs.length (fun k => xs.length - 1 - k) (fun k => (xs.length : Int) + 1 - gi xs k) xs.length → IS .u8 wr (.slice (some ⟨w1.heap.size, 0, none⟩) xs.length xs.length) xs.length (flipL xs) := fun w1 wr hu => hu.ret (by omega)
  obtain ⟨L, hL⟩ : ∃ L, L = flipL xs := ⟨_, rfl⟩
  rw [← hL] at hfin ⊢
  have hb' : ∀ i, i < xs.length → 1 ≤ gi xs i ∧ gi xs i ≤ (xs.length : Int) := hb
  obtain ⟨N, hN⟩ : ∃ N, N = xs.length := ⟨_, rfl⟩
  rw [← hN] at hP hao h1 hl hb' hfin hl1 ⊢
  have Hb := Lib.hid hb'; have HF := Lib.hid hfin; have HP := Lib.hid hP
  clear hN hb hb' hfin h hP h0 hok hL
  unfold maxLen at h2
  have hmk := run_make_row' (P := Try.prog) 22 5 (.int .u8 0) 1 Try.underlying22 (by kernel_rfl) rfl .i64 .i64 N (by omega) (by omega)
  go_enter Try.func28, Try.ntmps28
  go_wp2_with fail
  refine HP.out.mono ?_
  rintro e w1 ⟨rfl, hx⟩
  have HX := Lib.hid hx; clear hx
  go_wp2
  go_loopw [20] (fun i wr => ∃ k : Nat, k ≤ N ∧ i = .int .i64 k ∧ Hid (URow w1 wr N (fun k => N - 1 - k) (fun k => (N : Int) + 1 - gi xs k) k)) (fun i _ => N - (intOf i).toNat)
  case atStart => exact ⟨0, Nat.zero_le _, rfl, Lib.hid (URow.start w1 N _ _)⟩
  case round =>
    obtain ⟨k, hk, rfl, H⟩ := hrel
    by_cases hlt : k < N
    · obtain ⟨b, o, rfl, hc⟩ : ∃ b o, ao = some ⟨b, o, none⟩ ∧ ∀ i, i < N → w.cell? ⟨b, o + i, none⟩ = some (.int .u8 (gi xs i)) := by
        rcases hao with ⟨_, h0, _⟩ | h
        · omega
        · exact h
      have hck := H.out.1.cell (HX.out.cell (hc k hlt))
      obtain ⟨b1, b2⟩ := Hb.out k hlt
      have hnx := H.out.next
      obtain ⟨_, f, hrow, hf⟩ := H.out
      obtain ⟨y, hy⟩ : ∃ y, y = N - 1 - k := ⟨_, rfl⟩
      have hyi : (N : Int) - 1 - (k : Int) = (y : Int) := by omega
      have hst := hrow.cell (i := y) (by omega)
      have hfz := hrow.frozen y
      rw [hf y] at hst
      obtain ⟨x, hx⟩ : ∃ x, x = gi xs k := ⟨_, rfl⟩
      simp only [← hx, ← hy] at hck b1 b2 hnx
      have hyN : y < N := by omega
      have HNX := Lib.hid hnx
      clear hx hnx hc hao hrow hf hy
      go_wp2
      go_roundw
      case rel => exact ⟨k + 1, by omega, by go_num, HNX.out⟩
      case measure => simp [intOf]; omega
    · obtain rfl : k = N := by omega
      go_wp2
      go_ret2
      exact ⟨_, rfl, HF.out _ _ H.out, HX.out.trans H.out.1⟩
end Go.Proofs.Ytpcbadagffeehaa
