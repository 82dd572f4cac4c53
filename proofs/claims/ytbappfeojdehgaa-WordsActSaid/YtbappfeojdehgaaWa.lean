/- Contracts of the leaf functions of package words: Check, sign, inverse. -/
import Derived.Test.YtbappfeojdehgaaProg
import Derived.Test.YtbappfeojdehgaaLib
namespace Go.Proofs.Ytbappfeojdehgaa
set_option linter.unusedVariables false
set_option linter.unusedSimpArgs false
set_option maxRecDepth 8000
open Go Go.RowKit

/-! ### Check -/
def wbad (n k : Int) : Bool := k == 0 || decide (k < 1 - n) || decide (n - 1 < k)
def wcheck (n : Int) (xs : List Int) : Int :=
  if n < 1 ∨ 8 < n then 1 else if 64 < xs.length then 3 else if xs.any (wbad n) then 1 else 0

theorem wbad_of {n k : Int} (h : k = 0 ∨ k < 1 - n ∨ n - 1 < k) : wbad n k = true := by
  unfold wbad; simp; omega
theorem wbad_not {n k : Int} (h0 : ¬ k = 0) (h1 : ¬ k < 1 - n) (h2 : ¬ n - 1 < k) : wbad n k = false := by
  unfold wbad; simp; omega

theorem wcheck_bad {n : Int} {xs : List Int} {i : Nat} (h : 1 ≤ n) (h8 : n ≤ 8) (hl : xs.length ≤ 64) (hi : i < xs.length) (hb : wbad n (gi xs i) = true) : wcheck n xs = 1 := by
  unfold wcheck
  rw [if_neg (by omega), if_neg (by omega), if_pos]
  rw [List.any_eq_true]; exact ⟨_, gi_mem hi, hb⟩
theorem wcheck_ok {n : Int} {xs : List Int} (h : 1 ≤ n) (h8 : n ≤ 8) (hl : xs.length ≤ 64) (hb : ∀ i, i < xs.length → wbad n (gi xs i) = false) : wcheck n xs = 0 := by
  unfold wcheck
  rw [if_neg (by omega), if_neg (by omega), if_neg]
  rw [List.any_eq_true]
  rintro ⟨x, hx, hb'⟩
  have := gi_all (P := fun x => wbad n x = false) hb x hx
  simp_all

theorem Check_calls (n : Int) (v : Value) (c : Nat) (xs : List Int) (w : World) (h : IS .i64 w v c xs) :
    Calls Try.prog 24 #[.int .i64 n, v] w fun e w' => e = .returned (.int .i64 (wcheck n xs)) ∧ w = w' := by
  obtain ⟨h1, h2, ao, rfl, hao⟩ := h.open
  obtain ⟨N, hN⟩ : ∃ N, N = xs.length := ⟨_, rfl⟩
  have hbad : ∀ i, i < N → 1 ≤ n → n ≤ 8 → N ≤ 64 → wbad n (gi xs i) = true → wcheck n xs = 1 := fun i hi a b cc d => wcheck_bad a b (by omega) (by omega) d
  have hok : 1 ≤ n → n ≤ 8 → N ≤ 64 → (∀ i, i < N → wbad n (gi xs i) = false) → wcheck n xs = 0 := fun a b cc d => wcheck_ok a b (by omega) (by rw [← hN]; exact d)
  have hlong : 1 ≤ n → n ≤ 8 → 64 < N → wcheck n xs = 3 := fun a b d => by unfold wcheck; rw [if_neg (by omega), if_pos (by omega)]
  have harg : n < 1 ∨ 8 < n → wcheck n xs = 1 := fun d => by unfold wcheck; rw [if_pos d]
  have Hbad := Lib.hid hbad; have Hok := Lib.hid hok; have Hlong := Lib.hid hlong; have Harg := Lib.hid harg
  clear hbad hok hlong harg
  rw [← hN] at hao h1 ⊢
  clear hN
  unfold maxLen at h2
  by_cases n1 : n < 1
  · go_enter Try.func24, Try.ntmps24
    go_wp2
    go_ret
    exact ⟨ret_int (Harg.out (.inl n1)).symm, rfl⟩
  by_cases n8 : 8 < n
  · go_enter Try.func24, Try.ntmps24
    go_wp2
    go_ret
    exact ⟨ret_int (Harg.out (.inr n8)).symm, rfl⟩
  by_cases h64 : 64 < N
  · go_enter Try.func24, Try.ntmps24
    go_wp2
    go_ret
    exact ⟨ret_int (Hlong.out (by omega) (by omega) h64).symm, rfl⟩
  go_enter Try.func24, Try.ntmps24
  go_wp2
  go_loop [6, 18] (fun _ i => ∃ k : Nat, k ≤ N ∧ i = .int .i64 k ∧ ∀ i, i < k → wbad n (gi xs i) = false) (fun _ i => N - (intOf i).toNat)
  case atStart => exact ⟨0, Nat.zero_le _, rfl, fun i hi => by omega⟩
  case round =>
    obtain ⟨k, hk, rfl, hgood⟩ := hrel
    have Hgood := Lib.hid hgood; clear hgood
    by_cases hlt : k < N
    · obtain ⟨b, o, rfl, hc⟩ : ∃ b o, ao = some ⟨b, o, none⟩ ∧ ∀ i, i < N → w.cell? ⟨b, o + i, none⟩ = some (.int .i64 (gi xs i)) := by
        rcases hao with ⟨_, h0, _⟩ | h
        · omega
        · exact h
      have hck := hc k hlt
      clear hc hao
      by_cases z0 : gi xs k = 0
      · have z0' : (gi xs k == 0) = true := by simp [z0]
        have B := Lib.hid (Hbad.out k hlt (by omega) (by omega) (by omega) (wbad_of (.inl z0)))
        clear z0
        go_wp2
        go_ret
        exact ⟨ret_int (B.out).symm, rfl⟩
      · have z0' : (gi xs k == 0) = false := by simp [z0]
        by_cases z1 : gi xs k < 1 - n
        · have B := Lib.hid (Hbad.out k hlt (by omega) (by omega) (by omega) (wbad_of (.inr (.inl z1))))
          go_wp2
          go_ret
          exact ⟨ret_int (B.out).symm, rfl⟩
        · by_cases z2 : n - 1 < gi xs k
          · have B := Lib.hid (Hbad.out k hlt (by omega) (by omega) (by omega) (wbad_of (.inr (.inr z2))))
            go_wp2
            go_ret
            exact ⟨ret_int (B.out).symm, rfl⟩
          · go_wp2
            go_round
            case rel => exact ⟨k + 1, by omega, by go_num, fun i hi => by
              by_cases e : i = k
              · subst e; exact wbad_not z0 z1 z2
              · exact Hgood.out i (by omega)⟩
            case measure => simp [intOf]; omega
    · go_wp2
      go_ret
      have : k = N := by omega
      subst this
      exact ⟨ret_int (Hok.out (by omega) (by omega) (by omega) Hgood.out).symm, rfl⟩


/-! ### sign, inverse -/
def sgn (k : Int) : Int := if k < 0 then -1 else 1
theorem sgn_neg {k : Int} (h : k < 0) : sgn k = -1 := by unfold sgn; rw [if_pos h]
theorem sgn_pos {k : Int} (h : ¬ k < 0) : sgn k = 1 := by unfold sgn; rw [if_neg h]

theorem sign_calls (k : Int) (w : World) : Calls Try.prog 31 #[.int .i64 k] w fun e w' => e = .returned (.int .i64 (sgn k)) ∧ w = w' := by
  by_cases h : k < 0
  · have hs := Lib.hid (sgn_neg h)
    go_enter Try.func31, Try.ntmps31
    go_wp2
    go_ret
    exact ⟨ret_int hs.out.symm, rfl⟩
  · have hs := Lib.hid (sgn_pos h)
    go_enter Try.func31, Try.ntmps31
    go_wp2
    go_ret
    exact ⟨ret_int hs.out.symm, rfl⟩

theorem Mirror1_calls (k : Int) (w : World) (h : -100 ≤ k ∧ k ≤ 100) : Calls Try.prog 29 #[.int .i64 k] w fun e w' => e = .returned (.int .i64 (-k)) ∧ w = w' := by
  obtain ⟨h1, h2⟩ := h
  go_enter Try.func29, Try.ntmps29
  go_wp2
  go_ret
  exact ⟨rfl, rfl⟩

/-- What Flip makes of a letter. -/
def flipk (n k : Int) : Int := sgn k * n - k

theorem flipk_bd {n k : Int} (h1 : -100 ≤ k) (h2 : k ≤ 100) (h3 : 1 ≤ n) (h4 : n ≤ 8) : -8 ≤ sgn k * n ∧ sgn k * n ≤ 8 ∧ -200 ≤ flipk n k ∧ flipk n k ≤ 200 := by
  unfold flipk
  by_cases h : k < 0
  · rw [sgn_neg h]; omega
  · rw [sgn_pos h]; omega
theorem flip_wrap {n k : Int} (h1 : -100 ≤ k) (h2 : k ≤ 100) (h3 : 1 ≤ n) (h4 : n ≤ 8) : wrap64 (wrap64 (sgn k * n) - k) = flipk n k := by
  obtain ⟨a, b, c, d⟩ := flipk_bd h1 h2 h3 h4
  rw [IntWalk.wrap64_in (sgn k * n) ⟨by omega, by omega⟩]
  unfold flipk at *
  exact IntWalk.wrap64_in _ ⟨by omega, by omega⟩

theorem Flip1_calls (k n : Int) (b : Nat) (w : World) (h : -100 ≤ k ∧ k ≤ 100) (hn : 1 ≤ n ∧ n ≤ 8) (hc : w.cell? ⟨b, 0, none⟩ = some (.int .i64 n)) :
    Calls Try.prog 30 #[.int .i64 k, .pointer (some ⟨b, 0, none⟩)] w fun e w' => e = .returned (.int .i64 (flipk n k)) ∧ ∃ m, w' = w.drewN m := by
  obtain ⟨h1, h2⟩ := h
  obtain ⟨h3, h4⟩ := hn
  go_enter Try.func30, Try.ntmps30
  go_wp2
  go_quiet ((go_at_call 31; exact Calls.quiet_of_same ((sign_calls k _).mono fun _ _ ⟨he, hw⟩ => ⟨he, hw.symm⟩)))
  go_wp2
  go_ret
  exact ⟨ret_int (flip_wrap h1 h2 h3 h4), nq, rfl⟩

/-! ### inverse -/
theorem negs_gi {xs : List Int} {i : Nat} (h : i < xs.length) : gi (xs.reverse.map (fun x => -x)) i = - gi xs (xs.length - 1 - i) := by
  rw [gi_map _ (by simpa using h), gi_reverse h]

theorem inverse_calls (v : Value) (c : Nat) (xs : List Int) (w : World) (h : IS .i64 w v c xs) (hl : xs.length ≤ 1000000) (hb : ∀ i, i < xs.length → -1000 ≤ gi xs i ∧ gi xs i ≤ 1000) :
    Calls Try.prog 27 #[v] w (RetI .i64 w xs.length (xs.reverse.map (fun x => -x))) := by
  obtain ⟨h1, h2, ao, rfl, hao⟩ := h.open
  have hres : ∀ (w' : World) f, (∀ i, i < xs.length → f i = Value.int .i64 (- gi xs (xs.length - 1 - i))) → w'.rowIs w.heap.size 3 xs.length f → IS .i64 w' (.slice (some ⟨w.heap.size, 0, none⟩) xs.length xs.length) xs.length (xs.reverse.map (fun x => -x)) := by
    intro w' f hf hr
    refine IS.of_row hr (by simp) (by unfold maxLen; omega) fun i hi => ?_
    rw [negs_gi hi]; exact hf i hi
  obtain ⟨N, hN⟩ : ∃ N, N = xs.length := ⟨_, rfl⟩
  rw [← hN] at hao h1 hl hres hb ⊢
  clear h hN
  have Hres := Lib.hid hres; clear hres
  have Hb := Lib.hid hb; clear hb
  have hmk := run_make_row' (P := Try.prog) 25 3 (.int .i64 0) 8 Try.underlying25 (by kernel_rfl) rfl .i64 .i64 N (by omega) (by omega)
  go_enter Try.func27, Try.ntmps27
  go_wp2
  go_loopw [4, 5, 11] (fun _ _ i wr => ∃ k : Nat, k ≤ N ∧ i = .int .i64 k ∧ Ext w wr ∧ ∃ f, wr.rowIs w.heap.size 3 N f ∧ ∀ i, i < N → N - k ≤ i → f i = Value.int .i64 (- gi xs (N - 1 - i))) (fun _ _ i _ => N - (intOf i).toNat)
  case atStart => exact ⟨0, Nat.zero_le _, rfl, (Ext.refl w).alloc _, _, World.rowIs_made _ _ _ _, fun i h1 h2 => by omega⟩
  case round =>
    obtain ⟨k, hk, rfl, hext, f, hrow, hf⟩ := hrel
    have Hf := Lib.hid hf; clear hf
    by_cases hlt : k < N
    · obtain ⟨b, o, rfl, hc⟩ : ∃ b o, ao = some ⟨b, o, none⟩ ∧ ∀ i, i < N → w.cell? ⟨b, o + i, none⟩ = some (.int .i64 (gi xs i)) := by
        rcases hao with ⟨_, h0, _⟩ | h
        · omega
        · exact h
      have hck : wr.cell? ⟨b, o + k, none⟩ = some (.int .i64 (gi xs k)) := hext.cell (hc k hlt)
      have hst := hrow.cell (i := N - 1 - k) (by omega)
      have hfz := hrow.frozen (N - 1 - k)
      obtain ⟨hb1, hb2⟩ := Hb.out k hlt
      clear hc hao
      go_wp2
      go_roundw
      case rel => exact ⟨k + 1, by omega, by go_num, hext.setCell (Nat.le_refl _) _, _, hrow.set _ _, fun i h1 h2 => by
        by_cases e : i = N - 1 - k
        · rw [if_pos e, e, show N - 1 - (N - 1 - k) = k from by omega]
        · rw [if_neg e]; exact Hf.out i h1 (by omega)⟩
      case measure => simp [intOf]; omega
    · go_wp2
      go_ret
      exact ⟨_, rfl, Hres.out wr f (fun i hi => Hf.out i hi (by omega)) hrow, hext, NN.mk⟩
end Go.Proofs.Ytbappfeojdehgaa
