/- Contracts of Permutation and Links. -/
import Derived.Test.YtbappfeojdehgaaWg
namespace Go.Proofs.Ytbappfeojdehgaa
set_option linter.unusedVariables false
set_option linter.unusedSimpArgs false
set_option maxRecDepth 8000
open Go Go.RowKit

/-! ### Permutation -/
/-- Where the strands go, off the strand at each place. -/
def invStep (a : List Int) (p : List Int) (i : Nat) : List Int := p.set (gi a i).toNat ((i : Int) + 1)
def inv (n : Nat) (a : List Int) : List Int := (List.range n).foldl (invStep a) (List.replicate n 0)
def invTo (n : Nat) (a : List Int) (k : Nat) : List Int := (List.range k).foldl (invStep a) (List.replicate n 0)
theorem invTo_succ (n : Nat) (a : List Int) (k : Nat) : invTo n a (k + 1) = invStep a (invTo n a k) k := by unfold invTo; rw [List.range_succ]; simp
theorem invTo_len (n : Nat) (a : List Int) (k : Nat) : (invTo n a k).length = n := by
  induction k with
  | zero => simp [invTo]
  | succ k ih => rw [invTo_succ]; unfold invStep; simpa using ih
theorem inv_len (n : Nat) (a : List Int) : (inv n a).length = n := invTo_len n a n
/-- The permutation of a word. -/
def permOf (n : Nat) (xs : List Int) : List Int := inv n (fol n xs)

theorem Perm1_calls (a b s : Int) (w : World) : Calls Try.prog 36 #[.int .i64 a, .int .i64 b, .int .i64 s] w fun e w' => e = .returned (.tuple #[]) ∧ w' = w := by
  go_enter Try.func36, Try.ntmps36
  go_wp2
  go_end0
  exact ⟨rfl, rfl⟩

theorem Permutation_bad (n : Int) (v : Value) (c : Nat) (xs : List Int) (w : World) (h : IS .i64 w v c xs) (hw : wcheck n xs ≠ 0) :
    Calls Try.prog 20 #[.int .i64 n, v] w (RetIE .u8 w 0 [] (wcheck n xs)) := by
  have hne : (wcheck n xs != 0) = true := by simpa using hw
  go_enter Try.func20, Try.ntmps20
  go_wp2_with fail
  refine (Check_calls _ _ _ _ _ h).mono ?_
  rintro e w1 ⟨rfl, rfl⟩
  go_wp2
  go_ret2
  exact ⟨_, rfl, IS.nil _ _, Ext.refl _⟩

theorem Permutation_calls (n : Nat) (v : Value) (c : Nat) (xs : List Int) (w : World) (h : IS .i64 w v c xs) (hw : wcheck n xs = 0) :
    Calls Try.prog 20 #[.int .i64 n, v] w (RetIE .u8 w n (permOf n xs) 0) := by
  have hcall := Check_calls n v c xs w h
  have hz := wcheck_zero hw
  rw [hw] at hcall
  have Hcall := Lib.hid hcall; clear hcall
  obtain ⟨z1, z2, z3, z4⟩ := hz
  have hfb := fol_bd z4 (by omega) (by omega) xs.length (Nat.le_refl _)
  rw [List.take_length] at hfb
  have hfl := fol_len n xs
  obtain ⟨A, hA⟩ : ∃ A, A = fol n xs := ⟨_, rfl⟩
  rw [← hA] at hfb hfl
  have Hfb := Lib.hid hfb; have Hfl := Lib.hid hfl; have HA := Lib.hid hA
  have Hz4 := Lib.hid z4
  clear hfb hfl hA hw z4
  have hmk := run_make_row' (P := Try.prog) 22 5 (.int .u8 0) 1 Try.underlying22 (by kernel_rfl) rfl .i64 .i64 n (by omega) (by omega)
  go_enter Try.func20, Try.ntmps20
  go_wp2_with fail
  refine Hcall.out.mono ?_
  rintro e w1 ⟨rfl, rfl⟩
  go_wp2_with fail
  refine (follow_Permutation n v c xs _ (fun k wr => Below w.heap.size w wr ∧ wr.rowIs w.heap.size 5 n (fun _ => .int .u8 0)) (fun k wr hr => h.ext hr.1) ⟨(Below.refl _ _).alloc (Nat.le_refl _) _, World.rowIs_made _ _ _ _⟩ ?st ?step (by omega) (by omega) z3 Hz4.out).mono ?_
  case st =>
    rintro k wr w' ⟨hb, hc⟩ hb'
    exact ⟨hb.trans (hb'.mono (by simp)), hc.of_block (hb'.block _ (by simp))⟩
  case step =>
    rintro k wr hk ⟨hb, hc⟩
    refine (Perm1_calls _ _ _ wr).mono ?_
    rintro e w' ⟨rfl, rfl⟩
    exact ⟨rfl, ⟨hb, hc⟩, Above.refl _ _⟩
  · rintro e w2 ⟨rfl, ⟨hb, hc⟩, hv, _⟩
    rw [← HA.out] at hv
    simp only [World.size_alloc] at hv
    have hHc : ∃ f, w2.rowIs w.heap.size 5 n f ∧ ∀ i, i < n → f i = .int .u8 (gi (invTo n A 0) i) := ⟨_, hc, fun i hi => by unfold invTo gi; simp [List.getD, hi]⟩
    have Hc := Lib.hid hHc
    have Hv := Lib.hid hv
    clear hv hc hHc
    go_wp2
    go_loopw [8, 9, 22] (fun _ _ i wr => ∃ k : Nat, k ≤ n ∧ i = .int .i64 k ∧ Below w.heap.size w wr ∧ Hid (wr.rowIs (w.heap.size + 1) 3 n (fun i => .int .i64 (gi A i))) ∧ Hid (∃ f, wr.rowIs w.heap.size 5 n f ∧ ∀ i, i < n → f i = .int .u8 (gi (invTo n A k) i))) (fun _ _ i _ => n - (intOf i).toNat)
    case atStart => exact ⟨0, Nat.zero_le _, rfl, hb, Hv, Hc⟩
    case round =>
      obtain ⟨k, hk, rfl, hb, Hv, Hrow⟩ := hrel
      by_cases hlt : k < n
      · have hck := Hv.out.cell (i := k) hlt
        obtain ⟨f, hrow, hf⟩ := Hrow.out
        obtain ⟨g1, g2⟩ := Hfb.out k hlt
        obtain ⟨m, hm⟩ : ∃ m : Nat, gi A k = m := ⟨(gi A k).toNat, by omega⟩
        have Hm := Lib.hid hm
        rw [hm] at hck g1 g2
        have hst := hrow.cell (i := m) (by omega)
        have hfz := hrow.frozen m
        have Hrow2 := Lib.hid hrow
        have Hf2 := Lib.hid hf
        clear hm hrow hf Hrow
        have e1 : (k : Int) + 1 ≤ 8 := by omega
        go_wp2
        go_roundw
        case rel => exact ⟨k + 1, by omega, by go_num, hb.setCell (Nat.le_refl _) _, Hv.out.setOther (by simp) _, _, Hrow2.out.set _ _, fun i hi => by
          have hl := invTo_len n A k
          rw [invTo_succ]; unfold invStep
          rw [gi_set _ _ _ _ (by rw [hl, Hm.out]; omega), Hm.out]
          by_cases e : i = m
          · subst e; simp
          · rw [if_neg e, if_neg (by simpa using e)]; exact Hf2.out i hi⟩
        case measure => simp [intOf]; omega
      · obtain rfl : k = n := by omega
        go_wp2
        go_ret2
        obtain ⟨f, hrow, hf⟩ := Hrow.out
        refine ⟨_, rfl, ?_, hb⟩
        rw [show permOf k xs = invTo k A k from by unfold permOf inv invTo; rw [HA.out]]
        exact IS.of_row hrow (invTo_len _ _ _).symm (by unfold maxLen; omega) hf

end Go.Proofs.Ytbappfeojdehgaa
