/- ganseyref19.Slope. -/
import Derived.Test.YtinijapkipeamaaDoorTe
namespace Go.Proofs.YtinijapkipeamaaDoor
set_option linter.unusedVariables false
set_option linter.unusedSimpArgs false
set_option maxRecDepth 8000
open Go Go.RowKit

/-- A slice of numbers of some capacity, and an error. -/
def RetAE (w0 : World) (xs : List Int) (err : Int) (e : Ending) (w' : World) : Prop := ∃ v c, e = .returned (.tuple #[v, .int .i64 err]) ∧ IS .i64 w' v c xs ∧ Ext w0 w'
def mn (S : Int) (j : Nat) : Int := if S ≤ j then S else j
def smT (f t : Int) (N k : Nat) : List Int := (List.range k).map (sl f t N)
theorem smT_succ (f t : Int) (N k : Nat) : (smT f t N (k + 1)).map (Value.int .i64) = (smT f t N k).map (Value.int .i64) ++ [.int .i64 (sl f t N k)] := by
  unfold smT; rw [List.range_succ]; simp
theorem smT_len (f t : Int) (N k : Nat) : (smT f t N k).length = k := by simp [smT]

set_option maxHeartbeats 2000000 in
theorem RSlope_calls (f t : Int) (N : Nat) (w : World) (hf : 2 ≤ f ∧ f ≤ 16) (ht : 2 ≤ t ∧ t ≤ 16) (hN : 1 ≤ N ∧ N ≤ 31) : Calls Tryd.prog 18 #[.int .i64 f, .int .i64 t, .int .i64 N] w (RetAE w (sres f t N) (serr f t N)) := by
  have he : serr f t N = jmp (smk f t N) := by unfold serr; rw [if_neg (by omega), Int.toNat_natCast]
  have hs : sres f t N = if serr f t N = 0 then smk f t N else [] := by unfold sres; rw [Int.toNat_natCast]
  have hJ : ∀ w' v c, IS .i64 w' v c (smk f t N) → Calls Tryd.prog 32 #[v] w' fun e w'' => e = .returned (.int .i64 (serr f t N)) ∧ Ext w' w'' := fun w' v c h => by
    rw [he]
    refine Jumps_calls v c _ w' h (fun i hi => ?_)
    rw [smk_len] at hi
    rw [smk_gi (by omega)]
    have := sl_bd (i := i) hf ht hN.1 (by omega)
    omega
  have hbd := fun i (hi : i ≤ N) => sl_bd (i := i) hf ht hN.1 hi
  have hpr := fun i (hi : i ≤ N) => sl_pr (N := N) (i := i) hf ht hi
  have hif := fun i (x : Int) => sl_iff (f := f) (t := t) (i := i) hN.1 x
  have hend : ∀ w' v c, IS .i64 w' v c (smk f t N) → Ext w w' → serr f t N = 0 → RetAE w (sres f t N) (serr f t N) (.returned (.tuple #[v, .int .i64 0])) w' := fun w' v c h x e0 => by
    rw [hs, if_pos e0, e0]; exact ⟨v, c, rfl, h, x⟩
  have hbad : ∀ w', Ext w w' → serr f t N ≠ 0 → RetAE w (sres f t N) (serr f t N) (.returned (.tuple #[.slice none 0 0, .int .i64 14])) w' := fun w' x e0 => by
    have e14 : serr f t N = 14 := by rw [he] at e0 ⊢; unfold jmp at e0 ⊢; split at e0 <;> simp_all
    rw [hs, if_neg e0, e14]; exact ⟨_, 0, rfl, IS.nil _ _, x⟩
  have HJ := Lib.hid hJ; have HBd := Lib.hid hbd; have HPr := Lib.hid hpr; have HIf := Lib.hid hif; have HE := Lib.hid hend; have HB := Lib.hid hbad
  obtain ⟨f1, f2⟩ := hf; obtain ⟨t1, t2⟩ := ht; obtain ⟨n1, n2⟩ := hN
  clear hJ hbd hpr hif hend hbad he hs
  go_enter Tryd.func18, Tryd.ntmps18
  go_wp2
  go_loopw [8, 9, 10, 11] (fun v i _ _ wr => ∃ k : Nat, k ≤ N + 1 ∧ i = .int .i64 k ∧ Hid (wr.ownsRow w.heap.size 3 1 v k ((smT f t N k).map (Value.int .i64)) ∧ Ext w wr)) (fun _ i _ _ _ => N + 1 - (intOf i).toNat)
  case atStart => exact ⟨0, Nat.zero_le _, rfl, Lib.hid ⟨World.ownsRow_nil _ _ _ _, Ext.refl _⟩⟩
  case round =>
    obtain ⟨k, hk, rfl, H⟩ := hrel
    by_cases hlt : k ≤ N
    · obtain ⟨p1, p2, p3, p4, p5, p6⟩ := HPr.out k hlt
      obtain ⟨s1, s2⟩ := HBd.out k hlt
      have hif := HIf.out k
      have hsn := smT_succ f t N k
      generalize sl f t N k = S at *
      have HIf2 := Lib.hid hif; have HSn := Lib.hid hsn
      have e1 : (2 * (N : Int)) * f = 2 * (f * N) := by rw [Int.mul_assoc, Int.mul_comm (N : Int) f]
      have e2 : (2 * (t - f)) * (k : Int) = 2 * ((t - f) * k) := Int.mul_assoc _ _ _
      have E1 := Lib.hid e1; have E2 := Lib.hid e2
      have w1 : IntKind.i64.wrap (2 * (N : Int)) = 2 * N := IntWalk.i64_in _ ⟨by omega, by omega⟩
      have w2 : IntKind.i64.wrap ((2 * (N : Int)) * f) = (2 * (N : Int)) * f := IntWalk.i64_in _ ⟨by omega, by omega⟩
      have w3 : IntKind.i64.wrap (t - f) = t - f := IntWalk.i64_in _ ⟨by omega, by omega⟩
      have w4 : IntKind.i64.wrap (2 * (t - f)) = 2 * (t - f) := IntWalk.i64_in _ ⟨by omega, by omega⟩
      have w5 : IntKind.i64.wrap ((2 * (t - f)) * (k : Int)) = (2 * (t - f)) * (k : Int) := IntWalk.i64_in _ ⟨by omega, by omega⟩
      have w6 : IntKind.i64.wrap ((2 * (N : Int)) * f + (2 * (t - f)) * (k : Int)) = (2 * (N : Int)) * f + (2 * (t - f)) * (k : Int) := IntWalk.i64_in _ ⟨by omega, by omega⟩
      have w7 : IntKind.i64.wrap ((2 * (N : Int)) * f + (2 * (t - f)) * (k : Int) + N) = (2 * (N : Int)) * f + (2 * (t - f)) * (k : Int) + N := IntWalk.i64_in _ ⟨by omega, by omega⟩
      have k1 : (k : Int) ≤ N := by omega
      clear hif hsn e1 e2
      go_wp2
      go_loop [10, 11] (fun b x => ∃ j : Nat, j ≤ 17 ∧ x = .int .i64 ((j : Int) + 1) ∧ b = .int .i64 (mn S j)) (fun _ x => 19 - (intOf x).toNat)
      case atStart => exact ⟨0, by omega, rfl, by unfold mn; rw [if_neg (by omega)]; rfl⟩
      case round =>
        obtain ⟨j, hj, rfl, rfl⟩ := hrel
        by_cases hj2 : j < 17
        · have j1 : (j : Int) + 1 ≤ 17 := by omega
          have hi := HIf2.out ((j : Int) + 1)
          have hz : (2 * (N : Int)) * ((j : Int) + 1) = ((j : Int) + 1) * (2 * N) := Int.mul_comm _ _
          have hzb : 0 ≤ (2 * (N : Int)) * ((j : Int) + 1) ∧ (2 * (N : Int)) * ((j : Int) + 1) ≤ (2 * (N : Int)) * 17 := ⟨Int.mul_nonneg (by omega) (by omega), Int.mul_le_mul_of_nonneg_left j1 (by omega)⟩
          have w8 : IntKind.i64.wrap ((2 * (N : Int)) * ((j : Int) + 1)) = (2 * (N : Int)) * ((j : Int) + 1) := IntWalk.i64_in _ ⟨by omega, by omega⟩
          by_cases hc : (j : Int) + 1 ≤ S
          · have c1 : (2 * (N : Int)) * ((j : Int) + 1) ≤ (2 * (N : Int)) * f + (2 * (t - f)) * (k : Int) + N := by
              have := hi.1 hc; have := E1.out; have := E2.out; omega
            have hm := Lib.hid (show (j : Int) + 1 = mn S (j + 1) by unfold mn; split <;> omega)
            clear hi hz hzb
            go_wp2
            go_round
            case rel => exact ⟨j + 1, by omega, by go_num, by rw [← hm.out]⟩
            case measure => simp [intOf]; omega
          · have c1 : ¬ (2 * (N : Int)) * ((j : Int) + 1) ≤ (2 * (N : Int)) * f + (2 * (t - f)) * (k : Int) + N := fun h => by
              apply hc; rw [hi]; have := E1.out; have := E2.out; omega
            have hm := Lib.hid (show mn S j = mn S (j + 1) by unfold mn; rw [if_pos (by omega), if_pos (by omega)])
            clear hi hz hzb
            go_wp2
            go_round
            case rel => exact ⟨j + 1, by omega, by go_num, by rw [← hm.out]⟩
            case measure => simp [intOf]; omega
        · obtain rfl : j = 17 := by omega
          have hm : mn S 17 = S := by unfold mn; rw [if_pos (by omega)]
          rw [hm]
          clear hm hj2 w1 w2 w3 w4 w5 w6 w7
          have hsz := H.out.2.size
          go_wp2_with (at_builtin; refine app_own eiInt rfl _ _ rfl w.heap.size _ k _ rfl (H.out.1.alloc _) _ _ _ rfl (VS.one _ _ _) (one1 _) ?d1 ?d2 ?d3 ?_)
          any_goals (first | omega | (simp; done) | (simp only [List.length_cons, List.length_nil]; omega) | (simp; omega))
          intro v' w' hown hbel
          have HO := Lib.hid (And.intro hown hbel)
          clear hown hbel
          go_wp2
          go_roundw
          case rel =>
            refine ⟨k + 1, by omega, by go_num, Lib.hid ⟨?_, Below.trans (H.out.2.alloc _) HO.out.2⟩⟩
            rw [HSn.out]
            exact HO.out.1
          case measure => simp [intOf]; omega
    · obtain rfl : k = N + 1 := by omega
      obtain ⟨c, hI⟩ := IS.of_own (k := .i64) H.out.1
      have hX := H.out.2
      have hcall := HJ.out wr _ c hI
      have hE := fun w' (x : Ext wr w') => HE.out w' _ c (hI.ext x) (hX.trans x)
      have hB := fun w' (x : Ext wr w') => HB.out w' (hX.trans x)
      obtain ⟨q, hq'⟩ : ∃ q, q = serr f t N := ⟨_, rfl⟩
      rw [← hq'] at hcall hE hB
      have HQ := Lib.hid hq'
      clear hq'
      have HC := Lib.hid hcall; have HE2 := Lib.hid hE; have HB2 := Lib.hid hB
      have k1 : ¬ ((N : Int) + 1 ≤ N) := by omega
      clear hcall hE hB hI hX H HE HB HJ HBd HPr HIf
      go_wp2_with fail
      refine HC.out.mono ?_
      rintro e w1 ⟨rfl, x1⟩
      have X1 := Lib.hid x1
      clear x1 HC
      by_cases hq : q = 0
      · have tq : (q != 0) = false := by rw [bne, beq_iff_eq.2 hq]; rfl
        have HF := Lib.hid (HE2.out _ X1.out hq)
        clear hq HE2 HB2
        go_wp2
        go_ret2
        have h := HF.out
        rw [HQ.out] at h
        exact h
      · have tq : (q != 0) = true := by rw [bne, beq_eq_false_iff_ne.2 hq]; rfl
        have HF := Lib.hid (HB2.out _ X1.out hq)
        clear hq HE2 HB2
        go_wp2
        go_ret2
        have h := HF.out
        rw [HQ.out] at h
        exact h
end Go.Proofs.YtinijapkipeamaaDoor
