/- The law ShapesSlope, walked. -/
import Derived.Test.YtinijapkipeamaaDoorTp
import Derived.Test.YtinijapkipeamaaDoorTf
namespace Go.Proofs.YtinijapkipeamaaDoor
set_option linter.unusedVariables false
set_option linter.unusedSimpArgs false
set_option maxRecDepth 8000
open Go Go.RowKit

theorem sl_first {f t : Int} {N : Nat} (hN : 1 ≤ N) : sl f t N 0 = f := by
  have h := fun x => sl_iff (f := f) (t := t) (i := 0) hN x
  have e : ∀ x : Int, x * (2 * N) = 2 * (x * N) := fun x => by rw [Int.mul_left_comm]
  simp only [e, Int.natCast_zero, Int.mul_zero, Int.add_zero] at h
  have h1 := (h f).2 (by omega)
  rcases Int.lt_or_le f (sl f t N 0) with h2 | h2
  · have h3 := (h (f + 1)).1 (by omega)
    rw [Int.add_mul] at h3; omega
  · omega
theorem sl_last {f t : Int} {N : Nat} (hN : 1 ≤ N) : sl f t N N = t := by
  have h := fun x => sl_iff (f := f) (t := t) (i := N) hN x
  have e : ∀ x : Int, x * (2 * N) = 2 * (x * N) := fun x => by rw [Int.mul_left_comm]
  have e2 : f * (N : Int) + (t - f) * N = t * N := by rw [Int.sub_mul]; omega
  simp only [e, e2] at h
  have h1 := (h t).2 (by omega)
  rcases Int.lt_or_le t (sl f t N N) with h2 | h2
  · have h3 := (h (t + 1)).1 (by omega)
    rw [Int.add_mul] at h3; omega
  · omega
/-- Twice the distance from the line, in rows. -/
theorem sl_near {f t : Int} {N i : Nat} (hN : 1 ≤ N) : 2 * (N * sl f t N i - N * f - (t - f) * i) ≤ N ∧ -(N : Int) < 2 * (N * sl f t N i - N * f - (t - f) * i) := by
  have h1 := (sl_iff (f := f) (t := t) (i := i) hN (sl f t N i)).1 (Int.le_refl _)
  have h2 : ¬ sl f t N i + 1 ≤ sl f t N i := by omega
  rw [sl_iff hN] at h2
  have e : ∀ x : Int, x * (2 * N) = 2 * (N * x) := fun x => by rw [Int.mul_left_comm, Int.mul_comm x]
  rw [e] at h1 h2
  rw [Int.mul_add] at h2
  rw [Int.mul_comm f] at h1 h2
  omega

theorem Slope_out (f t r : Int) (w : World) (hy : Sy w) (hv : f < 2 ∨ 16 < f ∨ t < 2 ∨ 16 < t ∨ r < 1 ∨ 31 < r) : Calls Tryd.prog 4 #[.int .i64 f, .int .i64 t, .int .i64 r] w fun e w' => e = .returned (.bool true) ∧ Ext w w' := by
  have k1 := Slope_calls f t r w
  have he : serr f t r = 1 := by unfold serr; rw [if_pos hv]
  have hs : sres f t r = [] := by unfold sres; rw [if_neg (by omega)]
  rw [he, hs] at k1
  have K1 := Lib.hid k1
  have HL := Lib.hid (fun w' (x : Ext w w') => lives_calls w' (hy.ext x))
  clear he hs k1 hy
  rcases (show f < 2 ∨ (¬ f < 2 ∧ 16 < f) ∨ (¬ f < 2 ∧ ¬ 16 < f ∧ t < 2) ∨ (¬ f < 2 ∧ ¬ 16 < f ∧ ¬ t < 2 ∧ 16 < t) ∨ (¬ f < 2 ∧ ¬ 16 < f ∧ ¬ t < 2 ∧ ¬ 16 < t ∧ r < 1) ∨ (¬ f < 2 ∧ ¬ 16 < f ∧ ¬ t < 2 ∧ ¬ 16 < t ∧ ¬ r < 1 ∧ 31 < r) by omega) with h | ⟨h1, h2⟩ | ⟨h1, h2, h3⟩ | ⟨h1, h2, h3, h4⟩ | ⟨h1, h2, h3, h4, h5⟩ | ⟨h1, h2, h3, h4, h5, h6⟩
  all_goals
    clear hv
    go_enter Tryd.func4, Tryd.ntmps4
    go_wp2_with fail
    refine K1.out.mono ?_
    rintro e w1 ⟨v1, rfl, i1, x1⟩
    obtain ⟨a1, n1, c1, rfl, rfl, rfl, q1⟩ := i1.out
    have X1 := Lib.hid x1
    clear i1 q1 x1 K1
    go_wp2_with fail
    refine (HL.out _ X1.out).mono ?_
    rintro e w2 ⟨rfl, x2⟩
    have X2 := Lib.hid (X1.out.trans x2)
    clear x2 HL
    go_wp2
    go_ret
    exact ⟨rfl, X2.out⟩
theorem Slope_none (f t : Int) (N : Nat) (w : World) (hy : Sy w) (hf : 2 ≤ f ∧ f ≤ 16) (ht : 2 ≤ t ∧ t ≤ 16) (hN : 1 ≤ N ∧ N ≤ 31) (he : serr f t N = 14) : Calls Tryd.prog 4 #[.int .i64 f, .int .i64 t, .int .i64 N] w fun e w' => e = .returned (.bool true) ∧ Ext w w' := by
  have k1 := Slope_calls f t N w
  have k2 := fun w => RSlope_calls f t N w hf ht hN
  have hs : sres f t N = [] := by unfold sres; rw [if_neg (by omega)]
  rw [he, hs] at k1 k2
  have K1 := Lib.hid k1; have K2 := Lib.hid k2
  have HL := Lib.hid (fun w' (x : Ext w w') => lives_calls w' (hy.ext x))
  clear he hs k1 k2 hy
  obtain ⟨f1, f2⟩ := hf; obtain ⟨t1, t2⟩ := ht; obtain ⟨n1, n2⟩ := hN
  have g1 : ¬ f < 2 := by omega
  have g2 : ¬ 16 < f := by omega
  have g3 : ¬ t < 2 := by omega
  have g4 : ¬ 16 < t := by omega
  have g5 : ¬ (N : Int) < 1 := by omega
  have g6 : ¬ 31 < (N : Int) := by omega
  have g7 : ¬ (N : Int) = 0 := by omega
  go_enter Tryd.func4, Tryd.ntmps4
  go_wp2_with fail
  refine K1.out.mono ?_
  rintro e w1 ⟨v1, rfl, i1, x1⟩
  obtain ⟨a1, m1, c1, rfl, rfl, rfl, q1⟩ := i1.out
  have X1 := Lib.hid x1; have I1 := Lib.hid i1
  clear i1 q1 x1 K1
  go_wp2_with fail
  refine (K2.out _).mono ?_
  rintro e w2 ⟨v2, c2, rfl, i2, x2⟩
  have q := same_calls _ v2 _ c2 _ _ w2 (I1.out.ext x2) i2
  rw [show sm [] [] = 0 from rfl] at q
  have X2 := Lib.hid (X1.out.trans x2); have Q := Lib.hid q
  clear i2 x2 q K2
  go_wp2_with fail
  refine Q.out.mono ?_
  rintro e w3 ⟨rfl, x3⟩
  have X3 := Lib.hid (X2.out.trans x3)
  clear x3 Q
  go_wp2
  go_loopw [11, 12] (fun i _ wr => i = .int .i64 0 ∧ Hid (Ext w wr)) (fun _ _ _ => 0)
  case atStart => exact ⟨rfl, X3⟩
  case round =>
    obtain ⟨rfl, HX⟩ := hrel
    go_wp2_with fail
    refine (HL.out _ HX.out).mono ?_
    rintro e w4 ⟨rfl, x4⟩
    have X4 := Lib.hid (HX.out.trans x4)
    clear x4 HL
    go_wp2
    go_ret
    exact ⟨rfl, X4.out⟩
set_option maxHeartbeats 2000000 in
theorem Slope_some (f t : Int) (N : Nat) (w : World) (hy : Sy w) (hf : 2 ≤ f ∧ f ≤ 16) (ht : 2 ≤ t ∧ t ≤ 16) (hN : 1 ≤ N ∧ N ≤ 31) (he : serr f t N = 0) : Calls Tryd.prog 4 #[.int .i64 f, .int .i64 t, .int .i64 N] w fun e w' => e = .returned (.bool true) ∧ Ext w w' := by
  have k1 := Slope_calls f t N w
  have k2 := fun w => RSlope_calls f t N w hf ht hN
  have hs : sres f t N = smk f t N := by unfold sres; rw [if_pos he, Int.toNat_natCast]
  rw [he, hs] at k1 k2
  have hbd := fun i (hi : i ≤ N) => sl_bd (i := i) hf ht hN.1 hi
  have hpr := fun i (hi : i ≤ N) => sl_pr (N := N) (i := i) hf ht hi
  have hnr := fun i => sl_near (f := f) (t := t) (i := i) hN.1
  have hgi := fun i (hi : i ≤ N) => smk_gi (f := f) (t := t) hi
  have h0 := sl_first (f := f) (t := t) hN.1
  have h9 := sl_last (f := f) (t := t) hN.1
  have hl := smk_len f t N
  have K1 := Lib.hid k1; have K2 := Lib.hid k2; have HB := Lib.hid hbd; have HP := Lib.hid hpr; have HN := Lib.hid hnr; have HG := Lib.hid hgi; have H0 := Lib.hid h0; have H9 := Lib.hid h9; have HLn := Lib.hid hl
  have HL := Lib.hid (fun w' (x : Ext w w') => lives_calls w' (hy.ext x))
  clear he hs k1 k2 hy hbd hpr hnr hgi h0 h9 hl
  obtain ⟨f1, f2⟩ := hf; obtain ⟨t1, t2⟩ := ht; obtain ⟨n1, n2⟩ := hN
  have g1 : ¬ f < 2 := by omega
  have g2 : ¬ 16 < f := by omega
  have g3 : ¬ t < 2 := by omega
  have g4 : ¬ 16 < t := by omega
  have g5 : ¬ (N : Int) < 1 := by omega
  have g6 : ¬ 31 < (N : Int) := by omega
  have g7 : ¬ (N : Int) = 0 := by omega
  go_enter Tryd.func4, Tryd.ntmps4
  go_wp2_with fail
  refine K1.out.mono ?_
  rintro e w1 ⟨v1, rfl, i1, x1⟩
  obtain ⟨a1, m1, c1, rfl, hm1, hc1, q1⟩ := i1.out
  rw [HLn.out] at hm1 hc1
  subst hm1; subst hc1
  have X1 := Lib.hid x1; have I1 := Lib.hid i1
  clear i1 q1 x1 K1
  go_wp2_with fail
  refine (K2.out _).mono ?_
  rintro e w2 ⟨v2, c2, rfl, i2, x2⟩
  have q := same_calls _ v2 _ c2 _ _ w2 (I1.out.ext x2) i2
  rw [show sm (smk f t N) (smk f t N) = 0 from if_pos rfl] at q
  have X2 := Lib.hid (X1.out.trans x2); have Q := Lib.hid q; have I2 := Lib.hid (I1.out.ext x2)
  clear i2 x2 q K2 I1 X1
  go_wp2_with fail
  refine Q.out.mono ?_
  rintro e w3 ⟨rfl, x3⟩
  have X3 := Lib.hid (X2.out.trans x3); have I3 := Lib.hid (I2.out.ext x3)
  clear x3 Q I2 X2
  have hn1 : ((N + 1 : Nat) : Int) = (N : Int) + 1 := by omega
  go_wp2
  go_loopw [11, 12] (fun i _ wr => ∃ k : Nat, k ≤ N + 1 ∧ i = .int .i64 k ∧ Hid (Ext w3 wr)) (fun i _ _ => N + 1 - (intOf i).toNat)
  case atStart => exact ⟨0, by omega, rfl, Lib.hid (Ext.refl _)⟩
  case round =>
    obtain ⟨k, hk, rfl, HX⟩ := hrel
    by_cases hlt : k < N + 1
    · obtain ⟨b, o, rfl, hc⟩ := I3.out.at hlt
      replace hc := HX.out.cell (hc k hlt)
      rw [HG.out k (by omega)] at hc
      obtain ⟨p1, p2, p3, p4, p5, p6⟩ := HP.out k (by omega)
      obtain ⟨s1, s2⟩ := HB.out k (by omega)
      obtain ⟨r1, r2⟩ := HN.out k
      generalize sl f t N k = S at *
      have m1 : 0 ≤ (N : Int) * S ∧ (N : Int) * S ≤ 31 * 16 := ⟨Int.mul_nonneg (by omega) (by omega), Int.mul_le_mul (by omega) (by omega) (by omega) (by omega)⟩
      have m2 : (N : Int) * f = f * N := Int.mul_comm _ _
      have w1 : IntKind.i64.wrap ((N : Int) * S) = (N : Int) * S := IntWalk.i64_in _ ⟨by omega, by omega⟩
      have w2 : IntKind.i64.wrap ((N : Int) * f) = (N : Int) * f := IntWalk.i64_in _ ⟨by omega, by omega⟩
      have w3 : IntKind.i64.wrap ((N : Int) * S - (N : Int) * f) = (N : Int) * S - (N : Int) * f := IntWalk.i64_in _ ⟨by omega, by omega⟩
      have w4 : IntKind.i64.wrap (t - f) = t - f := IntWalk.i64_in _ ⟨by omega, by omega⟩
      have w5 : IntKind.i64.wrap ((t - f) * (k : Int)) = (t - f) * (k : Int) := IntWalk.i64_in _ ⟨by omega, by omega⟩
      have w6 : IntKind.i64.wrap ((N : Int) * S - (N : Int) * f - (t - f) * (k : Int)) = (N : Int) * S - (N : Int) * f - (t - f) * (k : Int) := IntWalk.i64_in _ ⟨by omega, by omega⟩
      have w7 : IntKind.i64.wrap (2 * ((N : Int) * S - (N : Int) * f - (t - f) * (k : Int))) = 2 * ((N : Int) * S - (N : Int) * f - (t - f) * (k : Int)) := IntWalk.i64_in _ ⟨by omega, by omega⟩
      have w8 : IntKind.i64.wrap (-(N : Int)) = -(N : Int) := IntWalk.i64_in _ ⟨by omega, by omega⟩
      have u1 : ¬ (N : Int) < 2 * ((N : Int) * S - (N : Int) * f - (t - f) * (k : Int)) := by omega
      have u2 : ¬ 2 * ((N : Int) * S - (N : Int) * f - (t - f) * (k : Int)) ≤ -(N : Int) := by omega
      have k1 : (k : Int) < (N : Int) + 1 := by omega
      clear p1 p2 p3 p4 p5 p6 r1 r2 m1 m2
      go_wp2
      go_roundw
      case rel => exact ⟨k + 1, by omega, by go_num, HX⟩
      case measure => simp [intOf]; omega
    · obtain rfl : k = N + 1 := by omega
      obtain ⟨b, o, rfl, hc⟩ := I3.out.at (show 0 < N + 1 by omega)
      have c0 := HX.out.cell (hc 0 (by omega))
      have c9 := HX.out.cell (hc N (by omega))
      rw [HG.out 0 (by omega), H0.out, Nat.add_zero] at c0
      rw [HG.out N (by omega), H9.out] at c9
      have k0 : (0 : Int) < (N : Int) + 1 := by omega
      have k1 : (N : Int) < (N : Int) + 1 := by omega
      have k2 : (0 : Int) ≤ (N : Int) := by omega
      clear hlt hk hc
      go_wp2_with fail
      refine (HL.out _ (X3.out.trans HX.out)).mono ?_
      rintro e w4 ⟨rfl, x4⟩
      have X4 := Lib.hid (X3.out.trans (HX.out.trans x4))
      clear x4 HL
      go_wp2
      go_ret
      exact ⟨rfl, X4.out⟩
theorem ShapesSlope_walk (f t r : Int) (w : World) (hy : Sy w) : Calls Tryd.prog 4 #[.int .i64 f, .int .i64 t, .int .i64 r] w fun e w' => e = .returned (.bool true) ∧ Ext w w' := by
  by_cases hv : f < 2 ∨ 16 < f ∨ t < 2 ∨ 16 < t ∨ r < 1 ∨ 31 < r
  · exact Slope_out f t r w hy hv
  · obtain ⟨N, rfl⟩ : ∃ N : Nat, r = N := ⟨r.toNat, by omega⟩
    have hc : serr f t N = 0 ∨ serr f t N = 14 := by
      unfold serr jmp; rw [if_neg hv]; split <;> simp
    rcases hc with h | h
    · exact Slope_some f t N w hy (by omega) (by omega) (by omega) h
    · exact Slope_none f t N w hy (by omega) (by omega) (by omega) h
end Go.Proofs.YtinijapkipeamaaDoor
