/- The law ShapesBack, walked. -/
import Derived.Test.YtinijapkipeamaaDoorUa
namespace Go.Proofs.YtinijapkipeamaaDoor
set_option linter.unusedVariables false
set_option linter.unusedSimpArgs false
set_option maxRecDepth 8000
open Go Go.RowKit

theorem sl_back {f t : Int} {N i : Nat} (hi : i ≤ N) : sl t f N (N - i) = sl f t N i := by
  unfold sl
  have e : t * (N : Int) + (f - t) * ((N - i : Nat) : Int) = f * N + (t - f) * i := by
    obtain ⟨j, rfl⟩ : ∃ j, N = i + j := ⟨N - i, by omega⟩
    rw [Nat.add_sub_cancel_left, Int.natCast_add, Int.mul_add, Int.mul_add, Int.sub_mul, Int.sub_mul]
    omega
  rw [e]
theorem sl_step {f t : Int} {N i : Nat} (hN : 1 ≤ N) (hd : t - f ≤ 2 * N ∧ f - t ≤ 2 * N) : sl f t N (i + 1) - sl f t N i ≤ 2 ∧ -2 ≤ sl f t N (i + 1) - sl f t N i := by
  have e : ∀ x : Int, x * (2 * N) = 2 * (N * x) := fun x => by rw [Int.mul_left_comm, Int.mul_comm x]
  have eN : (t - f) * ((i + 1 : Nat) : Int) = (t - f) * i + (t - f) := by rw [Int.natCast_add, Int.mul_add]; simp
  have a1 := (sl_iff (f := f) (t := t) (i := i) hN (sl f t N i)).1 (Int.le_refl _)
  have a2 : ¬ sl f t N i + 1 ≤ sl f t N i := by omega
  have b1 := (sl_iff (f := f) (t := t) (i := i + 1) hN (sl f t N (i + 1))).1 (Int.le_refl _)
  have b2 : ¬ sl f t N (i + 1) + 1 ≤ sl f t N (i + 1) := by omega
  rw [sl_iff hN] at a2 b2
  have c1 := sl_iff (f := f) (t := t) (i := i) hN (sl f t N (i + 1) - 2)
  have c2 := sl_iff (f := f) (t := t) (i := i + 1) hN (sl f t N i - 2)
  rw [e] at a1 a2 b1 b2 c1 c2
  rw [eN] at b1 b2 c2
  rw [Int.mul_add] at a2 b2
  rw [Int.mul_sub] at c1 c2
  constructor
  · have := c1.2 (by omega); omega
  · have := c2.2 (by omega); omega
theorem serr_eq {f t : Int} {N : Nat} (hf : 2 ≤ f ∧ f ≤ 16) (ht : 2 ≤ t ∧ t ≤ 16) (hN : 1 ≤ N ∧ N ≤ 31) : serr f t N = jmp (smk f t N) := by unfold serr; rw [if_neg (by omega), Int.toNat_natCast]
theorem serr_near {f t : Int} {N : Nat} (hf : 2 ≤ f ∧ f ≤ 16) (ht : 2 ≤ t ∧ t ≤ 16) (hN : 1 ≤ N ∧ N ≤ 31) (hd : t - f ≤ 2 * N ∧ f - t ≤ 2 * N) : serr f t N = 0 := by
  rw [serr_eq hf ht hN]
  refine jmp_ok fun i hi => ?_
  rw [smk_len] at hi
  rw [smk_gi (by omega), smk_gi (by omega)]
  have := sl_step (f := f) (t := t) (i := i) hN.1 hd
  unfold far; simp; omega
theorem serr_far {f t : Int} {N : Nat} (hf : 2 ≤ f ∧ f ≤ 16) (ht : 2 ≤ t ∧ t ≤ 16) (hN : 1 ≤ N ∧ N ≤ 31) (hd : 2 * (N : Int) < t - f ∨ 2 * (N : Int) < f - t) : serr f t N = 14 := by
  have hc : serr f t N = 0 ∨ serr f t N = 14 := by rw [serr_eq hf ht hN]; unfold jmp; split <;> simp
  rcases hc with h | h
  · exfalso
    have hs : ∀ i, i < N → far (sl f t N i) (sl f t N (i + 1)) = false := fun i hi => by
      cases hb : far (sl f t N i) (sl f t N (i + 1))
      · rfl
      · have := jmp_bad (l := smk f t N) (i := i) (by rw [smk_len]; omega) (by rw [smk_gi (by omega), smk_gi (by omega)]; exact hb)
        rw [serr_eq hf ht hN] at h; omega
    have hk : ∀ k : Nat, k ≤ N → sl f t N k - f ≤ 2 * k ∧ f - sl f t N k ≤ 2 * k := fun k => by
      induction k with
      | zero => intro _; rw [sl_first hN.1]; omega
      | succ k ih =>
        intro hk
        have a := ih (by omega)
        have b := hs k (by omega)
        unfold far at b; simp at b; omega
    have := hk N (Nat.le_refl _)
    rw [sl_last hN.1] at this
    omega
  · exact h
set_option maxHeartbeats 2000000 in
theorem Back_far (a b n : Int) (w : World) (hy : Sy w) (ha : 0 ≤ a ∧ a ≤ 255) (hb : 0 ≤ b ∧ b ≤ 255) (hn : 0 ≤ n ∧ n ≤ 255) (F T : Int) (N : Nat) (hF : 2 + a % 15 = F) (hT : 2 + b % 15 = T) (hNn : 1 + n % 31 = N) (hd : 2 * (N : Int) < T - F ∨ 2 * (N : Int) < F - T) :
    Calls Tryd.prog 5 #[.int .u8 a, .int .u8 b, .int .u8 n] w fun e w' => e = .returned (.bool true) ∧ Ext w w' := by
  have hf : 2 ≤ F ∧ F ≤ 16 := by omega
  have ht : 2 ≤ T ∧ T ≤ 16 := by omega
  have hN : 1 ≤ N ∧ N ≤ 31 := by omega
  have k1 := fun w => Slope_calls F T N w
  have k2 := fun w => Slope_calls T F N w
  have e1 := serr_far hf ht hN hd
  have e2 := serr_far ht hf hN hd.symm
  have s1 : sres F T N = [] := by unfold sres; rw [if_neg (by omega)]
  have s2 : sres T F N = [] := by unfold sres; rw [if_neg (by omega)]
  rw [e1, s1] at k1; rw [e2, s2] at k2
  have K1 := Lib.hid k1; have K2 := Lib.hid k2
  have HL := Lib.hid (fun w' (x : Ext w w') => lives_calls w' (hy.ext x))
  have w1 : IntKind.u8.wrap (a % 15) = a % 15 := IntWalk.u8_in _ ⟨by omega, by omega⟩
  have w2 : IntKind.u8.wrap (b % 15) = b % 15 := IntWalk.u8_in _ ⟨by omega, by omega⟩
  have w3 : IntKind.u8.wrap (n % 31) = n % 31 := IntWalk.u8_in _ ⟨by omega, by omega⟩
  have w4 : IntKind.i64.wrap (a % 15) = a % 15 := IntWalk.i64_in _ ⟨by omega, by omega⟩
  have w5 : IntKind.i64.wrap (b % 15) = b % 15 := IntWalk.i64_in _ ⟨by omega, by omega⟩
  have w6 : IntKind.i64.wrap (n % 31) = n % 31 := IntWalk.i64_in _ ⟨by omega, by omega⟩
  have w7 : IntKind.i64.wrap (2 + a % 15) = F := by rw [hF]; exact IntWalk.i64_in _ ⟨by omega, by omega⟩
  have w8 : IntKind.i64.wrap (2 + b % 15) = T := by rw [hT]; exact IntWalk.i64_in _ ⟨by omega, by omega⟩
  have w9 : IntKind.i64.wrap (1 + n % 31) = N := by rw [hNn]; exact IntWalk.i64_in _ ⟨by omega, by omega⟩
  have v1 : IntKind.i64.wrap (T - F) = T - F := IntWalk.i64_in _ ⟨by omega, by omega⟩
  have v2 : IntKind.i64.wrap (F - T) = F - T := IntWalk.i64_in _ ⟨by omega, by omega⟩
  have v3 : IntKind.i64.wrap (2 * (N : Int)) = 2 * (N : Int) := IntWalk.i64_in _ ⟨by omega, by omega⟩
  obtain ⟨a1, a2⟩ := ha; obtain ⟨b1, b2⟩ := hb; obtain ⟨n1, n2⟩ := hn
  clear k1 k2 e1 e2 s1 s2 hy hF hT hNn
  go_enter Tryd.func5, Tryd.ntmps5
  go_wp2_with fail
  refine (K1.out _).mono ?_
  rintro e w1 ⟨v1, rfl, i1, x1⟩
  have X1 := Lib.hid x1
  clear i1 x1 K1
  go_wp2_with fail
  refine (K2.out _).mono ?_
  rintro e w2 ⟨v2, rfl, i2, x2⟩
  have X2 := Lib.hid (X1.out.trans x2)
  clear i2 x2 K2 X1
  by_cases h1 : 2 * (N : Int) < T - F
  · clear hd
    go_wp2_with fail
    refine (HL.out _ X2.out).mono ?_
    rintro e w3 ⟨rfl, x3⟩
    have X3 := Lib.hid (X2.out.trans x3)
    clear x3 HL
    go_wp2
    go_ret
    exact ⟨rfl, X3.out⟩
  · have h2 : 2 * (N : Int) < F - T := by omega
    clear hd
    go_wp2_with fail
    refine (HL.out _ X2.out).mono ?_
    rintro e w3 ⟨rfl, x3⟩
    have X3 := Lib.hid (X2.out.trans x3)
    clear x3 HL
    go_wp2
    go_ret
    exact ⟨rfl, X3.out⟩
set_option maxHeartbeats 2000000 in
theorem Back_near (a b n : Int) (w : World) (hy : Sy w) (ha : 0 ≤ a ∧ a ≤ 255) (hb : 0 ≤ b ∧ b ≤ 255) (hn : 0 ≤ n ∧ n ≤ 255) (F T : Int) (N : Nat) (hF : 2 + a % 15 = F) (hT : 2 + b % 15 = T) (hNn : 1 + n % 31 = N) (hd : T - F ≤ 2 * N ∧ F - T ≤ 2 * N) :
    Calls Tryd.prog 5 #[.int .u8 a, .int .u8 b, .int .u8 n] w fun e w' => e = .returned (.bool true) ∧ Ext w w' := by
  have hf : 2 ≤ F ∧ F ≤ 16 := by omega
  have ht : 2 ≤ T ∧ T ≤ 16 := by omega
  have hN : 1 ≤ N ∧ N ≤ 31 := by omega
  have k1 := fun w => Slope_calls F T N w
  have k2 := fun w => Slope_calls T F N w
  have e1 := serr_near hf ht hN hd
  have e2 := serr_near ht hf hN hd.symm
  have s1 : sres F T N = smk F T N := by unfold sres; rw [if_pos e1, Int.toNat_natCast]
  have s2 : sres T F N = smk T F N := by unfold sres; rw [if_pos e2, Int.toNat_natCast]
  rw [e1, s1] at k1; rw [e2, s2] at k2
  have hl1 := smk_len F T N
  have hl2 := smk_len T F N
  have hg1 := fun i (hi : i ≤ N) => smk_gi (f := F) (t := T) hi
  have hg2 : ∀ i, i ≤ N → gi (smk T F N) (N - i) = sl F T N i := fun i hi => by rw [smk_gi (by omega)]; exact sl_back hi
  have K1 := Lib.hid k1; have K2 := Lib.hid k2; have HG1 := Lib.hid hg1; have HG2 := Lib.hid hg2; have HL1 := Lib.hid hl1; have HL2 := Lib.hid hl2
  have HL := Lib.hid (fun w' (x : Ext w w') => lives_calls w' (hy.ext x))
  have w1 : IntKind.u8.wrap (a % 15) = a % 15 := IntWalk.u8_in _ ⟨by omega, by omega⟩
  have w2 : IntKind.u8.wrap (b % 15) = b % 15 := IntWalk.u8_in _ ⟨by omega, by omega⟩
  have w3 : IntKind.u8.wrap (n % 31) = n % 31 := IntWalk.u8_in _ ⟨by omega, by omega⟩
  have w4 : IntKind.i64.wrap (a % 15) = a % 15 := IntWalk.i64_in _ ⟨by omega, by omega⟩
  have w5 : IntKind.i64.wrap (b % 15) = b % 15 := IntWalk.i64_in _ ⟨by omega, by omega⟩
  have w6 : IntKind.i64.wrap (n % 31) = n % 31 := IntWalk.i64_in _ ⟨by omega, by omega⟩
  have w7 : IntKind.i64.wrap (2 + a % 15) = F := by rw [hF]; exact IntWalk.i64_in _ ⟨by omega, by omega⟩
  have w8 : IntKind.i64.wrap (2 + b % 15) = T := by rw [hT]; exact IntWalk.i64_in _ ⟨by omega, by omega⟩
  have w9 : IntKind.i64.wrap (1 + n % 31) = N := by rw [hNn]; exact IntWalk.i64_in _ ⟨by omega, by omega⟩
  have v1 : IntKind.i64.wrap (T - F) = T - F := IntWalk.i64_in _ ⟨by omega, by omega⟩
  have v2 : IntKind.i64.wrap (F - T) = F - T := IntWalk.i64_in _ ⟨by omega, by omega⟩
  have v3 : IntKind.i64.wrap (2 * (N : Int)) = 2 * (N : Int) := IntWalk.i64_in _ ⟨by omega, by omega⟩
  have v4 : IntKind.i64.wrap ((N : Int) + 1) = (N : Int) + 1 := IntWalk.i64_in _ ⟨by omega, by omega⟩
  have d1 : ¬ 2 * (N : Int) < T - F := by omega
  have d2 : ¬ 2 * (N : Int) < F - T := by omega
  have hn1 : ((N + 1 : Nat) : Int) = (N : Int) + 1 := by omega
  obtain ⟨a1, a2⟩ := ha; obtain ⟨b1, b2⟩ := hb; obtain ⟨n1, n2⟩ := hn
  clear k1 k2 e1 e2 s1 s2 hy hF hT hNn hg1 hg2 hl1 hl2 hd
  go_enter Tryd.func5, Tryd.ntmps5
  go_wp2_with fail
  refine (K1.out _).mono ?_
  rintro e w1 ⟨v1, rfl, i1, x1⟩
  obtain ⟨p1, m1, c1, rfl, hm1, hc1, q1⟩ := i1.out
  rw [HL1.out] at hm1 hc1
  subst hm1; subst hc1
  have X1 := Lib.hid x1; have I1 := Lib.hid i1
  clear i1 x1 K1 q1
  go_wp2_with fail
  refine (K2.out _).mono ?_
  rintro e w2 ⟨v2, rfl, i2, x2⟩
  obtain ⟨p2, m2, c2, rfl, hm2, hc2, q2⟩ := i2.out
  rw [HL2.out] at hm2 hc2
  subst hm2; subst hc2
  have X2 := Lib.hid (X1.out.trans x2); have I2 := Lib.hid i2; have I3 := Lib.hid (I1.out.ext x2)
  clear i2 x2 K2 q2 X1 I1
  go_wp2
  go_loopw [14] (fun i wr => ∃ k : Nat, k ≤ N + 1 ∧ i = .int .i64 k ∧ Hid (Ext w2 wr)) (fun i _ => N + 1 - (intOf i).toNat)
  case atStart => exact ⟨0, by omega, rfl, Lib.hid (Ext.refl _)⟩
  case round =>
    obtain ⟨k, hk, rfl, HX⟩ := hrel
    by_cases hlt : k < N + 1
    · obtain ⟨b', o, rfl, hc⟩ := I3.out.at hlt
      obtain ⟨b2, o2, rfl, hc2⟩ := I2.out.at (show N - k < N + 1 by omega)
      replace hc := HX.out.cell (hc k hlt)
      replace hc2 := HX.out.cell (hc2 (N - k) (by omega))
      rw [HG1.out k (by omega)] at hc
      rw [HG2.out k (by omega)] at hc2
      generalize sl F T N k = S at *
      have k1 : (k : Int) ≤ N := by omega
      have k2 : (k : Int) < (N : Int) + 1 := by omega
      have k3 : IntKind.i64.wrap ((N : Int) - k) = (N : Int) - k := IntWalk.i64_in _ ⟨by omega, by omega⟩
      have k4 : (0 : Int) ≤ (N : Int) - k := by omega
      have k5 : ((N : Int) - k).toNat = N - k := by omega
      have k6 : (N : Int) - k < (N : Int) + 1 := by omega
      have k7 : (0 : Int) ≤ (k : Int) := by omega
      go_wp2
      go_quiet (fail)
      go_wp2
      go_roundw
      case rel => exact ⟨k + 1, by omega, by go_num, by first | exact HX | exact Lib.hid (HX.out.drewN _)⟩
      case measure => simp [intOf]; omega
    · obtain rfl : k = N + 1 := by omega
      have k1 : ¬ ((N : Int) + 1 ≤ N) := by omega
      clear hlt hk
      go_wp2_with fail
      refine (HL.out _ (X2.out.trans HX.out)).mono ?_
      rintro e w3 ⟨rfl, x3⟩
      have X3 := Lib.hid (X2.out.trans (HX.out.trans x3))
      clear x3 HL
      go_wp2
      go_ret
      exact ⟨rfl, X3.out⟩
theorem ShapesBack_walk (a b n : Int) (w : World) (hy : Sy w) (ha : 0 ≤ a ∧ a ≤ 255) (hb : 0 ≤ b ∧ b ≤ 255) (hn : 0 ≤ n ∧ n ≤ 255) :
    Calls Tryd.prog 5 #[.int .u8 a, .int .u8 b, .int .u8 n] w fun e w' => e = .returned (.bool true) ∧ Ext w w' := by
  obtain ⟨N, hN⟩ : ∃ N : Nat, 1 + n % 31 = N := ⟨(1 + n % 31).toNat, by omega⟩
  by_cases h : (2 + b % 15) - (2 + a % 15) ≤ 2 * (N : Int) ∧ (2 + a % 15) - (2 + b % 15) ≤ 2 * (N : Int)
  · exact Back_near a b n w hy ha hb hn _ _ N rfl rfl hN h
  · exact Back_far a b n w hy ha hb hn _ _ N rfl rfl hN (by omega)
end Go.Proofs.YtinijapkipeamaaDoor
