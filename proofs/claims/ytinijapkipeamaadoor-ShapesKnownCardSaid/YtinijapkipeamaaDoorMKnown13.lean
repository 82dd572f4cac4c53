/- Texts of this claim in one file: libraries and walks. -/
import Derived.Test.YtinijapkipeamaaDoorMKnown6
import Derived.Test.YtinijapkipeamaaDoorMKnown10
import Derived.Test.YtinijapkipeamaaDoorMKnown11
import Derived.Test.YtinijapkipeamaaDoorMKnown12
/- The law ShapesCheck, walked. -/
namespace Go.Proofs.YtinijapkipeamaaDoor
set_option linter.unusedVariables false
set_option linter.unusedSimpArgs false
set_option maxRecDepth 8000
open Go Go.RowKit

set_option maxHeartbeats 2000000 in
theorem ShapesCheck_walk (v : Value) (c : Nat) (l : List Int) (y : Int) (w : World) (h : IS .i64 w v c l) (hl : ∀ i, i < l.length → -9223372036854775808 ≤ gi l i ∧ gi l i ≤ 9223372036854775807) (hb : 0 ≤ y ∧ y ≤ 255) (hy : Sy w) :
    Calls Tryd.prog 3 #[v, .int .u8 y] w fun e w' => e = .returned (.bool true) ∧ Ext w w' := by
  have k1 := RCheck_calls v c l w h
  have k2 := fun w' (x : Ext w w') => Chart_calls v c l y w' (h.ext x) hb
  have k3 := fun w' (x : Ext w w') => Centre_calls v c l w' (h.ext x)
  have k4 := fun w' (x : Ext w w') => HCheck_calls v c l w' (h.ext x)
  have k5 := fun (he : oerr l = 0) w' (x : Ext w w') => RCentre_calls v c l w' (h.ext x) he
  have K1 := Lib.hid k1; have K2 := Lib.hid k2; have K3 := Lib.hid k3; have K4 := Lib.hid k4; have K5 := Lib.hid k5
  have HL := Lib.hid (fun w' (x : Ext w w') => lives_calls w' (hy.ext x))
  obtain ⟨ao, n, c', rfl, hn, rfl, hIS⟩ := h.out
  clear k1 k2 k3 k4 k5 hy h hIS hl
  by_cases hlong : 40 < n
  · have t1 : (40 : Int) < n := by omega
    clear hn
    go_enter Tryd.func3, Tryd.ntmps3
    go_wp2
    go_ret
    exact ⟨rfl, Ext.refl w⟩
  have t1 : ¬ (40 : Int) < n := by omega
  by_cases he : cherr l y = 0
  · have ho : oerr l = 0 ∧ 1 ≤ y ∧ y ≤ 6 := by
      unfold cherr at he
      by_cases a : oerr l ≠ 0
      · rw [if_pos a] at he; exact absurd he a
      · rw [if_neg a] at he
        by_cases b : y < 1 ∨ 6 < y
        · rw [if_pos b] at he; omega
        · exact ⟨by omega, by omega, by omega⟩
    obtain ⟨ho, y1, y2⟩ := ho
    have k5 := K5.out ho
    have k3 := K3.out
    have k1 := K1.out; have k2 := K2.out; have k4 := K4.out
    rw [ho] at k1 k3 k4
    rw [he] at k2
    simp only [if_true] at k3
    replace K1 := Lib.hid k1; replace K2 := Lib.hid k2; replace K3 := Lib.hid k3; replace K4 := Lib.hid k4; replace K5 := Lib.hid k5
    generalize cent l = C at K3 K5
    have g1 : ¬ y < 1 := by omega
    have g2 : ¬ 6 < y := by omega
    clear k1 k2 k3 k4 k5 ho he hn hlong
    go_enter Tryd.func3, Tryd.ntmps3
    go_wp2_with fail
    refine K1.out.mono ?_
    rintro e w1 ⟨rfl, x1⟩
    have X1 := Lib.hid x1
    clear x1 K1
    go_wp2_with fail
    refine (K2.out _ X1.out).mono ?_
    rintro e w2 ⟨v2, rfl, r2, x2⟩
    obtain ⟨a2, n2, rfl, q2⟩ := r2.open
    have X2 := Lib.hid ((X1.out.trans x2).alloc (.cells #[.slice a2 n2 (chres l y).length] 26))
    clear x2 K2 q2 r2 X1
    go_wp2_with fail
    refine (K3.out _ X2.out).mono ?_
    rintro e w3 ⟨rfl, x3⟩
    have X3 := Lib.hid (X2.out.trans x3)
    clear x3 K3 X2
    go_wp2_with fail
    refine (K4.out _ X3.out).mono ?_
    rintro e w4 ⟨rfl, x4⟩
    have X4 := Lib.hid (X3.out.trans x4)
    clear x4 K4 X3
    go_wp2_with fail
    refine (K5.out _ X4.out).mono ?_
    rintro e w5 ⟨rfl, x5⟩
    have X5 := Lib.hid (X4.out.trans x5)
    clear x5 K5 X4
    go_wp2_with fail
    refine (HL.out _ X5.out).mono ?_
    rintro e w6 ⟨rfl, x6⟩
    have X6 := Lib.hid (X5.out.trans x6)
    clear x6 HL X5
    go_wp2
    go_ret
    exact ⟨rfl, X6.out⟩
  · have hr : chres l y = [] := by unfold chres; rw [if_neg he]
    have hd : (oerr l ≠ 0 ∧ cherr l y = oerr l) ∨ (oerr l = 0 ∧ cherr l y = 1 ∧ (y < 1 ∨ 6 < y)) := by
      unfold cherr at he ⊢
      by_cases a : oerr l ≠ 0
      · exact .inl ⟨a, if_pos a⟩
      · rw [if_neg a] at he ⊢
        by_cases b : y < 1 ∨ 6 < y
        · exact .inr ⟨by omega, if_pos b, b⟩
        · rw [if_neg b] at he; exact absurd rfl he
    have k2 := K2.out
    rw [hr] at k2
    replace K2 := Lib.hid k2
    clear k2 hr he hn hlong
    rcases hd with ⟨ho, hc⟩ | ⟨ho, hc, hb2⟩
    · have k1 := K1.out; have k2 := K2.out; have k3 := K3.out; have k4 := K4.out
      rw [hc] at k2
      simp only [if_neg ho] at k3
      replace K1 := Lib.hid k1; replace K2 := Lib.hid k2; replace K3 := Lib.hid k3; replace K4 := Lib.hid k4
      have tq : (oerr l != 0) = true := by rw [bne, beq_eq_false_iff_ne.2 ho]; rfl
      clear k1 k2 k3 k4 K5 hc
      generalize oerr l = q at K1 K2 K3 K4 tq ho
      go_enter Tryd.func3, Tryd.ntmps3
      go_wp2_with fail
      refine K1.out.mono ?_
      rintro e w1 ⟨rfl, x1⟩
      have X1 := Lib.hid x1
      clear x1 K1
      go_wp2_with fail
      refine (K2.out _ X1.out).mono ?_
      rintro e w2 ⟨v2, rfl, r2, x2⟩
      obtain ⟨a2, n2, rfl, q2, _⟩ := r2.open
      rw [List.length_nil] at q2
      subst q2
      have b2 : (w2.alloc (.cells #[.slice a2 0 ([] : List (List St)).length] 26)).cell? ⟨w2.heap.size, 0, none⟩ = some (.slice a2 0 ([] : List (List St)).length) := by rw [World.cell?_alloc_at (hn := rfl)]; rfl
      have X2 := Lib.hid ((X1.out.trans x2).alloc (.cells #[.slice a2 0 ([] : List (List St)).length] 26))
      have B2 := Lib.hid b2
      clear x2 K2 r2 X1 b2
      go_wp2_with fail
      refine (K3.out _ X2.out).mono ?_
      rintro e w3 ⟨rfl, x3⟩
      have X3 := Lib.hid (X2.out.trans x3)
      have B3 := Lib.hid (x3.cell B2.out)
      clear x3 K3 X2 B2
      go_wp2_with fail
      refine (K4.out _ X3.out).mono ?_
      rintro e w4 ⟨rfl, x4⟩
      have X4 := Lib.hid (X3.out.trans x4)
      have b4 := x4.cell B3.out
      clear x4 K4 X3 B3
      go_wp2_with fail
      refine (HL.out _ X4.out).mono ?_
      rintro e w6 ⟨rfl, x6⟩
      have X6 := Lib.hid (X4.out.trans x6)
      clear x6 HL X4
      go_wp2
      go_ret
      exact ⟨rfl, X6.out⟩
    have k1 := K1.out; have k2 := K2.out; have k3 := K3.out; have k4 := K4.out
    rw [ho] at k1 k3 k4
    rw [hc] at k2
    simp only [if_true] at k3
    replace K1 := Lib.hid k1; replace K2 := Lib.hid k2; replace K3 := Lib.hid k3; replace K4 := Lib.hid k4
    generalize cent l = C at K3
    clear k1 k2 k3 k4 K5 hc ho
    rcases (show y < 1 ∨ (¬ y < 1 ∧ 6 < y) by omega) with hy1 | ⟨hy1, hy2⟩
    all_goals
      clear hb2
      go_enter Tryd.func3, Tryd.ntmps3
      go_wp2_with fail
      refine K1.out.mono ?_
      rintro e w1 ⟨rfl, x1⟩
      have X1 := Lib.hid x1
      clear x1 K1
      go_wp2_with fail
      refine (K2.out _ X1.out).mono ?_
      rintro e w2 ⟨v2, rfl, r2, x2⟩
      obtain ⟨a2, n2, rfl, q2, _⟩ := r2.open
      rw [List.length_nil] at q2
      subst q2
      have b2 : (w2.alloc (.cells #[.slice a2 0 ([] : List (List St)).length] 26)).cell? ⟨w2.heap.size, 0, none⟩ = some (.slice a2 0 ([] : List (List St)).length) := by rw [World.cell?_alloc_at (hn := rfl)]; rfl
      have X2 := Lib.hid ((X1.out.trans x2).alloc (.cells #[.slice a2 0 ([] : List (List St)).length] 26))
      have B2 := Lib.hid b2
      clear x2 K2 r2 X1 b2
      go_wp2_with fail
      refine (K3.out _ X2.out).mono ?_
      rintro e w3 ⟨rfl, x3⟩
      have X3 := Lib.hid (X2.out.trans x3)
      have B3 := Lib.hid (x3.cell B2.out)
      clear x3 K3 X2 B2
      go_wp2_with fail
      refine (K4.out _ X3.out).mono ?_
      rintro e w4 ⟨rfl, x4⟩
      have X4 := Lib.hid (X3.out.trans x4)
      have b4 := x4.cell B3.out
      clear x4 K4 X3 B3
      go_wp2_with fail
      refine (HL.out _ X4.out).mono ?_
      rintro e w6 ⟨rfl, x6⟩
      have X6 := Lib.hid (X4.out.trans x6)
      clear x6 HL X4
      go_wp2
      go_ret
      exact ⟨rfl, X6.out⟩
end Go.Proofs.YtinijapkipeamaaDoor
/- The law ShapesSlope, walked. -/
namespace Go.Proofs.YtinijapkipeamaaDoor
set_option linter.unusedVariables false
set_option linter.unusedSimpArgs false
set_option maxRecDepth 8000
open Go Go.RowKit

theorem sl_first {f t : Int} {N : Nat} (hN : 1 ≤ N) : sl f t N 0 = f := by
  have h := fun x => sl_iff (f := f) (t := t) (i := 0) hN x
  have e : ∀ x : Int, x * (2 * N) = 2 * (x * N) := fun x => by rw [Int.mul_left_comm]
  simp only [e, Int.natCast_zero, Int.mul_zero, Int.add_zero] at h
  have h1 := (h f).2 (by omega)
  rcases Int.lt_or_le f (sl f t N 0) with h2 | h2
  · have h3 := (h (f + 1)).1 (by omega)
    rw [Int.add_mul] at h3; omega
  · omega
theorem sl_last {f t : Int} {N : Nat} (hN : 1 ≤ N) : sl f t N N = t := by
  have h := fun x => sl_iff (f := f) (t := t) (i := N) hN x
  have e : ∀ x : Int, x * (2 * N) = 2 * (x * N) := fun x => by rw [Int.mul_left_comm]
  have e2 : f * (N : Int) + (t - f) * N = t * N := by rw [Int.sub_mul]; omega
  simp only [e, e2] at h
  have h1 := (h t).2 (by omega)
  rcases Int.lt_or_le t (sl f t N N) with h2 | h2
  · have h3 := (h (t + 1)).1 (by omega)
    rw [Int.add_mul] at h3; omega
  · omega
/-- Twice the distance from the line, in rows. -/
theorem sl_near {f t : Int} {N i : Nat} (hN : 1 ≤ N) : 2 * (N * sl f t N i - N * f - (t - f) * i) ≤ N ∧ -(N : Int) < 2 * (N * sl f t N i - N * f - (t - f) * i) := by
  have h1 := (sl_iff (f := f) (t := t) (i := i) hN (sl f t N i)).1 (Int.le_refl _)
  have h2 : ¬ sl f t N i + 1 ≤ sl f t N i := by omega
  rw [sl_iff hN] at h2
  have e : ∀ x : Int, x * (2 * N) = 2 * (N * x) := fun x => by rw [Int.mul_left_comm, Int.mul_comm x]
  rw [e] at h1 h2
  rw [Int.mul_add] at h2
  rw [Int.mul_comm f] at h1 h2
  omega

theorem Slope_out (f t r : Int) (w : World) (hy : Sy w) (hv : f < 2 ∨ 16 < f ∨ t < 2 ∨ 16 < t ∨ r < 1 ∨ 31 < r) : Calls Tryd.prog 4 #[.int .i64 f, .int .i64 t, .int .i64 r] w fun e w' => e = .returned (.bool true) ∧ Ext w w' := by
  have k1 := Slope_calls f t r w
  have he : serr f t r = 1 := by unfold serr; rw [if_pos hv]
  have hs : sres f t r = [] := by unfold sres; rw [if_neg (by omega)]
  rw [he, hs] at k1
  have K1 := Lib.hid k1
  have HL := Lib.hid (fun w' (x : Ext w w') => lives_calls w' (hy.ext x))
  clear he hs k1 hy
  rcases (show f < 2 ∨ (¬ f < 2 ∧ 16 < f) ∨ (¬ f < 2 ∧ ¬ 16 < f ∧ t < 2) ∨ (¬ f < 2 ∧ ¬ 16 < f ∧ ¬ t < 2 ∧ 16 < t) ∨ (¬ f < 2 ∧ ¬ 16 < f ∧ ¬ t < 2 ∧ ¬ 16 < t ∧ r < 1) ∨ (¬ f < 2 ∧ ¬ 16 < f ∧ ¬ t < 2 ∧ ¬ 16 < t ∧ ¬ r < 1 ∧ 31 < r) by omega) with h | ⟨h1, h2⟩ | ⟨h1, h2, h3⟩ | ⟨h1, h2, h3, h4⟩ | ⟨h1, h2, h3, h4, h5⟩ | ⟨h1, h2, h3, h4, h5, h6⟩
  all_goals
    clear hv
    go_enter Tryd.func4, Tryd.ntmps4
    go_wp2_with fail
    refine K1.out.mono ?_
    rintro e w1 ⟨v1, rfl, i1, x1⟩
    obtain ⟨a1, n1, c1, rfl, rfl, rfl, q1⟩ := i1.out
    have X1 := Lib.hid x1
    clear i1 q1 x1 K1
    go_wp2_with fail
    refine (HL.out _ X1.out).mono ?_
    rintro e w2 ⟨rfl, x2⟩
    have X2 := Lib.hid (X1.out.trans x2)
    clear x2 HL
    go_wp2
    go_ret
    exact ⟨rfl, X2.out⟩
theorem Slope_none (f t : Int) (N : Nat) (w : World) (hy : Sy w) (hf : 2 ≤ f ∧ f ≤ 16) (ht : 2 ≤ t ∧ t ≤ 16) (hN : 1 ≤ N ∧ N ≤ 31) (he : serr f t N = 14) : Calls Tryd.prog 4 #[.int .i64 f, .int .i64 t, .int .i64 N] w fun e w' => e = .returned (.bool true) ∧ Ext w w' := by
  have k1 := Slope_calls f t N w
  have k2 := fun w => RSlope_calls f t N w hf ht hN
  have hs : sres f t N = [] := by unfold sres; rw [if_neg (by omega)]
  rw [he, hs] at k1 k2
  have K1 := Lib.hid k1; have K2 := Lib.hid k2
  have HL := Lib.hid (fun w' (x : Ext w w') => lives_calls w' (hy.ext x))
  clear he hs k1 k2 hy
  obtain ⟨f1, f2⟩ := hf; obtain ⟨t1, t2⟩ := ht; obtain ⟨n1, n2⟩ := hN
  have g1 : ¬ f < 2 := by omega
  have g2 : ¬ 16 < f := by omega
  have g3 : ¬ t < 2 := by omega
  have g4 : ¬ 16 < t := by omega
  have g5 : ¬ (N : Int) < 1 := by omega
  have g6 : ¬ 31 < (N : Int) := by omega
  have g7 : ¬ (N : Int) = 0 := by omega
  go_enter Tryd.func4, Tryd.ntmps4
  go_wp2_with fail
  refine K1.out.mono ?_
  rintro e w1 ⟨v1, rfl, i1, x1⟩
  obtain ⟨a1, m1, c1, rfl, rfl, rfl, q1⟩ := i1.out
  have X1 := Lib.hid x1; have I1 := Lib.hid i1
  clear i1 q1 x1 K1
  go_wp2_with fail
  refine (K2.out _).mono ?_
  rintro e w2 ⟨v2, c2, rfl, i2, x2⟩
  have q := same_calls _ v2 _ c2 _ _ w2 (I1.out.ext x2) i2
  rw [show sm [] [] = 0 from rfl] at q
  have X2 := Lib.hid (X1.out.trans x2); have Q := Lib.hid q
  clear i2 x2 q K2
  go_wp2_with fail
  refine Q.out.mono ?_
  rintro e w3 ⟨rfl, x3⟩
  have X3 := Lib.hid (X2.out.trans x3)
  clear x3 Q
  go_wp2
  go_loopw [11, 12] (fun i _ wr => i = .int .i64 0 ∧ Hid (Ext w wr)) (fun _ _ _ => 0)
  case atStart => exact ⟨rfl, X3⟩
  case round =>
    obtain ⟨rfl, HX⟩ := hrel
    go_wp2_with fail
    refine (HL.out _ HX.out).mono ?_
    rintro e w4 ⟨rfl, x4⟩
    have X4 := Lib.hid (HX.out.trans x4)
    clear x4 HL
    go_wp2
    go_ret
    exact ⟨rfl, X4.out⟩
set_option maxHeartbeats 2000000 in
theorem Slope_some (f t : Int) (N : Nat) (w : World) (hy : Sy w) (hf : 2 ≤ f ∧ f ≤ 16) (ht : 2 ≤ t ∧ t ≤ 16) (hN : 1 ≤ N ∧ N ≤ 31) (he : serr f t N = 0) : Calls Tryd.prog 4 #[.int .i64 f, .int .i64 t, .int .i64 N] w fun e w' => e = .returned (.bool true) ∧ Ext w w' := by
  have k1 := Slope_calls f t N w
  have k2 := fun w => RSlope_calls f t N w hf ht hN
  have hs : sres f t N = smk f t N := by unfold sres; rw [if_pos he, Int.toNat_natCast]
  rw [he, hs] at k1 k2
  have hbd := fun i (hi : i ≤ N) => sl_bd (i := i) hf ht hN.1 hi
  have hpr := fun i (hi : i ≤ N) => sl_pr (N := N) (i := i) hf ht hi
  have hnr := fun i => sl_near (f := f) (t := t) (i := i) hN.1
  have hgi := fun i (hi : i ≤ N) => smk_gi (f := f) (t := t) hi
  have h0 := sl_first (f := f) (t := t) hN.1
  have h9 := sl_last (f := f) (t := t) hN.1
  have hl := smk_len f t N
  have K1 := Lib.hid k1; have K2 := Lib.hid k2; have HB := Lib.hid hbd; have HP := Lib.hid hpr; have HN := Lib.hid hnr; have HG := Lib.hid hgi; have H0 := Lib.hid h0; have H9 := Lib.hid h9; have HLn := Lib.hid hl
  have HL := Lib.hid (fun w' (x : Ext w w') => lives_calls w' (hy.ext x))
  clear he hs k1 k2 hy hbd hpr hnr hgi h0 h9 hl
  obtain ⟨f1, f2⟩ := hf; obtain ⟨t1, t2⟩ := ht; obtain ⟨n1, n2⟩ := hN
  have g1 : ¬ f < 2 := by omega
  have g2 : ¬ 16 < f := by omega
  have g3 : ¬ t < 2 := by omega
  have g4 : ¬ 16 < t := by omega
  have g5 : ¬ (N : Int) < 1 := by omega
  have g6 : ¬ 31 < (N : Int) := by omega
  have g7 : ¬ (N : Int) = 0 := by omega
  go_enter Tryd.func4, Tryd.ntmps4
  go_wp2_with fail
  refine K1.out.mono ?_
  rintro e w1 ⟨v1, rfl, i1, x1⟩
  obtain ⟨a1, m1, c1, rfl, hm1, hc1, q1⟩ := i1.out
  rw [HLn.out] at hm1 hc1
  subst hm1; subst hc1
  have X1 := Lib.hid x1; have I1 := Lib.hid i1
  clear i1 q1 x1 K1
  go_wp2_with fail
  refine (K2.out _).mono ?_
  rintro e w2 ⟨v2, c2, rfl, i2, x2⟩
  have q := same_calls _ v2 _ c2 _ _ w2 (I1.out.ext x2) i2
  rw [show sm (smk f t N) (smk f t N) = 0 from if_pos rfl] at q
  have X2 := Lib.hid (X1.out.trans x2); have Q := Lib.hid q; have I2 := Lib.hid (I1.out.ext x2)
  clear i2 x2 q K2 I1 X1
  go_wp2_with fail
  refine Q.out.mono ?_
  rintro e w3 ⟨rfl, x3⟩
  have X3 := Lib.hid (X2.out.trans x3); have I3 := Lib.hid (I2.out.ext x3)
  clear x3 Q I2 X2
  have hn1 : ((N + 1 : Nat) : Int) = (N : Int) + 1 := by omega
  go_wp2
  go_loopw [11, 12] (fun i _ wr => ∃ k : Nat, k ≤ N + 1 ∧ i = .int .i64 k ∧ Hid (Ext w3 wr)) (fun i _ _ => N + 1 - (intOf i).toNat)
  case atStart => exact ⟨0, by omega, rfl, Lib.hid (Ext.refl _)⟩
  case round =>
    obtain ⟨k, hk, rfl, HX⟩ := hrel
    by_cases hlt : k < N + 1
    · obtain ⟨b, o, rfl, hc⟩ := I3.out.at hlt
      replace hc := HX.out.cell (hc k hlt)
      rw [HG.out k (by omega)] at hc
      obtain ⟨p1, p2, p3, p4, p5, p6⟩ := HP.out k (by omega)
      obtain ⟨s1, s2⟩ := HB.out k (by omega)
      obtain ⟨r1, r2⟩ := HN.out k
      generalize sl f t N k = S at *
      have m1 : 0 ≤ (N : Int) * S ∧ (N : Int) * S ≤ 31 * 16 := ⟨Int.mul_nonneg (by omega) (by omega), Int.mul_le_mul (by omega) (by omega) (by omega) (by omega)⟩
      have m2 : (N : Int) * f = f * N := Int.mul_comm _ _
      have w1 : IntKind.i64.wrap ((N : Int) * S) = (N : Int) * S := IntWalk.i64_in _ ⟨by omega, by omega⟩
      have w2 : IntKind.i64.wrap ((N : Int) * f) = (N : Int) * f := IntWalk.i64_in _ ⟨by omega, by omega⟩
      have w3 : IntKind.i64.wrap ((N : Int) * S - (N : Int) * f) = (N : Int) * S - (N : Int) * f := IntWalk.i64_in _ ⟨by omega, by omega⟩
      have w4 : IntKind.i64.wrap (t - f) = t - f := IntWalk.i64_in _ ⟨by omega, by omega⟩
      have w5 : IntKind.i64.wrap ((t - f) * (k : Int)) = (t - f) * (k : Int) := IntWalk.i64_in _ ⟨by omega, by omega⟩
      have w6 : IntKind.i64.wrap ((N : Int) * S - (N : Int) * f - (t - f) * (k : Int)) = (N : Int) * S - (N : Int) * f - (t - f) * (k : Int) := IntWalk.i64_in _ ⟨by omega, by omega⟩
      have w7 : IntKind.i64.wrap (2 * ((N : Int) * S - (N : Int) * f - (t - f) * (k : Int))) = 2 * ((N : Int) * S - (N : Int) * f - (t - f) * (k : Int)) := IntWalk.i64_in _ ⟨by omega, by omega⟩
      have w8 : IntKind.i64.wrap (-(N : Int)) = -(N : Int) := IntWalk.i64_in _ ⟨by omega, by omega⟩
      have u1 : ¬ (N : Int) < 2 * ((N : Int) * S - (N : Int) * f - (t - f) * (k : Int)) := by omega
      have u2 : ¬ 2 * ((N : Int) * S - (N : Int) * f - (t - f) * (k : Int)) ≤ -(N : Int) := by omega
      have k1 : (k : Int) < (N : Int) + 1 := by omega
      clear p1 p2 p3 p4 p5 p6 r1 r2 m1 m2
      go_wp2
      go_roundw
      case rel => exact ⟨k + 1, by omega, by go_num, HX⟩
      case measure => simp [intOf]; omega
    · obtain rfl : k = N + 1 := by omega
      obtain ⟨b, o, rfl, hc⟩ := I3.out.at (show 0 < N + 1 by omega)
      have c0 := HX.out.cell (hc 0 (by omega))
      have c9 := HX.out.cell (hc N (by omega))
      rw [HG.out 0 (by omega), H0.out, Nat.add_zero] at c0
      rw [HG.out N (by omega), H9.out] at c9
      have k0 : (0 : Int) < (N : Int) + 1 := by omega
      have k1 : (N : Int) < (N : Int) + 1 := by omega
      have k2 : (0 : Int) ≤ (N : Int) := by omega
      clear hlt hk hc
      go_wp2_with fail
      refine (HL.out _ (X3.out.trans HX.out)).mono ?_
      rintro e w4 ⟨rfl, x4⟩
      have X4 := Lib.hid (X3.out.trans (HX.out.trans x4))
      clear x4 HL
      go_wp2
      go_ret
      exact ⟨rfl, X4.out⟩
theorem ShapesSlope_walk (f t r : Int) (w : World) (hy : Sy w) : Calls Tryd.prog 4 #[.int .i64 f, .int .i64 t, .int .i64 r] w fun e w' => e = .returned (.bool true) ∧ Ext w w' := by
  by_cases hv : f < 2 ∨ 16 < f ∨ t < 2 ∨ 16 < t ∨ r < 1 ∨ 31 < r
  · exact Slope_out f t r w hy hv
  · obtain ⟨N, rfl⟩ : ∃ N : Nat, r = N := ⟨r.toNat, by omega⟩
    have hc : serr f t N = 0 ∨ serr f t N = 14 := by
      unfold serr jmp; rw [if_neg hv]; split <;> simp
    rcases hc with h | h
    · exact Slope_some f t N w hy (by omega) (by omega) (by omega) h
    · exact Slope_none f t N w hy (by omega) (by omega) (by omega) h
end Go.Proofs.YtinijapkipeamaaDoor
/- The law ShapesBack, walked. -/
namespace Go.Proofs.YtinijapkipeamaaDoor
set_option linter.unusedVariables false
set_option linter.unusedSimpArgs false
set_option maxRecDepth 8000
open Go Go.RowKit

theorem sl_back {f t : Int} {N i : Nat} (hi : i ≤ N) : sl t f N (N - i) = sl f t N i := by
  unfold sl
  have e : t * (N : Int) + (f - t) * ((N - i : Nat) : Int) = f * N + (t - f) * i := by
    obtain ⟨j, rfl⟩ : ∃ j, N = i + j := ⟨N - i, by omega⟩
    rw [Nat.add_sub_cancel_left, Int.natCast_add, Int.mul_add, Int.mul_add, Int.sub_mul, Int.sub_mul]
    omega
  rw [e]
theorem sl_step {f t : Int} {N i : Nat} (hN : 1 ≤ N) (hd : t - f ≤ 2 * N ∧ f - t ≤ 2 * N) : sl f t N (i + 1) - sl f t N i ≤ 2 ∧ -2 ≤ sl f t N (i + 1) - sl f t N i := by
  have e : ∀ x : Int, x * (2 * N) = 2 * (N * x) := fun x => by rw [Int.mul_left_comm, Int.mul_comm x]
  have eN : (t - f) * ((i + 1 : Nat) : Int) = (t - f) * i + (t - f) := by rw [Int.natCast_add, Int.mul_add]; simp
  have a1 := (sl_iff (f := f) (t := t) (i := i) hN (sl f t N i)).1 (Int.le_refl _)
  have a2 : ¬ sl f t N i + 1 ≤ sl f t N i := by omega
  have b1 := (sl_iff (f := f) (t := t) (i := i + 1) hN (sl f t N (i + 1))).1 (Int.le_refl _)
  have b2 : ¬ sl f t N (i + 1) + 1 ≤ sl f t N (i + 1) := by omega
  rw [sl_iff hN] at a2 b2
  have c1 := sl_iff (f := f) (t := t) (i := i) hN (sl f t N (i + 1) - 2)
  have c2 := sl_iff (f := f) (t := t) (i := i + 1) hN (sl f t N i - 2)
  rw [e] at a1 a2 b1 b2 c1 c2
  rw [eN] at b1 b2 c2
  rw [Int.mul_add] at a2 b2
  rw [Int.mul_sub] at c1 c2
  constructor
  · have := c1.2 (by omega); omega
  · have := c2.2 (by omega); omega
theorem serr_eq {f t : Int} {N : Nat} (hf : 2 ≤ f ∧ f ≤ 16) (ht : 2 ≤ t ∧ t ≤ 16) (hN : 1 ≤ N ∧ N ≤ 31) : serr f t N = jmp (smk f t N) := by unfold serr; rw [if_neg (by omega), Int.toNat_natCast]
theorem serr_near {f t : Int} {N : Nat} (hf : 2 ≤ f ∧ f ≤ 16) (ht : 2 ≤ t ∧ t ≤ 16) (hN : 1 ≤ N ∧ N ≤ 31) (hd : t - f ≤ 2 * N ∧ f - t ≤ 2 * N) : serr f t N = 0 := by
  rw [serr_eq hf ht hN]
  refine jmp_ok fun i hi => ?_
  rw [smk_len] at hi
  rw [smk_gi (by omega), smk_gi (by omega)]
  have := sl_step (f := f) (t := t) (i := i) hN.1 hd
  unfold far; simp; omega
theorem serr_far {f t : Int} {N : Nat} (hf : 2 ≤ f ∧ f ≤ 16) (ht : 2 ≤ t ∧ t ≤ 16) (hN : 1 ≤ N ∧ N ≤ 31) (hd : 2 * (N : Int) < t - f ∨ 2 * (N : Int) < f - t) : serr f t N = 14 := by
  have hc : serr f t N = 0 ∨ serr f t N = 14 := by rw [serr_eq hf ht hN]; unfold jmp; split <;> simp
  rcases hc with h | h
  · exfalso
    have hs : ∀ i, i < N → far (sl f t N i) (sl f t N (i + 1)) = false := fun i hi => by
      cases hb : far (sl f t N i) (sl f t N (i + 1))
      · rfl
      · have := jmp_bad (l := smk f t N) (i := i) (by rw [smk_len]; omega) (by rw [smk_gi (by omega), smk_gi (by omega)]; exact hb)
        rw [serr_eq hf ht hN] at h; omega
    have hk : ∀ k : Nat, k ≤ N → sl f t N k - f ≤ 2 * k ∧ f - sl f t N k ≤ 2 * k := fun k => by
      induction k with
      | zero => intro _; rw [sl_first hN.1]; omega
      | succ k ih =>
        intro hk
        have a := ih (by omega)
        have b := hs k (by omega)
        unfold far at b; simp at b; omega
    have := hk N (Nat.le_refl _)
    rw [sl_last hN.1] at this
    omega
  · exact h
set_option maxHeartbeats 2000000 in
theorem Back_far (a b n : Int) (w : World) (hy : Sy w) (ha : 0 ≤ a ∧ a ≤ 255) (hb : 0 ≤ b ∧ b ≤ 255) (hn : 0 ≤ n ∧ n ≤ 255) (F T : Int) (N : Nat) (hF : 2 + a % 15 = F) (hT : 2 + b % 15 = T) (hNn : 1 + n % 31 = N) (hd : 2 * (N : Int) < T - F ∨ 2 * (N : Int) < F - T) :
    Calls Tryd.prog 5 #[.int .u8 a, .int .u8 b, .int .u8 n] w fun e w' => e = .returned (.bool true) ∧ Ext w w' := by
  have hf : 2 ≤ F ∧ F ≤ 16 := by omega
  have ht : 2 ≤ T ∧ T ≤ 16 := by omega
  have hN : 1 ≤ N ∧ N ≤ 31 := by omega
  have k1 := fun w => Slope_calls F T N w
  have k2 := fun w => Slope_calls T F N w
  have e1 := serr_far hf ht hN hd
  have e2 := serr_far ht hf hN hd.symm
  have s1 : sres F T N = [] := by unfold sres; rw [if_neg (by omega)]
  have s2 : sres T F N = [] := by unfold sres; rw [if_neg (by omega)]
  rw [e1, s1] at k1; rw [e2, s2] at k2
  have K1 := Lib.hid k1; have K2 := Lib.hid k2
  have HL := Lib.hid (fun w' (x : Ext w w') => lives_calls w' (hy.ext x))
  have w1 : IntKind.u8.wrap (a % 15) = a % 15 := IntWalk.u8_in _ ⟨by omega, by omega⟩
  have w2 : IntKind.u8.wrap (b % 15) = b % 15 := IntWalk.u8_in _ ⟨by omega, by omega⟩
  have w3 : IntKind.u8.wrap (n % 31) = n % 31 := IntWalk.u8_in _ ⟨by omega, by omega⟩
  have w4 : IntKind.i64.wrap (a % 15) = a % 15 := IntWalk.i64_in _ ⟨by omega, by omega⟩
  have w5 : IntKind.i64.wrap (b % 15) = b % 15 := IntWalk.i64_in _ ⟨by omega, by omega⟩
  have w6 : IntKind.i64.wrap (n % 31) = n % 31 := IntWalk.i64_in _ ⟨by omega, by omega⟩
  have w7 : IntKind.i64.wrap (2 + a % 15) = F := by rw [hF]; exact IntWalk.i64_in _ ⟨by omega, by omega⟩
  have w8 : IntKind.i64.wrap (2 + b % 15) = T := by rw [hT]; exact IntWalk.i64_in _ ⟨by omega, by omega⟩
  have w9 : IntKind.i64.wrap (1 + n % 31) = N := by rw [hNn]; exact IntWalk.i64_in _ ⟨by omega, by omega⟩
  have v1 : IntKind.i64.wrap (T - F) = T - F := IntWalk.i64_in _ ⟨by omega, by omega⟩
  have v2 : IntKind.i64.wrap (F - T) = F - T := IntWalk.i64_in _ ⟨by omega, by omega⟩
  have v3 : IntKind.i64.wrap (2 * (N : Int)) = 2 * (N : Int) := IntWalk.i64_in _ ⟨by omega, by omega⟩
  obtain ⟨a1, a2⟩ := ha; obtain ⟨b1, b2⟩ := hb; obtain ⟨n1, n2⟩ := hn
  clear k1 k2 e1 e2 s1 s2 hy hF hT hNn
  go_enter Tryd.func5, Tryd.ntmps5
  go_wp2_with fail
  refine (K1.out _).mono ?_
  rintro e w1 ⟨v1, rfl, i1, x1⟩
  have X1 := Lib.hid x1
  clear i1 x1 K1
  go_wp2_with fail
  refine (K2.out _).mono ?_
  rintro e w2 ⟨v2, rfl, i2, x2⟩
  have X2 := Lib.hid (X1.out.trans x2)
  clear i2 x2 K2 X1
  by_cases h1 : 2 * (N : Int) < T - F
  · clear hd
    go_wp2_with fail
    refine (HL.out _ X2.out).mono ?_
    rintro e w3 ⟨rfl, x3⟩
    have X3 := Lib.hid (X2.out.trans x3)
    clear x3 HL
    go_wp2
    go_ret
    exact ⟨rfl, X3.out⟩
  · have h2 : 2 * (N : Int) < F - T := by omega
    clear hd
    go_wp2_with fail
    refine (HL.out _ X2.out).mono ?_
    rintro e w3 ⟨rfl, x3⟩
    have X3 := Lib.hid (X2.out.trans x3)
    clear x3 HL
    go_wp2
    go_ret
    exact ⟨rfl, X3.out⟩
set_option maxHeartbeats 2000000 in
theorem Back_near (a b n : Int) (w : World) (hy : Sy w) (ha : 0 ≤ a ∧ a ≤ 255) (hb : 0 ≤ b ∧ b ≤ 255) (hn : 0 ≤ n ∧ n ≤ 255) (F T : Int) (N : Nat) (hF : 2 + a % 15 = F) (hT : 2 + b % 15 = T) (hNn : 1 + n % 31 = N) (hd : T - F ≤ 2 * N ∧ F - T ≤ 2 * N) :
    Calls Tryd.prog 5 #[.int .u8 a, .int .u8 b, .int .u8 n] w fun e w' => e = .returned (.bool true) ∧ Ext w w' := by
  have hf : 2 ≤ F ∧ F ≤ 16 := by omega
  have ht : 2 ≤ T ∧ T ≤ 16 := by omega
  have hN : 1 ≤ N ∧ N ≤ 31 := by omega
  have k1 := fun w => Slope_calls F T N w
  have k2 := fun w => Slope_calls T F N w
  have e1 := serr_near hf ht hN hd
  have e2 := serr_near ht hf hN hd.symm
  have s1 : sres F T N = smk F T N := by unfold sres; rw [if_pos e1, Int.toNat_natCast]
  have s2 : sres T F N = smk T F N := by unfold sres; rw [if_pos e2, Int.toNat_natCast]
  rw [e1, s1] at k1; rw [e2, s2] at k2
  have hl1 := smk_len F T N
  have hl2 := smk_len T F N
  have hg1 := fun i (hi : i ≤ N) => smk_gi (f := F) (t := T) hi
  have hg2 : ∀ i, i ≤ N → gi (smk T F N) (N - i) = sl F T N i := fun i hi => by rw [smk_gi (by omega)]; exact sl_back hi
  have K1 := Lib.hid k1; have K2 := Lib.hid k2; have HG1 := Lib.hid hg1; have HG2 := Lib.hid hg2; have HL1 := Lib.hid hl1; have HL2 := Lib.hid hl2
  have HL := Lib.hid (fun w' (x : Ext w w') => lives_calls w' (hy.ext x))
  have w1 : IntKind.u8.wrap (a % 15) = a % 15 := IntWalk.u8_in _ ⟨by omega, by omega⟩
  have w2 : IntKind.u8.wrap (b % 15) = b % 15 := IntWalk.u8_in _ ⟨by omega, by omega⟩
  have w3 : IntKind.u8.wrap (n % 31) = n % 31 := IntWalk.u8_in _ ⟨by omega, by omega⟩
  have w4 : IntKind.i64.wrap (a % 15) = a % 15 := IntWalk.i64_in _ ⟨by omega, by omega⟩
  have w5 : IntKind.i64.wrap (b % 15) = b % 15 := IntWalk.i64_in _ ⟨by omega, by omega⟩
  have w6 : IntKind.i64.wrap (n % 31) = n % 31 := IntWalk.i64_in _ ⟨by omega, by omega⟩
  have w7 : IntKind.i64.wrap (2 + a % 15) = F := by rw [hF]; exact IntWalk.i64_in _ ⟨by omega, by omega⟩
  have w8 : IntKind.i64.wrap (2 + b % 15) = T := by rw [hT]; exact IntWalk.i64_in _ ⟨by omega, by omega⟩
  have w9 : IntKind.i64.wrap (1 + n % 31) = N := by rw [hNn]; exact IntWalk.i64_in _ ⟨by omega, by omega⟩
  have v1 : IntKind.i64.wrap (T - F) = T - F := IntWalk.i64_in _ ⟨by omega, by omega⟩
  have v2 : IntKind.i64.wrap (F - T) = F - T := IntWalk.i64_in _ ⟨by omega, by omega⟩
  have v3 : IntKind.i64.wrap (2 * (N : Int)) = 2 * (N : Int) := IntWalk.i64_in _ ⟨by omega, by omega⟩
  have v4 : IntKind.i64.wrap ((N : Int) + 1) = (N : Int) + 1 := IntWalk.i64_in _ ⟨by omega, by omega⟩
  have d1 : ¬ 2 * (N : Int) < T - F := by omega
  have d2 : ¬ 2 * (N : Int) < F - T := by omega
  have hn1 : ((N + 1 : Nat) : Int) = (N : Int) + 1 := by omega
  obtain ⟨a1, a2⟩ := ha; obtain ⟨b1, b2⟩ := hb; obtain ⟨n1, n2⟩ := hn
  clear k1 k2 e1 e2 s1 s2 hy hF hT hNn hg1 hg2 hl1 hl2 hd
  go_enter Tryd.func5, Tryd.ntmps5
  go_wp2_with fail
  refine (K1.out _).mono ?_
  rintro e w1 ⟨v1, rfl, i1, x1⟩
  obtain ⟨p1, m1, c1, rfl, hm1, hc1, q1⟩ := i1.out
  rw [HL1.out] at hm1 hc1
  subst hm1; subst hc1
  have X1 := Lib.hid x1; have I1 := Lib.hid i1
  clear i1 x1 K1 q1
  go_wp2_with fail
  refine (K2.out _).mono ?_
  rintro e w2 ⟨v2, rfl, i2, x2⟩
  obtain ⟨p2, m2, c2, rfl, hm2, hc2, q2⟩ := i2.out
  rw [HL2.out] at hm2 hc2
  subst hm2; subst hc2
  have X2 := Lib.hid (X1.out.trans x2); have I2 := Lib.hid i2; have I3 := Lib.hid (I1.out.ext x2)
  clear i2 x2 K2 q2 X1 I1
  go_wp2
  go_loopw [14] (fun i wr => ∃ k : Nat, k ≤ N + 1 ∧ i = .int .i64 k ∧ Hid (Ext w2 wr)) (fun i _ => N + 1 - (intOf i).toNat)
  case atStart => exact ⟨0, by omega, rfl, Lib.hid (Ext.refl _)⟩
  case round =>
    obtain ⟨k, hk, rfl, HX⟩ := hrel
    by_cases hlt : k < N + 1
    · obtain ⟨b', o, rfl, hc⟩ := I3.out.at hlt
      obtain ⟨b2, o2, rfl, hc2⟩ := I2.out.at (show N - k < N + 1 by omega)
      replace hc := HX.out.cell (hc k hlt)
      replace hc2 := HX.out.cell (hc2 (N - k) (by omega))
      rw [HG1.out k (by omega)] at hc
      rw [HG2.out k (by omega)] at hc2
      generalize sl F T N k = S at *
      have k1 : (k : Int) ≤ N := by omega
      have k2 : (k : Int) < (N : Int) + 1 := by omega
      have k3 : IntKind.i64.wrap ((N : Int) - k) = (N : Int) - k := IntWalk.i64_in _ ⟨by omega, by omega⟩
      have k4 : (0 : Int) ≤ (N : Int) - k := by omega
      have k5 : ((N : Int) - k).toNat = N - k := by omega
      have k6 : (N : Int) - k < (N : Int) + 1 := by omega
      have k7 : (0 : Int) ≤ (k : Int) := by omega
      go_wp2
      go_quiet (fail)
      go_wp2
      go_roundw
      case rel => exact ⟨k + 1, by omega, by go_num, by first | exact HX | exact Lib.hid (HX.out.drewN _)⟩
      case measure => simp [intOf]; omega
    · obtain rfl : k = N + 1 := by omega
      have k1 : ¬ ((N : Int) + 1 ≤ N) := by omega
      clear hlt hk
      go_wp2_with fail
      refine (HL.out _ (X2.out.trans HX.out)).mono ?_
      rintro e w3 ⟨rfl, x3⟩
      have X3 := Lib.hid (X2.out.trans (HX.out.trans x3))
      clear x3 HL
      go_wp2
      go_ret
      exact ⟨rfl, X3.out⟩
theorem ShapesBack_walk (a b n : Int) (w : World) (hy : Sy w) (ha : 0 ≤ a ∧ a ≤ 255) (hb : 0 ≤ b ∧ b ≤ 255) (hn : 0 ≤ n ∧ n ≤ 255) :
    Calls Tryd.prog 5 #[.int .u8 a, .int .u8 b, .int .u8 n] w fun e w' => e = .returned (.bool true) ∧ Ext w w' := by
  obtain ⟨N, hN⟩ : ∃ N : Nat, 1 + n % 31 = N := ⟨(1 + n % 31).toNat, by omega⟩
  by_cases h : (2 + b % 15) - (2 + a % 15) ≤ 2 * (N : Int) ∧ (2 + a % 15) - (2 + b % 15) ≤ 2 * (N : Int)
  · exact Back_near a b n w hy ha hb hn _ _ N rfl rfl hN h
  · exact Back_far a b n w hy ha hb hn _ _ N rfl rfl hN (by omega)
end Go.Proofs.YtinijapkipeamaaDoor
/- The law ShapesKnown, walked. -/
namespace Go.Proofs.YtinijapkipeamaaDoor
set_option linter.unusedVariables false
set_option linter.unusedSimpArgs false
set_option maxRecDepth 8000
open Go Go.RowKit

/-- The steps laid so far: they lie in the outline's block. -/
def KR (wb w : World) (g : Nat) (f : Int) (v : Value) (st : List Int) : Prop :=
  Ext wb w ∧ B2 w g (.int .u8 f) v 44 ∧ wb.heap.size ≤ g ∧ w.ownsRow (g + 1) 5 1 v st.length (st.map (Value.int .u8)) ∧ ∀ i, i < st.length → 0 ≤ gi st i ∧ gi st i ≤ 255
theorem u8w (z : Int) : 0 ≤ IntKind.u8.wrap z ∧ IntKind.u8.wrap z ≤ 255 := by simp [IntKind.wrap, IntKind.bits, IntKind.signed]; omega
theorem eiU8 : EI Tryd.prog 42 5 (.int .u8 0) 1 := ⟨Tryd.underlying42, by kernel_rfl, rfl⟩
theorem own_form {w : World} {B n : Nat} {e : TypeId} {v : Value} {xs : List Value} {z : Nat} (h : w.ownsRow B e z v n xs) : ∃ a c, v = .slice a n c := by
  obtain ⟨_, ⟨hv, hn⟩ | ⟨g, cap, cur, hv, _⟩⟩ := h
  · exact ⟨_, _, by rw [hv, hn]⟩
  · exact ⟨_, _, hv⟩
theorem KR.next {wb w w' : World} {g : Nat} {f x : Int} {a : Option Addr} {n c c' : Nat} {a' : Option Addr} {st : List Int} (h : KR wb w g f (.slice a n c) st) (hx : 0 ≤ x ∧ x ≤ 255)
    (ho : w'.ownsRow (g + 1) 5 1 (.slice a' (st.length + 1) c') (st.length + 1) (st.map (Value.int .u8) ++ [.int .u8 x])) (hb : Below (g + 1) w w') :
    KR wb (w'.setCell ⟨g, 1, none⟩ (.slice a' (st.length + 1) c')) g f (.slice a' (st.length + 1) c') (st ++ [x]) := by
  obtain ⟨h1, h2, h3, h4, h5⟩ := h
  have h2' : B2 w' g (.int .u8 f) (.slice a n c) 44 := by unfold B2 at *; rw [Below.block hb g (by omega)]; exact h2
  refine ⟨?_, h2'.set1, h3, ?_, fun i hi => ?_⟩
  · exact Ext.setCell (Below.trans h1 (Below.mono hb (by omega))) h3 _
  · have := own_setOther (u := .slice a' (st.length + 1) c') (a := ⟨g, 1, none⟩) ho (own_ne ho h2' (by decide))
    simpa using this
  · rw [List.length_append, List.length_singleton] at hi
    by_cases e : i < st.length
    · rw [gi_append_left e]; exact h5 i e
    · obtain rfl : i = st.length := by omega
      rw [gi_append_right (Nat.le_refl _)]; simpa [gi] using hx
/-- The stitches of the chart lie in their types. -/
theorem chartOf_in {l : List Int} {y : Int} (hl : oerr l = 0) (hy : 1 ≤ y ∧ y ≤ 6) : ∀ r ∈ chartOf l y, ∀ s ∈ r, St.In s := by
  intro r hr s hs
  obtain ⟨i, hi, rfl⟩ := List.mem_iff_getElem.1 hr
  have hlen := chartOf_len l y
  rw [← sw_of_lt hi] at hs
  have h := (chartOf_facts hl hy i (by omega)).2.2.2 s hs
  obtain ⟨h1, h2, h3⟩ := St.chk_ok h.1
  exact ⟨by omega, by omega, by omega, by omega⟩

set_option maxHeartbeats 8000000 in
theorem ShapesKnown_walk (w : World) (hy : Sy w) :
    Calls Tryd.prog 10 #[] w fun e w' => e = .returned (.bool true) ∧ Ext w w' := by
  have HY := Lib.hid (fun w' (x : Ext w w') => hy.ext x)
  clear hy
  go_enter Tryd.func10, Tryd.ntmps10
  go_wp2
  go_loopw [1, 2, 3, 4, 5] (fun kk i _ _ _ wr => ∃ (n : Nat) (K : Int), n ≤ 30 ∧ i = .int .i64 n ∧ kk = .int .i64 K ∧ (0 ≤ K ∧ K ≤ 100002) ∧ Hid (Ext w wr)) (fun _ i _ _ _ _ => 30 - (intOf i).toNat)
  case atStart => exact ⟨0, 1, by omega, rfl, rfl, by omega, Lib.hid (Ext.refl w)⟩
  case round =>
    obtain ⟨n, K, hn, rfl, rfl, ⟨k0, k1⟩, HX⟩ := hrel
    by_cases hlt : n < 30
    · have hlt' : (n : Int) < 30 := by omega
      have m1 : IntKind.u8.wrap (n : Int) = n := IntWalk.u8_in _ ⟨by omega, by omega⟩
      obtain ⟨m, hm⟩ : ∃ m : Nat, m = n % 12 := ⟨_, rfl⟩
      have hm12 : m ≤ 12 := by omega
      have hmI : (n : Int) % 12 = (m : Int) := by omega
      have HMi := Lib.hid hmI
      clear hm hmI
      go_wp2
      obtain ⟨wx, hwx⟩ : ∃ wx, wx = wr.alloc (.cells #[.int .u8 (n : Int), .slice none 0 0] 44) := ⟨_, rfl⟩
      have hkr : KR w wx wr.heap.size n (.slice none 0 0) [] := by
        rw [hwx]
        exact ⟨HX.out.alloc _, B2.new _ _ _ _, HX.out.size, World.ownsRow_nil _ _ _ _, fun i hi => by simp at hi⟩
      have HKr := Lib.hid hkr
      rw [← hwx]
      obtain ⟨g, hg⟩ : ∃ g, g = wr.heap.size := ⟨_, rfl⟩
      rw [← hg] at HKr ⊢
      clear hkr hwx hg
      go_loopw [1, 4] (fun kk i ws => ∃ (j : Nat) (K : Int) (st : List Int) (a : Option Addr) (ln cp : Nat), j ≤ m ∧ i = .int .i64 j ∧ kk = .int .i64 K ∧ (0 ≤ K ∧ K ≤ 100002) ∧ st.length = j ∧ Hid (KR w ws g n (.slice a ln cp) st)) (fun _ i _ => m - (intOf i).toNat)
      case atStart => exact ⟨0, K, [], none, 0, 0, by omega, rfl, rfl, ⟨k0, k1⟩, rfl, HKr⟩
      case round =>
        obtain ⟨j, K, st, a, ln, cp, hj, rfl, rfl, ⟨k0, k1⟩, hst, H⟩ := hrel
        obtain ⟨c0, c1⟩ := And.intro H.out.2.1.c0 H.out.2.1.c1
        have f1 := H.out.2.1.f1
        by_cases hjl : j < m
        · have hjl' : (j : Int) < (n : Int) % 12 := by rw [HMi.out]; omega
          obtain ⟨kb, hkb⟩ : ∃ kb, kb = IntKind.u8.wrap K := ⟨_, rfl⟩
          have hkd : 0 ≤ kb ∧ kb ≤ 255 := by rw [hkb]; exact u8w K
          have hkm : K % 256 = kb := by rw [hkb]; simp [IntKind.wrap, IntKind.bits, IntKind.signed]
          have hkw := hkb.symm
          have HKd := Lib.hid hkd
          have HSt := Lib.hid hst
          have w1 : IntKind.i64.wrap (K * 31) = K * 31 := IntWalk.i64_in _ ⟨by omega, by omega⟩
          have w2 : IntKind.i64.wrap (7 * (j : Int)) = 7 * (j : Int) := IntWalk.i64_in _ ⟨by omega, by omega⟩
          have w3 : IntKind.i64.wrap (K * 31 + 7 * (j : Int)) = K * 31 + 7 * (j : Int) := IntWalk.i64_in _ ⟨by omega, by omega⟩
          have w4 : IntKind.i64.wrap (K * 31 + 7 * (j : Int) + 11) = K * 31 + 7 * (j : Int) + 11 := IntWalk.i64_in _ ⟨by omega, by omega⟩
          have w5 : IntKind.i64.wrap ((K * 31 + 7 * (j : Int) + 11) % 100003) = (K * 31 + 7 * (j : Int) + 11) % 100003 := IntWalk.i64_in _ ⟨by omega, by omega⟩
          have how := H.out.2.2.2.1
          rw [hst] at how
          have HOw := Lib.hid how
          have hsz : g + 1 ≤ wr.heap.size := H.out.2.1.lt
          clear hkb hkd hst how
          go_wp2_with (at_builtin; refine app_own eiU8 rfl _ _ rfl (g + 1) _ j _ rfl (HOw.out.alloc _) _ _ _ rfl (VS.one _ _ _) (one1 _) ?d1 ?d2 ?d3 ?_)
          any_goals (first | omega | (simp; done) | (simp only [List.length_cons, List.length_nil]; omega) | (simp; omega))
          intro v' w' hown hbel
          obtain ⟨a6, c6, hvf⟩ := own_form hown
          subst hvf
          rw [← HSt.out] at hown
          have hb2 : B2 w' g (.int .u8 (n : Int)) (.slice a ln cp) 44 := by
            have h2 := H.out.2.1
            have hbl := Below.block hbel g (by omega)
            unfold B2 at *
            rw [hbl, Deep.blk_alloc_lt _ _ _ (Array.getElem?_eq_some_iff.1 h2).1]; exact h2
          have f1' := hb2.f1
          have c1' := hb2.c1
          have HKn := Lib.hid (KR.next H.out HKd.out hown (((Below.refl (g + 1) wr).alloc hsz _).trans hbel))
          rw [HSt.out] at HKn
          clear hown hbel hb2 c0 c1 f1
          go_wp2
          go_roundw
          case rel => exact ⟨j + 1, _, st ++ [kb], a6, j + 1, c6, by omega, by go_num, rfl, by omega, by rw [List.length_append, HSt.out]; rfl, HKn⟩
          case measure => simp [intOf]; omega
        · obtain rfl : m = j := by omega
          have hjl' : ¬ (m : Int) < (n : Int) % 12 := by rw [HMi.out]; omega
          obtain ⟨kb, hkb⟩ : ∃ kb, kb = IntKind.u8.wrap K := ⟨_, rfl⟩
          have hkd : 0 ≤ kb ∧ kb ≤ 255 := by rw [hkb]; exact u8w K
          have hkm : K % 256 = kb := by rw [hkb]; simp [IntKind.wrap, IntKind.bits, IntKind.signed]
          have hkw := hkb.symm
          obtain ⟨cI, hI⟩ := IS.of_own (k := .u8) H.out.2.2.2.1
          obtain ⟨l, hl⟩ : ∃ l, l = oof n st := ⟨_, rfl⟩
          have hok : oerr l = 0 := by rw [hl]; exact oof_ok n st
          have HB := Lib.hid (fun w' (x : Ext wr w') => H.out.2.1.ext x)
          have hsb := H.out.2.2.2.2
          have hO := fun w' (x : Ext wr w') => O_calls n _ cI st w' (hI.ext x) (by omega) hsb
          rw [← hl] at hO
          have hC := fun w' (x : Ext wr w') => ShapesChart_walk n _ cI st n w' (hI.ext x) (by omega) hsb (by omega) (HY.out w' (H.out.1.trans x))
          have hA := fun w' (x : Ext wr w') => ShapesArea_walk n _ cI st kb n w' (hI.ext x) (by omega) hsb hkd (by omega) (HY.out w' (H.out.1.trans x))
          have hBk := fun w' (x : Ext wr w') => ShapesBack_walk n kb ((n : Int) / 2) w' (HY.out w' (H.out.1.trans x)) (by omega) hkd (by omega)
          have HO := Lib.hid hO; have HC := Lib.hid hC; have HA := Lib.hid hA; have HBk := Lib.hid hBk; have HOk := Lib.hid hok; have X0 := Lib.hid H.out.1
          have m3 : IntKind.i64.wrap ((n : Int) / 2) = (n : Int) / 2 := IntWalk.i64_in _ ⟨by omega, by omega⟩
          have m4 : IntKind.u8.wrap ((n : Int) / 2) = (n : Int) / 2 := IntWalk.u8_in _ ⟨by omega, by omega⟩
          have m4' : (n : Int) / 2 % 256 = (n : Int) / 2 := by omega
          have m5 : (n : Int) % 256 = n := by omega
          have m6 : IntKind.u8.wrap ((n : Int) % 8) = (n : Int) % 8 := IntWalk.u8_in _ ⟨by omega, by omega⟩
          have m6' : (n : Int) % 8 % 256 = (n : Int) % 8 := by omega
          clear hkb hI hl hok hsb hO hC hA hBk hkd hst f1
          obtain ⟨z1, z2, z3, z4, z5⟩ := oerr_zero HOk.out
          have HZ4 := Lib.hid z4; have Z2 := Lib.hid z2
          clear z1 z2 z3 z4 z5
          skip
          go_wp2_with fail
          refine (HO.out _ (Ext.refl _)).mono ?_
          rintro e w1 ⟨v1, e1, rfl, i1, x⟩
          have X1 := Lib.hid (x)
          obtain ⟨a1, n1, e1', rfl, hn1, rfl, hi1⟩ := i1.out
          have I1 := Lib.hid hi1
          have Hn1 := Lib.hid hn1
          clear i1 hi1 hn1 c0 c1
          have c0 := (HB.out _ X1.out).c0
          have c1 := (HB.out _ X1.out).c1
          clear x
          go_wp2_with fail
          refine (HC.out _ X1.out).mono ?_
          rintro e w2 ⟨rfl, x⟩
          have X2 := Lib.hid (X1.out.trans x)
          clear c0 c1
          have c0 := (HB.out _ X2.out).c0
          have c1 := (HB.out _ X2.out).c1
          have I2 := Lib.hid (I1.out.ext x)
          clear x
          go_wp2_with fail
          refine (HA.out _ X2.out).mono ?_
          rintro e w3 ⟨rfl, x⟩
          have X3 := Lib.hid (X2.out.trans x)
          clear c0 c1
          have I3 := Lib.hid (I2.out.ext x)
          clear x
          go_wp2_with fail
          refine (ShapesSlope_walk _ _ _ _ (HY.out _ (X0.out.trans X3.out))).mono ?_
          rintro e w4 ⟨rfl, x⟩
          have X4 := Lib.hid (X3.out.trans x)
          have I4 := Lib.hid (I3.out.ext x)
          clear x
          go_wp2_with fail
          refine (HBk.out _ X4.out).mono ?_
          rintro e w5 ⟨rfl, x⟩
          have X5 := Lib.hid (X4.out.trans x)
          have I5 := Lib.hid (I4.out.ext x)
          clear x
          have hn2 : 2 ≤ n1 := by have := Z2.out; have := Hn1.out; omega
          have hn32 : n1 ≤ 32 := by have := (oerr_zero HOk.out).1; have := Hn1.out; omega
          obtain ⟨L, hL⟩ : ∃ L, n1 = L + 1 := ⟨n1 - 1, by omega⟩
          obtain ⟨b1, o1, ha1, hcl⟩ := I5.out.at (show L < n1 by omega)
          subst ha1
          have d0 := hcl L (by omega)
          have u1 : IntKind.i64.wrap ((n1 : Int) - 1) = (L : Int) := by rw [hL]; rw [show ((L + 1 : Nat) : Int) - 1 = (L : Int) by omega]; exact IntWalk.i64_in _ ⟨by omega, by omega⟩
          have u1' : (n1 : Int) - 1 = (L : Int) := by omega
          have u2 : (L : Int) < (n1 : Int) := by omega
          have u3 : (0 : Int) ≤ (n1 : Int) - 1 := by omega
          obtain ⟨gl, hgl⟩ : ∃ gl, gl = gi l L := ⟨_, rfl⟩
          rw [← hgl] at d0
          clear hgl hcl hL
          have p1 := IS.lit (k := .i64) (w := w5) (e := 3) (g := w5.heap.size) (n := 2) (xs := [gl, 5]) (arr := #[.int .i64 gl, .int .i64 5]) rfl rfl rfl (by omega)
          have p2 := IS.lit (k := .i64) (w := w5.alloc (.cells #[.int .i64 gl, .int .i64 5] 3)) (e := 3) (g := w5.heap.size + 1) (n := 1) (xs := [5]) (arr := #[.int .i64 5]) rfl (by simp) rfl (by omega)
          have xA := (Ext.refl w5).alloc (.cells #[.int .i64 gl, .int .i64 5] 3)
          have xB := (Ext.refl (w5.alloc (.cells #[.int .i64 gl, .int .i64 5] 3))).alloc (.cells #[.int .i64 5] 3)
          have hiss := ISS.lit3 (k := .i64) (e := 22) (g := w5.heap.size + 1 + 1) (by simp) (I5.out.ext (xA.trans xB)) (p1.ext xB) p2
          have HJ := Lib.hid (ShapesJoin_walk _ _ _ _ hiss (HY.out _ (X0.out.trans (X5.out.trans ((xA.trans xB).alloc _)))))
          have X5b := Lib.hid (X5.out.trans ((xA.trans xB).alloc (.cells #[.slice (some ⟨b1, o1, none⟩) n1 e1', .slice (some ⟨w5.heap.size, 0, none⟩) 2 2, .slice (some ⟨w5.heap.size + 1, 0, none⟩) 1 1] 22)))
          have I5b := Lib.hid (I5.out.ext ((xA.trans xB).alloc (.cells #[.slice (some ⟨b1, o1, none⟩) n1 e1', .slice (some ⟨w5.heap.size, 0, none⟩) 2 2, .slice (some ⟨w5.heap.size + 1, 0, none⟩) 1 1] 22)))
          have hlb : ∀ i, i < l.length → -9223372036854775808 ≤ gi l i ∧ gi l i ≤ 9223372036854775807 := fun i hi => by have := HZ4.out i hi; omega
          have HLb := Lib.hid hlb
          have hle := I5.out.len.2.2
          rw [← Hn1.out] at hle
          clear p1 p2 xA xB hiss hlb
          go_wp2_with fail
          refine (HJ.out).mono ?_
          rintro e w6 ⟨rfl, x⟩
          have X6 := Lib.hid (X5b.out.trans x)
          have I6 := Lib.hid (I5b.out.ext x)
          clear d0 u1 u1' u2 u3
          clear x
          go_wp2_with fail
          refine (ShapesCheck_walk _ _ l _ _ I6.out HLb.out (by omega) (HY.out _ (X0.out.trans X6.out))).mono ?_
          rintro e w7 ⟨rfl, x⟩
          have X7 := Lib.hid (X6.out.trans x)
          have I7 := Lib.hid (I6.out.ext x)
          clear x
          have hfr : IS .i64 w7 (.slice (some ⟨b1, o1 + 1, none⟩) (n1 - 1) (e1' - 1)) (e1' - 1) (l.drop 1) := by
            rcases I7.out.from 1 (by omega) with ⟨b5, o5, h1, h2⟩ | ⟨h1, h2, _⟩
            · obtain ⟨rfl, rfl⟩ : b1 = b5 ∧ o1 = o5 := by simpa using h1
              rw [if_neg (by omega)] at h2
              exact h2
            · omega
          have HFr := Lib.hid hfr
          have v1 : (1 : Int) ≤ (n1 : Int) := by omega
          have v2 : 1 ≤ n1 := by omega
          have v3 : (1 : Int) ≤ (e1' : Int) := by omega
          have v4 : 1 ≤ e1' := by omega
          have v5 : ¬ e1' = 1 := by omega
          have v6 : (n1 : Int) ≤ (e1' : Int) := by omega
          clear hfr
          have hlb2 : ∀ i, i < (l.drop 1).length → -9223372036854775808 ≤ gi (l.drop 1) i ∧ gi (l.drop 1) i ≤ 9223372036854775807 := fun i hi => by
            rw [gi_drop]; exact HLb.out _ (by rw [List.length_drop] at hi; omega)
          have HLb2 := Lib.hid hlb2
          clear hlb2
          go_wp2_with fail
          refine (ShapesCheck_walk _ _ (l.drop 1) _ _ HFr.out HLb2.out (by omega) (HY.out _ (X0.out.trans X7.out))).mono ?_
          rintro e w8 ⟨rfl, x⟩
          have X8 := Lib.hid (X7.out.trans x)
          have I8 := Lib.hid (I7.out.ext x)
          clear v1 v2 v3 v4 v5 v6
          clear x
          go_wp2_with fail
          refine (RChart_calls _ _ l 2 _ I8.out HOk.out).mono ?_
          rintro e w9 ⟨vc, cc, rfl, rc, x⟩
          have X9 := Lib.hid (X8.out.trans x)
          have R9 := Lib.hid rc
          clear rc
          clear x
          go_wp2_with fail
          refine (ShapesOf_walk _ _ _ _ R9.out (chartOf_in HOk.out (by omega)) (HY.out _ (X0.out.trans X9.out))).mono ?_
          rintro e w10 ⟨rfl, x⟩
          have X10 := Lib.hid (X9.out.trans x)
          skip
          clear x
          have XX := Lib.hid (X0.out.trans X10.out)
          go_wp2
          go_roundw
          case rel => exact ⟨n + 1, K, by omega, by go_num, rfl, ⟨k0, k1⟩, XX⟩
          case measure => simp [intOf]; omega
    · obtain rfl : n = 30 := by omega
      have hlt' : ¬ ((30 : Nat) : Int) < 30 := by omega
      have hmk : ∀ w' : World, (Instr.makeSlice 22 (.int .i64 34) (.int .i64 34)).run Tryd.prog w' = .ok (.slice (some ⟨w'.heap.size, 0, none⟩) 34 34) (w'.alloc (.cells (madeCells #[.int .i64 0] 34) 3)) := fun w' =>
        run_make_row' (P := Tryd.prog) 22 3 (.int .i64 0) 8 Tryd.underlying22 (by kernel_rfl) rfl .i64 .i64 34 (by omega) (by omega) w'
      skip
      go_wp2_with fail
      refine (ShapesSlope_walk _ _ _ _ (HY.out _ HX.out)).mono ?_
      rintro e w1 ⟨rfl, x⟩
      have X1 := Lib.hid (HX.out.trans x)
      skip
      clear x
      go_wp2_with fail
      refine (ShapesSlope_walk _ _ _ _ (HY.out _ X1.out)).mono ?_
      rintro e w2 ⟨rfl, x⟩
      have X2 := Lib.hid (X1.out.trans x)
      skip
      clear x
      go_wp2_with fail
      refine (ShapesSlope_walk _ _ _ _ (HY.out _ X2.out)).mono ?_
      rintro e w3 ⟨rfl, x⟩
      have X3 := Lib.hid (X2.out.trans x)
      skip
      clear x
      go_wp2_with fail
      refine (ShapesSlope_walk _ _ _ _ (HY.out _ X3.out)).mono ?_
      rintro e w4 ⟨rfl, x⟩
      have X4 := Lib.hid (X3.out.trans x)
      skip
      clear x
      go_wp2_with fail
      refine (ShapesJoin_walk _ 0 [] _ (ISS.nil _ _) (HY.out _ X4.out)).mono ?_
      rintro e w5 ⟨rfl, x⟩
      have X5 := Lib.hid (X4.out.trans x)
      skip
      clear x
      have p1 := IS.lit (k := .i64) (w := w5) (e := 3) (g := w5.heap.size) (n := 1) (xs := [1]) (arr := #[.int .i64 1]) rfl rfl rfl (by omega)
      have hiss := ISS.lit2 (k := .i64) (e := 22) (w := w5.alloc (.cells #[.int .i64 1] 3)) (g := w5.heap.size + 1) (by simp) p1 (IS.nil .i64 (w5.alloc (.cells #[.int .i64 1] 3)))
      have XJ := Lib.hid (X5.out.trans (((Ext.refl w5).alloc (.cells #[.int .i64 1] 3)).alloc (.cells #[.slice (some ⟨w5.heap.size, 0, none⟩) 1 1, .slice none 0 0] 22)))
      have HIss := Lib.hid hiss
      clear p1 hiss
      go_wp2_with fail
      refine (ShapesJoin_walk _ _ _ _ HIss.out (HY.out _ XJ.out)).mono ?_
      rintro e w6 ⟨rfl, x⟩
      have X6 := Lib.hid (XJ.out.trans x)
      skip
      clear x
      go_wp2_with fail
      refine (ShapesCheck_walk _ 0 [] _ _ (IS.nil _ _) (fun i hi => by simp at hi) (by omega) (HY.out _ X6.out)).mono ?_
      rintro e w7 ⟨rfl, x⟩
      have X7 := Lib.hid (X6.out.trans x)
      skip
      clear x
      have p2 := IS.lit (k := .i64) (w := w7) (e := 3) (g := w7.heap.size) (n := 2) (xs := [2, 5]) (arr := #[.int .i64 2, .int .i64 5]) rfl rfl rfl (by omega)
      have X7b := Lib.hid (X7.out.trans ((Ext.refl w7).alloc (.cells #[.int .i64 2, .int .i64 5] 3)))
      have HP2 := Lib.hid p2
      clear p2
      go_wp2_with fail
      refine (ShapesCheck_walk _ _ [2, 5] _ _ HP2.out (by decide) (by omega) (HY.out _ X7b.out)).mono ?_
      rintro e w8 ⟨rfl, x⟩
      have X8 := Lib.hid (X7b.out.trans x)
      skip
      clear x
      have p3 : IS .i64 (w8.alloc (.cells (madeCells #[.int .i64 0] 34) 3)) (.slice (some ⟨w8.heap.size, 0, none⟩) 34 34) 34 (List.replicate 34 0) :=
        IS.of_row (World.rowIs_made _ _ _ _) (by simp) (by unfold maxLen; omega) fun i hi => by
          rw [gi_of_lt (by rw [List.length_replicate]; exact hi), List.getElem_replicate]
      have X8b := Lib.hid (X8.out.trans ((Ext.refl w8).alloc (.cells (madeCells #[.int .i64 0] 34) 3)))
      have HP3 := Lib.hid p3
      clear p3
      go_wp2_with fail
      refine (ShapesCheck_walk _ _ (List.replicate 34 0) _ _ HP3.out (by decide) (by omega) (HY.out _ X8b.out)).mono ?_
      rintro e w9 ⟨rfl, x⟩
      have X9 := Lib.hid (X8b.out.trans x)
      skip
      clear x
      go_wp2_with fail
      refine (ShapesOf_walk _ 0 [] _ (RR.nil _) (fun l hl => by cases hl) (HY.out _ X9.out)).mono ?_
      rintro e w10 ⟨rfl, x⟩
      have X10 := Lib.hid (X9.out.trans x)
      skip
      clear x
      go_wp2_with fail
      refine (lives_calls _ (HY.out _ X10.out)).mono ?_
      rintro e w11 ⟨rfl, x⟩
      have X11 := Lib.hid (X10.out.trans x)
      skip
      clear x
      go_wp2
      go_ret
      exact ⟨rfl, X11.out⟩
end Go.Proofs.YtinijapkipeamaaDoor
