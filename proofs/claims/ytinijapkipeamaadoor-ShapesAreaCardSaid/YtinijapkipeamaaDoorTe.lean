/- shapes.Slope. -/
import Derived.Test.YtinijapkipeamaaDoorTd
namespace Go.Proofs.YtinijapkipeamaaDoor
set_option linter.unusedVariables false
set_option linter.unusedSimpArgs false
set_option maxRecDepth 8000
open Go Go.RowKit

/-- The width of a slope behind i of N rows. -/
def sl (f t : Int) (N i : Nat) : Int := (2 * (f * N + (t - f) * i) + N) / (2 * N)
def smk (f t : Int) (N : Nat) : List Int := (List.range (N + 1)).map (sl f t N)
/-- The error of a slope. -/
def serr (f t r : Int) : Int := if f < 2 ∨ 16 < f ∨ t < 2 ∨ 16 < t ∨ r < 1 ∨ 31 < r then 1 else jmp (smk f t r.toNat)
def sres (f t r : Int) : List Int := if serr f t r = 0 then smk f t r.toNat else []
theorem sl_pr {f t : Int} {N i : Nat} (hf : 2 ≤ f ∧ f ≤ 16) (ht : 2 ≤ t ∧ t ≤ 16) (hi : i ≤ N) : 2 * (N : Int) ≤ f * N + (t - f) * i ∧ f * N + (t - f) * i ≤ 16 * N ∧ 0 ≤ f * N ∧ f * N ≤ 16 * N ∧ -(14 * N) ≤ (t - f) * i ∧ (t - f) * i ≤ 14 * N := by
  obtain ⟨j, hj⟩ : ∃ j : Nat, N = i + j := ⟨N - i, by omega⟩
  subst hj
  have e1 : f * ((i + j : Nat) : Int) = f * i + f * j := by rw [Int.natCast_add, Int.mul_add]
  have e2 : (t - f) * (i : Int) = t * i - f * i := Int.sub_mul _ _ _
  have a1 := Int.mul_le_mul_of_nonneg_right hf.1 (show (0 : Int) ≤ i by omega)
  have a2 := Int.mul_le_mul_of_nonneg_right hf.2 (show (0 : Int) ≤ i by omega)
  have a3 := Int.mul_le_mul_of_nonneg_right hf.1 (show (0 : Int) ≤ j by omega)
  have a4 := Int.mul_le_mul_of_nonneg_right hf.2 (show (0 : Int) ≤ j by omega)
  have a5 := Int.mul_le_mul_of_nonneg_right ht.1 (show (0 : Int) ≤ i by omega)
  have a6 := Int.mul_le_mul_of_nonneg_right ht.2 (show (0 : Int) ≤ i by omega)
  rw [e1, e2]
  omega
theorem sl_iff {f t : Int} {N i : Nat} (hN : 1 ≤ N) (x : Int) : x ≤ sl f t N i ↔ x * (2 * N) ≤ 2 * (f * N + (t - f) * i) + N := by
  unfold sl
  exact Int.le_ediv_iff_mul_le (by omega)
theorem sl_bd {f t : Int} {N i : Nat} (hf : 2 ≤ f ∧ f ≤ 16) (ht : 2 ≤ t ∧ t ≤ 16) (hN : 1 ≤ N) (hi : i ≤ N) : 2 ≤ sl f t N i ∧ sl f t N i ≤ 16 := by
  have h := sl_pr hf ht hi
  constructor
  · rw [sl_iff hN]; omega
  · rcases Int.lt_or_le 16 (sl f t N i) with h' | h'
    · have : 17 ≤ sl f t N i := by omega
      rw [sl_iff hN] at this; omega
    · exact h'
theorem smk_len (f t : Int) (N : Nat) : (smk f t N).length = N + 1 := by simp [smk]
theorem smk_gi {f t : Int} {N i : Nat} (hi : i ≤ N) : gi (smk f t N) i = sl f t N i := gi_range_map _ (by omega)

set_option maxHeartbeats 2000000 in
theorem Slope_calls (f t r : Int) (w : World) : Calls Tryd.prog 17 #[.int .i64 f, .int .i64 t, .int .i64 r] w (RetIE .i64 w (sres f t r).length (sres f t r) (serr f t r)) := by
  by_cases hv : f < 2 ∨ 16 < f ∨ t < 2 ∨ 16 < t ∨ r < 1 ∨ 31 < r
  · have he : serr f t r = 1 := by unfold serr; rw [if_pos hv]
    have hs : sres f t r = [] := by unfold sres; rw [if_neg (by omega)]
    rw [he, hs]
    have hend : RetIE .i64 w ([] : List Int).length [] 1 (.returned (.tuple #[.slice none 0 0, .int .i64 1])) w := ⟨_, rfl, IS.nil _ _, Ext.refl w⟩
    have HE := Lib.hid hend
    clear hend he hs
    by_cases v1 : f < 2
    · clear hv
      go_enter Tryd.func17, Tryd.ntmps17
      go_wp2
      go_ret2
      exact HE.out
    by_cases v2 : 16 < f
    · clear hv
      go_enter Tryd.func17, Tryd.ntmps17
      go_wp2
      go_ret2
      exact HE.out
    by_cases v3 : t < 2
    · clear hv
      go_enter Tryd.func17, Tryd.ntmps17
      go_wp2
      go_ret2
      exact HE.out
    by_cases v4 : 16 < t
    · clear hv
      go_enter Tryd.func17, Tryd.ntmps17
      go_wp2
      go_ret2
      exact HE.out
    by_cases v5 : r < 1
    · clear hv
      go_enter Tryd.func17, Tryd.ntmps17
      go_wp2
      go_ret2
      exact HE.out
    · have v6 : 31 < r := by omega
      clear hv
      go_enter Tryd.func17, Tryd.ntmps17
      go_wp2
      go_ret2
      exact HE.out
  · have he : serr f t r = jmp (smk f t r.toNat) := by unfold serr; rw [if_neg hv]
    obtain ⟨N, rfl⟩ : ∃ N : Nat, r = N := ⟨r.toNat, by omega⟩
    rw [Int.toNat_natCast] at he
    have hf : 2 ≤ f ∧ f ≤ 16 := by omega
    have ht : 2 ≤ t ∧ t ≤ 16 := by omega
    have hN : 1 ≤ N ∧ N ≤ 31 := by omega
    clear hv
    obtain ⟨M, hM⟩ : ∃ M : Nat, M = N + 1 := ⟨_, rfl⟩
    have hbd := fun i (hi : i < M) => sl_bd (i := i) hf ht hN.1 (by omega)
    have hpr := fun i (hi : i < M) => sl_pr (N := N) (i := i) hf ht (by omega)
    have hbad : ∀ i, i + 1 < M → far (sl f t N i) (sl f t N (i + 1)) = true → ∀ w', Ext w w' → RetIE .i64 w (sres f t N).length (sres f t N) (serr f t N) (.returned (.tuple #[.slice none 0 0, .int .i64 14])) w' := fun i hi hb w' x => by
      have e14 : serr f t N = 14 := by
        rw [he]
        refine jmp_bad (i := i) (by rw [smk_len]; omega) ?_
        rw [smk_gi (by omega), smk_gi (by omega)]
        exact hb
      have hs : sres f t N = [] := by unfold sres; rw [if_neg (by omega)]
      rw [e14, hs]
      exact ⟨_, rfl, IS.nil _ _, x⟩
    have hok : ∀ g w', (∀ i, i + 1 < M → far (sl f t N i) (sl f t N (i + 1)) = false) → w'.rowIs w.heap.size 3 M g → (∀ i, i < M → g i = .int .i64 (sl f t N i)) → Ext w w' → RetIE .i64 w (sres f t N).length (sres f t N) (serr f t N) (.returned (.tuple #[.slice (some ⟨w.heap.size, 0, none⟩) M M, .int .i64 0])) w' := fun g w' hg hr hgi x => by
      have e0 : serr f t N = 0 := by
        rw [he]
        refine jmp_ok (fun i hi => ?_)
        rw [smk_len] at hi
        rw [smk_gi (by omega), smk_gi (by omega)]
        exact hg i (by omega)
      have hs : sres f t N = smk f t N := by unfold sres; rw [if_pos e0, Int.toNat_natCast]
      have hl : (smk f t N).length = M := by rw [smk_len, hM]
      rw [e0, hs, hl]
      exact ⟨_, rfl, IS.of_row hr hl.symm (by unfold maxLen; omega) (fun i hi => by rw [hgi i hi, smk_gi (by omega)]), x⟩
    have hmk := run_make_row' (P := Tryd.prog) 22 3 (.int .i64 0) 8 Tryd.underlying22 (by kernel_rfl) rfl .i64 .i64 M (by omega) (by omega)
    have HBd := Lib.hid hbd; have HPr := Lib.hid hpr; have HBad := Lib.hid hbad; have HOk := Lib.hid hok
    have tM : IntKind.i64.wrap ((N : Int) + 1) = (M : Int) := by rw [show (N : Int) + 1 = M by omega]; exact IntWalk.i64_in _ ⟨by omega, by omega⟩
    have tN : (M : Int) = (N : Int) + 1 := by omega
    have HtN := Lib.hid tN
    have HMN := Lib.hid hM
    obtain ⟨f1, f2⟩ := hf; obtain ⟨t1, t2⟩ := ht; obtain ⟨n1, n2⟩ := hN
    have m1 : M ≤ 32 := by omega
    have u1 : ¬ f < 2 := by omega
    have u2 : ¬ 16 < f := by omega
    have u3 : ¬ t < 2 := by omega
    have u4 : ¬ 16 < t := by omega
    have u5 : ¬ (N : Int) < 1 := by omega
    have u6 : ¬ 31 < (N : Int) := by omega
    clear hbd hpr hbad hok he tN hM
    go_enter Tryd.func17, Tryd.ntmps17
    go_wp2
    clear hmk tM
    go_loopw [9, 10, 38] (fun _ _ i wr => ∃ k : Nat, k ≤ M ∧ i = .int .i64 k ∧ Hid (Ext w wr) ∧ Hid (∀ j, j + 1 < k → far (sl f t N j) (sl f t N (j + 1)) = false) ∧ Hid (∃ g, wr.rowIs w.heap.size 3 M g ∧ ∀ j, j < k → g j = .int .i64 (sl f t N j))) (fun _ _ i _ => M - (intOf i).toNat)
    case atStart => exact ⟨0, Nat.zero_le _, rfl, Lib.hid ((Ext.refl w).alloc _), Lib.hid (fun j hj => by omega), Lib.hid ⟨_, World.rowIs_made _ _ _ _, fun j hj => by omega⟩⟩
    case round =>
      obtain ⟨k, hk, rfl, Hx, HG, HR⟩ := hrel
      by_cases hlt : k < M
      · obtain ⟨g, hrow, hg⟩ := HR.out
        have hfz := hrow.frozen k
        have hst := hrow.cell (i := k) hlt
        obtain ⟨p1, p2, p3, p4, p5, p6⟩ := HPr.out k hlt
        have hb := HBd.out k hlt
        have hN2 := HtN.out
        have hdiv : Int.tdiv (2 * (f * N + (t - f) * k) + N) (2 * N) = sl f t N k := by
          unfold sl; exact Int.tdiv_eq_ediv_of_nonneg (by omega)
        have hrow2 := hrow.set k (.int .i64 (sl f t N k))
        have hg2 : ∀ j, j < k + 1 → (if j = k then (.int .i64 (sl f t N k)) else g j) = .int .i64 (sl f t N j) := fun j hj => by
          by_cases e : j = k
          · rw [if_pos e, e]
          · rw [if_neg e]; exact hg j (by omega)
        have hext : Ext w (wr.setCell ⟨w.heap.size, k, none⟩ (.int .i64 (sl f t N k))) := Hx.out.setCell (Nat.le_refl _) _
        have w1 : IntKind.i64.wrap (f * N) = f * N := IntWalk.i64_in _ ⟨by omega, by omega⟩
        have w2 : IntKind.i64.wrap (t - f) = t - f := IntWalk.i64_in _ ⟨by omega, by omega⟩
        have w3 : IntKind.i64.wrap ((t - f) * k) = (t - f) * k := IntWalk.i64_in _ ⟨by omega, by omega⟩
        have w4 : IntKind.i64.wrap (f * N + (t - f) * k) = f * N + (t - f) * k := IntWalk.i64_in _ ⟨by omega, by omega⟩
        have w5 : IntKind.i64.wrap (2 * (f * N + (t - f) * k)) = 2 * (f * N + (t - f) * k) := IntWalk.i64_in _ ⟨by omega, by omega⟩
        have w6 : IntKind.i64.wrap (2 * (f * N + (t - f) * k) + N) = 2 * (f * N + (t - f) * k) + N := IntWalk.i64_in _ ⟨by omega, by omega⟩
        have w7 : IntKind.i64.wrap (2 * (N : Int)) = 2 * N := IntWalk.i64_in _ ⟨by omega, by omega⟩
        have w8 : IntKind.i64.wrap (sl f t N k) = sl f t N k := IntWalk.i64_in _ ⟨by omega, by omega⟩
        have w9 : (2 * (N : Int) == 0) = false := by rw [beq_eq_false_iff_ne]; omega
        have HN := Lib.hid (show ∃ g, (wr.setCell ⟨w.heap.size, k, none⟩ (.int .i64 (sl f t N k))).rowIs w.heap.size 3 M g ∧ ∀ j, j < k + 1 → g j = .int .i64 (sl f t N j) from ⟨_, hrow2, hg2⟩)
        have HX := Lib.hid hext
        by_cases k0 : k = 0
        · have HG2 := Lib.hid (show ∀ j, j + 1 < k + 1 → far (sl f t N j) (sl f t N (j + 1)) = false from fun j hj => by omega)
          have q0 : ¬ (0 : Int) < (k : Int) := by omega
          have q8 : ¬ 0 < k := by omega
          clear HR hrow hg hrow2 hg2 hext hN2 p1 p2 p3 p4 p5 p6 hb k0 HG
          generalize sl f t N k = S at *
          go_wp2
          go_quiet (fail)
          clear w1 w2 w3 w4 w5 w6 w7 w8 w9 hdiv hst hfz
          go_wp2
          go_roundw
          case rel => exact ⟨k + 1, by omega, by go_num, Lib.hid (by first | exact HX.out | exact HX.out.drewN _), HG2, Lib.hid (by obtain ⟨g, h1, h2⟩ := HN.out; exact ⟨g, by first | exact h1 | exact h1.drewN _ | exact h1.drew, h2⟩)⟩
          case measure => simp [intOf]; omega
        · have q0 : (0 : Int) < (k : Int) := by omega
          have q1 : (0 : Int) ≤ (k : Int) - 1 := by omega
          have q2 : ((k : Int) - 1).toNat = k - 1 := by omega
          have q3 : IntKind.i64.wrap ((k : Int) - 1) = (k : Int) - 1 := IntWalk.i64_in _ ⟨by omega, by omega⟩
          have q4 : (k : Int) - 1 < M := by omega
          have q5 : (1 : Int) ≤ (k : Int) := by omega
          have q6 : (0 : Int) ≤ (k : Int) := by omega
          have q7 : (k : Int) < M := by omega
          have q8 : 0 < k := by omega
          have hb1 := HBd.out (k - 1) (by omega)
          have c1 := hrow2.cell (i := k - 1) (by omega)
          have c2 := hrow2.cell (i := k) hlt
          rw [hg2 (k - 1) (by omega)] at c1
          rw [if_pos rfl] at c2
          have hap := fun w' => apart_calls (sl f t N (k - 1)) (sl f t N k) w' (by omega) (by omega)
          have hbk := HBad.out (k - 1) (by omega)
          rw [show k - 1 + 1 = k by omega] at hbk
          have hnx : far (sl f t N (k - 1)) (sl f t N k) = false → ∀ j, j + 1 < k + 1 → far (sl f t N j) (sl f t N (j + 1)) = false := fun h0 j hj => by
            by_cases e : j = k - 1
            · rw [e, show k - 1 + 1 = k by omega]; exact h0
            · exact HG.out j (by omega)
          generalize far (sl f t N (k - 1)) (sl f t N k) = q at hap hbk hnx
          have HAp := Lib.hid hap; have HBk := Lib.hid hbk; have HNx := Lib.hid hnx
          clear HR hrow hg hrow2 hg2 hext hN2 p1 p2 p3 p4 p5 p6 hb k0 HG hap hbk hnx hb1
          generalize sl f t N k = S at *
          generalize sl f t N (k - 1) = Y at *
          go_wp2
          go_quiet ((go_at_call 34; exact Calls.quiet_of_same ((HAp.out _).mono fun _ _ ⟨he, hw⟩ => ⟨he, hw.symm⟩)))
          clear w1 w2 w3 w4 w5 w6 w7 w8 w9 hdiv hst hfz c1 c2 q1 q2 q3 q4 q5 q6 q7 HAp
          cases hq : q
          · have HG2 := Lib.hid (HNx.out hq)
            clear HBk HNx hq
            go_wp2
            go_roundw
            case rel => exact ⟨k + 1, by omega, by go_num, Lib.hid (by first | exact HX.out | exact HX.out.drewN _), HG2, Lib.hid (by obtain ⟨g, h1, h2⟩ := HN.out; exact ⟨g, by first | exact h1 | exact h1.drewN _ | exact h1.drew, h2⟩)⟩
            case measure => simp [intOf]; omega
          · have HB := Lib.hid (HBk.out hq)
            clear HBk HNx hq
            go_wp2
            go_ret2
            exact HB.out _ (by first | exact HX.out | exact HX.out.drewN _)
      · obtain rfl : M = k := by omega
        obtain ⟨g, hrow, hg⟩ := HR.out
        have HF := Lib.hid (HOk.out g wr HG.out hrow hg Hx.out)
        clear hlt hk hrow hg HR
        go_wp2
        go_ret2
        exact HF.out
end Go.Proofs.YtinijapkipeamaaDoor
