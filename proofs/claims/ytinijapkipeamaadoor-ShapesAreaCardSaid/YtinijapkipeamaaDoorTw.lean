/- shapes.Of. -/
import Derived.Test.YtinijapkipeamaaDoorTn
import Derived.Test.YtinijapkipeamaaDoorWi
import Derived.Test.YtinijapkipeamaaDoorSm
import Derived.Test.YtinijapkipeamaaDoorSi
import Derived.Deep.RegionHeld3
namespace Go.Proofs.YtinijapkipeamaaDoor
set_option linter.unusedVariables false
set_option linter.unusedSimpArgs false
set_option maxRecDepth 8000
open Go Go.RowKit

/-- The yarn of the first stitch. -/
def y00 (rows : List (List St)) : Int := (si (sw rows 0) 0).y
def oferr (rows : List (List St)) : Int :=
  if (cloads rows).1 ≠ 0 then (cloads rows).1 else if cherr (wds rows) (y00 rows) = 0 ∧ chres (wds rows) (y00 rows) = rows then 0 else 7
/-- An outline, a yarn and an error are returned. -/
def RetOf (w0 : World) (l : List Int) (y err : Int) (e : Ending) (w' : World) : Prop := ∃ v c, e = .returned (.tuple #[v, .int .u8 y, .int .i64 err]) ∧ IS .i64 w' v c l ∧ Ext w0 w'
theorem cloads_cerr {rows : List (List St)} (h : (cloads rows).1 = 0) : cerr rows = 0 := by
  unfold cloads at h
  by_cases hc : cerr rows ≠ 0
  · rw [if_pos hc] at h; exact h
  · omega

set_option maxHeartbeats 4000000 in
theorem Of_calls (v : Value) (c : Nat) (rows : List (List St)) (w : World) (h : RR w v c rows) (hy : ∀ i, i < rows.length → ∀ s ∈ sw rows i, 0 ≤ s.y ∧ s.y ≤ 255) :
    Calls Tryd.prog 28 #[.agg #[v]] w (RetOf w (if oferr rows = 0 then wds rows else []) (if oferr rows = 0 then y00 rows else 0) (oferr rows)) := by
  have hck := fun w' (x : Ext w w') => CCheck_calls v c rows w' (h.ext x)
  have hsame := fun v2 c2 m w' (x : Ext w w') (h2 : RR w' v2 c2 m) => CSame_calls v2 v c2 c m rows w' h2 (h.ext x)
  have hRR := h
  obtain ⟨ao, n, rfl, hn, hc, hcm, hat⟩ := h.open
  obtain ⟨W, hW⟩ : ∃ W, W = w.alloc (.cells #[.slice ao n c] 26) := ⟨_, rfl⟩
  have xW : Ext w W := by rw [hW]; exact (Ext.refl w).alloc _
  have b0 : W.cell? ⟨w.heap.size, 0, none⟩ = some (.slice ao n c) := by rw [hW, World.cell?_alloc_at (hn := rfl)]; rfl
  have HBx := Lib.hid (fun w' (x : Ext W w') => x.cell b0); have XW := Lib.hid xW
  have hbad : ∀ w' e, Ext w w' → e = oferr rows → e ≠ 0 → RetOf w (if oferr rows = 0 then wds rows else []) (if oferr rows = 0 then y00 rows else 0) (oferr rows) (.returned (.tuple #[.slice none 0 0, .int .u8 0, .int .i64 e])) w' := fun w' e x h1 h2 => by
    rw [if_neg (by omega), if_neg (by omega), ← h1]; exact ⟨_, 0, rfl, IS.nil _ _, x⟩
  have hgood : ∀ w' v c, Ext w w' → oferr rows = 0 → IS .i64 w' v c (wds rows) → RetOf w (if oferr rows = 0 then wds rows else []) (if oferr rows = 0 then y00 rows else 0) (oferr rows) (.returned (.tuple #[v, .int .u8 (y00 rows), .int .i64 0])) w' := fun w' v c x h1 h2 => by
    rw [if_pos h1, if_pos h1, h1]; exact ⟨v, c, rfl, h2, x⟩
  have HBad := Lib.hid hbad; have HGood := Lib.hid hgood
  have hof0 : oferr rows = if (cloads rows).1 ≠ 0 then (cloads rows).1 else if cherr (wds rows) (y00 rows) = 0 ∧ chres (wds rows) (y00 rows) = rows then 0 else 7 := rfl
  generalize (if oferr rows = 0 then wds rows else []) = RL at *
  generalize (if oferr rows = 0 then y00 rows else 0) = RY at *
  generalize oferr rows = RE at *
  by_cases he : (cloads rows).1 = 0
  · have hce := cloads_cerr he
    obtain ⟨r1, r2, r3, r4⟩ := cerr_zero hce
    have hz := fun i (hi : i < rows.length) => rchk_zero (r3 i hi)
    have hwd := fun w' (x : Ext w w') => Widths_calls _ c rows w' (hRR.ext x) (fun i hi => by have := hz i hi; omega) (by omega)
    have hck0 := fun w' x => hck w' x
    rw [he] at hck0
    obtain ⟨b, o, a, m, d, rfl, hc0, hr0⟩ := hat 0 (by omega)
    rw [Nat.add_zero] at hc0
    obtain ⟨ao2, n2, e1, e2, _, _, e5⟩ := hr0.open
    simp only [Value.slice.injEq] at e1
    obtain ⟨rfl, rfl, _⟩ := e1
    have hm0 : 0 < m := by have := hz 0 (by omega); omega
    obtain ⟨b2, o2, rfl, h5⟩ := e5 0 hm0
    have hyc := h5.2.1
    rw [Nat.zero_mul, Nat.add_zero] at hyc
    have hyb : 0 ≤ y00 rows ∧ y00 rows ≤ 255 := hy 0 (by omega) _ (si_mem (by omega))
    have hch := fun w' v c (hi : IS .i64 w' v c (wds rows)) => Chart_calls v c (wds rows) (y00 rows) w' hi hyb
    have hof : RE = if cherr (wds rows) (y00 rows) = 0 ∧ chres (wds rows) (y00 rows) = rows then 0 else 7 := by rw [hof0, if_neg (by omega)]
    have hyc' : w.cell? ⟨b2, o2 + 1, none⟩ = some (.int .u8 (y00 rows)) := hyc
    generalize y00 rows = Y at *
    have HC0 := Lib.hid (fun w' (x : Ext w w') => x.cell hc0); have HY := Lib.hid (fun w' (x : Ext w w') => x.cell hyc')
    have HCk := Lib.hid hck0; have HWd := Lib.hid hwd; have HCh := Lib.hid hch; have HOf := Lib.hid hof; have HSa := Lib.hid hsame
    have t0 : (0 : Int) < n := by omega
    have t1 : (0 : Int) < m := by omega
    have t0' : 0 < n := by omega
    have bb := b0
    rw [hW] at bb
    have HW := Lib.hid hW
    clear hof0 hgood hck hck0 hsame hRR hbad he hce r1 r2 r3 r4 hz hwd hc0 hr0 e2 e5 h5 hyc hyc' hch hof hat h b0 hW xW hy hn
    go_enter Tryd.func28, Tryd.ntmps28
    go_wp2_with fail
    rw [← HW.out]
    refine (HCk.out _ XW.out).mono ?_
    rintro e w1 ⟨rfl, x1⟩
    have X1 := Lib.hid (XW.out.trans x1)
    have XW1 := Lib.hid x1
    have c1 := HBx.out _ x1
    have c2 := HC0.out _ X1.out
    have c3 := HY.out _ X1.out
    clear x1 HCk bb
    go_wp2
    go_region_held3 (fun w' => w'.cell? ⟨w.heap.size, 0, Option.none⟩ = some (.slice (some ⟨b, o, Option.none⟩) n c) ∧ w'.cell? ⟨b, o, Option.none⟩ = some (.slice (some ⟨b2, o2, Option.none⟩) m d) ∧ w'.cell? ⟨b2, o2 + 1, Option.none⟩ = some (.int .u8 Y))
      (first | exact ⟨c1, c2, c3⟩ | exact ⟨z1, z2, z3⟩ | go_keep) (first
      | (go_at_call 27; (refine (HWd.out _ ?_).mono ?_); (focus (refine X1.out.trans ?_; repeat (first | (with_reducible exact Ext.refl _) | (with_reducible apply Ext.drew) | (with_reducible apply Ext.drewN)))); intro e w2 hh; obtain ⟨v2, k2, rfl, i2, x2⟩ := hh; have X2 : Hid (Ext w1 w2) := Lib.hid (Ext.trans (by (repeat (first | (with_reducible exact Ext.refl _) | (with_reducible apply Ext.drew) | (with_reducible apply Ext.drewN)))) x2); have I2 := Lib.hid i2; have z1 := X2.out.cell c1; have z2 := X2.out.cell c2; have z3 := X2.out.cell c3; clear i2 x2))
    have X3 := Lib.hid (X1.out.trans X2.out)
    clear z1 z2 z3 c1 c2 c3
    go_wp2_with fail
    refine (HCh.out _ _ _ I2.out).mono ?_
    rintro e w3 ⟨v3, rfl, r3, x3⟩
    obtain ⟨a3, n3, rfl, q3⟩ := r3.open
    clear q3
    obtain ⟨cc, hcc⟩ : ∃ cc, cc = (chres (wds rows) Y).length := ⟨_, rfl⟩
    rw [← hcc] at r3 ⊢
    obtain ⟨w4, hw4⟩ : ∃ w4, w4 = w3.alloc (.cells #[.slice a3 n3 cc] 26) := ⟨_, rfl⟩
    have x4 : Ext w3 w4 := by rw [hw4]; exact (Ext.refl w3).alloc _
    have d4 : w4.cell? ⟨w3.heap.size, 0, none⟩ = some (.slice a3 n3 cc) := by rw [hw4, World.cell?_alloc_at (hn := rfl)]; rfl
    have X4 := Lib.hid (X3.out.trans (x3.trans x4))
    have d5 := HBx.out _ (XW1.out.trans (X2.out.trans (x3.trans x4)))
    have R4 := Lib.hid (r3.ext x4)
    rw [hw4] at d4 d5
    have HW4 := Lib.hid hw4
    have I4 := Lib.hid (I2.out.ext (x3.trans x4))
    have hsa := HSa.out _ _ _ w4 X4.out R4.out
    have HSa2 := Lib.hid hsa
    have hof := HOf.out
    clear r3 x3 x4 hcc hw4 hsa HCh HWd
    by_cases hce : cherr (wds rows) Y = 0
    · rw [hce]
      by_cases hsm : chres (wds rows) Y = rows
      · rw [if_pos ⟨hce, hsm⟩] at hof
        have hsa := HSa2.out
        rw [decide_eq_true hsm] at hsa
        have HS3 := Lib.hid hsa
        have HOf2 := Lib.hid hof
        clear hof hsa hce hsm
        go_wp2_with fail
        rw [← HW4.out]
        refine HS3.out.mono ?_
        rintro e w5 ⟨rfl, x5⟩
        have HF := Lib.hid (HGood.out w5 _ _ (X4.out.trans x5) HOf2.out (I4.out.ext x5))
        clear x5 d4 d5
        go_wp2
        exact bodyPost_ret (v := .tuple #[v2, .int .u8 Y, .int .i64 0]) (by simp [results, Tryd.results28, go_sem]) rfl HF.out
      · rw [if_neg (fun h => hsm h.2)] at hof
        have hsa := HSa2.out
        rw [decide_eq_false hsm] at hsa
        have HS3 := Lib.hid hsa
        have HOf2 := Lib.hid hof
        clear hof hsa hce hsm
        go_wp2_with fail
        rw [← HW4.out]
        refine HS3.out.mono ?_
        rintro e w5 ⟨rfl, x5⟩
        have HF := Lib.hid (HBad.out w5 7 (X4.out.trans x5) HOf2.out.symm (by decide))
        clear x5 d4 d5
        go_wp2
        exact bodyPost_ret (v := .tuple #[.slice none 0 0, .int .u8 0, .int .i64 7]) (by simp [results, Tryd.results28, go_sem]) rfl HF.out
    · rw [if_neg (fun h => hce h.1)] at hof
      have HF := Lib.hid (HBad.out w4 7 X4.out hof.symm (by decide))
      have tq : (cherr (wds rows) Y != 0) = true := by rw [bne, beq_eq_false_iff_ne.2 hce]; rfl
      rw [HW4.out] at HF
      clear hof hce d4 d5
      go_wp2
      exact bodyPost_ret (v := .tuple #[.slice none 0 0, .int .u8 0, .int .i64 7]) (by simp [results, Tryd.results28, go_sem]) rfl HF.out
  · have hof : (cloads rows).1 = RE := by rw [hof0, if_pos he]
    have HF := Lib.hid (fun w' x => HBad.out w' RE x rfl (by rw [← hof]; exact he))
    have hck0 := fun w' x => hck w' x
    rw [hof] at hck0
    have tq : (RE != 0) = true := by rw [bne, beq_eq_false_iff_ne.2 (by rw [← hof]; exact he)]; rfl
    have HCk := Lib.hid hck0
    have HW := Lib.hid hW
    rw [hW] at b0
    clear hof hof0 hgood hck hck0 hsame hRR hbad he hat h hW xW hy hn
    go_enter Tryd.func28, Tryd.ntmps28
    go_wp2_with fail
    rw [← HW.out]
    refine (HCk.out _ XW.out).mono ?_
    rintro e w1 ⟨rfl, x1⟩
    have HF2 := Lib.hid (HF.out _ (XW.out.trans x1))
    clear x1 HCk b0
    go_wp2
    exact bodyPost_ret (v := .tuple #[.slice none 0 0, .int .u8 0, .int .i64 RE]) (by simp [results, Tryd.results28, go_sem]) rfl HF2.out
end Go.Proofs.YtinijapkipeamaaDoor
