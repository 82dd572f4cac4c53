/- Texts of this claim in one file: libraries and walks. -/
import Derived.Test.YtlmkcojimhbmiaaL4
import Derived.Test.YtlmkcojimhbmiaaL5
import Derived.Test.YtlmkcojimhbmiaaL14
import Derived.Test.YtlmkcojimhbmiaaL15
/- The examples of chapter 15. -/
namespace Go.Proofs.Ytlmkcojimhbmiaa
set_option linter.unusedVariables false
set_option linter.unusedSimpArgs false
set_option maxRecDepth 20000
open Go Go.RowKit

def mL : List (List St) := [[st1 1]]
def mT : List (List St) := [[st1 2, st1 1]]
def mR : List (List St) := [[st1 1, st1 2]]
def rA : List St := [st1 1, st1 2, st1 1, st1 2, st1 1, st1 1, st1 2]
def rC : List St := [st1 2, st1 1, st1 1, st1 2, st1 1]
def rD : List St := [st1 1, st1 2, st1 1, st1 1, st1 2]
theorem ex15 : (prgE mL mT mR 2 1 = 0 ∧ prgR mL mT mR 2 1 = [rA]) ∧ (fitE mL mT mR 7 = 0 ∧ fitN mL mT mR 7 = 2) ∧ fitE mL mT mR 6 = 7 ∧ (prgE (mirC mR) (mirC mT) (mirC mL) 1 1 = 0 ∧ prgR (mirC mR) (mirC mT) (mirC mL) 1 1 = [rC]) ∧ (prgE mL mT mR 1 3 = 0 ∧ prgR mL mT mR 1 3 = [rD, rD, rD]) ∧ prgE mL mT mR 1 2 = 1 := by decide
theorem tile_c (u0 u1 u2 : Value) (c0 c1 c2 : Nat) (L T R : List (List St)) (n : Int) (w : World) (P : List (List St)) (E : Int) (h0 : RR w u0 c0 L) (h1 : RR w u1 c1 T) (h2 : RR w u2 c2 R) (hE : prgE L T R n 1 = E) (hP : prgR L T R n 1 = P) : Calls Try.prog 25 #[.agg #[u0, u1, u2], .int .i64 n] w (RetCO w P E) := by rw [← hE, ← hP]; exact Tile_calls _ _ _ _ _ _ L T R n w h0 h1 h2
theorem stack_c (u0 u1 u2 : Value) (c0 c1 c2 : Nat) (L T R : List (List St)) (n up : Int) (w : World) (P : List (List St)) (E : Int) (h0 : RR w u0 c0 L) (h1 : RR w u1 c1 T) (h2 : RR w u2 c2 R) (hE : prgE L T R n up = E) (hP : prgR L T R n up = P) : Calls Try.prog 14 #[.agg #[u0, u1, u2], .int .i64 n, .int .i64 up] w (RetCO w P E) := by rw [← hE, ← hP]; exact Stack_calls _ _ _ _ _ _ L T R n up w h0 h1 h2
theorem df_c (v1 v2 : Value) (c1 c2 : Nat) (l : List (List St)) (w : World) (h1 : RR w v1 c1 l) (h2 : RR w v2 c2 l) : Calls Try.prog 17 #[.agg #[v1], .agg #[v2]] w fun e w' => e = .returned (.int .i64 0) ∧ Ext w w' := by
  have := Differ_calls v1 v2 c1 c2 l l w h1 h2
  rw [dif_same] at this
  exact this
theorem RR.lit3 {w : World} {g : Nat} {u0 u1 u2 : Value} {c0 c1 c2 : Nat} {l0 l1 l2 : List St} (hb : w.heap[g]? = some (.cells #[u0, u1, u2] 59 (0, 0))) (h0 : RS w u0 c0 l0) (h1 : RS w u1 c1 l1) (h2 : RS w u2 c2 l2) : RR w (.slice (some ⟨g, 0, none⟩) 3 3) 3 [l0, l1, l2] := by
  refine ⟨_, fun i => [u0, u1, u2].getD i undef, fun i => [c0, c1, c2].getD i 0, rfl, Nat.le_refl _, by unfold maxLen; simp, .inr ⟨g, 0, rfl, fun i hi => ?_⟩, fun i hi => ?_⟩
  · have hi' : i < 3 := hi
    rcases (show i = 0 ∨ i = 1 ∨ i = 2 by omega) with rfl | rfl | rfl <;> simp [World.cell?, hb]
  · have hi' : i < 3 := hi
    rcases (show i = 0 ∨ i = 1 ∨ i = 2 by omega) with rfl | rfl | rfl
    · simpa [sw] using h0
    · simpa [sw] using h1
    · simpa [sw] using h2
theorem df_d {w0 W : World} {v1 u : Value} {d : Nat} (x : Ext (w0.alloc (.cells #[u, u, u] 59)) W) (h1 : RR W v1 3 [rD, rD, rD]) (hu : RS W u d rD) :
    Calls Try.prog 17 #[.agg #[v1], .agg #[.slice (some ⟨w0.heap.size, 0, none⟩) 3 3]] W fun e w' => e = .returned (.int .i64 0) ∧ Ext W w' :=
  df_c _ _ _ _ _ _ h1 (RR.lit3 (x.block (blk_at rfl)) hu hu hu)
theorem words_7 {w W : World} (x : Ext (w.alloc (.cells #[.int .u8 1, .int .u8 2, .int .u8 1, .int .u8 2, .int .u8 1, .int .u8 1, .int .u8 2] 65)) W) : Calls Try.prog 38 #[.slice (some ⟨w.heap.size, 0, none⟩) 7 7] W (RetCC W [rA]) :=
  words_calls _ _ [1, 2, 1, 2, 1, 1, 2] _ ((IS.lit (k := .u8) (xs := [1, 2, 1, 2, 1, 1, 2]) (by rfl) rfl rfl (by decide)).ext x) (by decide)
theorem words_5 {w W : World} (x : Ext (w.alloc (.cells #[.int .u8 2, .int .u8 1, .int .u8 1, .int .u8 2, .int .u8 1] 65)) W) : Calls Try.prog 38 #[.slice (some ⟨w.heap.size, 0, none⟩) 5 5] W (RetCC W [rC]) :=
  words_calls _ _ [2, 1, 1, 2, 1] _ ((IS.lit (k := .u8) (xs := [2, 1, 1, 2, 1]) (by rfl) rfl rfl (by decide)).ext x) (by decide)
theorem blk_at2 {w : World} {o o' : Obj} {g : Nat} (h : g = w.heap.size) (ho : o = o') : (w.alloc o).heap[g]? = some o' := by rw [← ho]; exact blk_at h
set_option maxHeartbeats 8000000 in
theorem lives15_calls (w : World) : Calls Try.prog 18 #[] w fun e w' => e = .returned (.bool true) ∧ Ext w w' := by
  go_enter Try.func18, Try.ntmps18
  go_wp2_with fail
  refine (words_calls _ _ [1] _ (IS.lit (by rfl) rfl rfl (by decide)) (by decide)).mono ?_
  rintro e w1 ⟨v1, d1, rfl, r1, x⟩
  have X1 := Lib.hid (((Ext.refl w).alloc _).trans x)
  obtain ⟨a1, n1, hv1, j1, j2, j3, j4⟩ := r1.open
  subst hv1
  have R1 := Lib.hid r1
  clear r1 j1 j2 j3 j4
  clear x
  go_wp2_with fail
  refine (words_calls _ _ [2, 1] _ (IS.lit (by rfl) rfl rfl (by decide)) (by decide)).mono ?_
  rintro e w2 ⟨v2, d2, rfl, r2, x⟩
  have X2 := Lib.hid ((X1.out.alloc _).trans x)
  obtain ⟨a2, n2, hv2, j1, j2, j3, j4⟩ := r2.open
  subst hv2
  have R2 := Lib.hid r2
  clear r2 j1 j2 j3 j4
  replace R1 := Lib.hid (R1.out.ext (Ext.trans (by (repeat (first | (with_reducible exact Ext.refl _) | (with_reducible apply Ext.alloc)))) x))
  clear x
  go_wp2_with fail
  refine (words_calls _ _ [1, 2] _ (IS.lit (by rfl) rfl rfl (by decide)) (by decide)).mono ?_
  rintro e w3 ⟨v3, d3, rfl, r3, x⟩
  have X3 := Lib.hid ((X2.out.alloc _).trans x)
  obtain ⟨a3, n3, hv3, j1, j2, j3, j4⟩ := r3.open
  subst hv3
  have R3 := Lib.hid r3
  clear r3 j1 j2 j3 j4
  replace R1 := Lib.hid (R1.out.ext (Ext.trans (by (repeat (first | (with_reducible exact Ext.refl _) | (with_reducible apply Ext.alloc)))) x))
  replace R2 := Lib.hid (R2.out.ext (Ext.trans (by (repeat (first | (with_reducible exact Ext.refl _) | (with_reducible apply Ext.alloc)))) x))
  clear x
  obtain ⟨W, hW⟩ : ∃ W, W = w3.alloc (.cells #[.slice a1 n1 d1, .slice a2 n2 d2, .slice a3 n3 d3] 26) := ⟨_, rfl⟩
  have xW : Ext w3 W := by rw [hW]; exact (Ext.refl w3).alloc _
  have hbx : W.heap[w3.heap.size]? = some (Obj.cells #[.slice a1 n1 d1, .slice a2 n2 d2, .slice a3 n3 d3] 26 (0, 0)) := by rw [hW]; exact blk_at rfl
  have b0 : W.cell? ⟨w3.heap.size, 0, none⟩ = some (.slice a1 n1 d1) := by simp [World.cell?, hbx]
  have b1 : W.cell? ⟨w3.heap.size, 1, none⟩ = some (.slice a2 n2 d2) := by simp [World.cell?, hbx]
  have b2 : W.cell? ⟨w3.heap.size, 2, none⟩ = some (.slice a3 n3 d3) := by simp [World.cell?, hbx]
  have B0 := Lib.hid (fun w' (x : Ext W w') => x.cell b0); have B1 := Lib.hid (fun w' (x : Ext W w') => x.cell b1); have B2 := Lib.hid (fun w' (x : Ext W w') => x.cell b2)
  have M0 := Lib.hid (fun w' (x : Ext W w') => R1.out.ext (xW.trans x))
  have M1 := Lib.hid (fun w' (x : Ext W w') => R2.out.ext (xW.trans x))
  have M2 := Lib.hid (fun w' (x : Ext W w') => R3.out.ext (xW.trans x))
  have XW := Lib.hid (X3.out.trans xW); have HW := Lib.hid hW
  obtain ⟨⟨e1, e2⟩, ⟨e3, e4⟩, e5, ⟨e6, e7⟩, ⟨e8, e9⟩, e10⟩ := ex15
  have E1 := Lib.hid e1
  have E2 := Lib.hid e2
  have E3 := Lib.hid e3
  have E4 := Lib.hid e4
  have E5 := Lib.hid e5
  have E6 := Lib.hid e6
  have E7 := Lib.hid e7
  have E8 := Lib.hid e8
  have E9 := Lib.hid e9
  have E10 := Lib.hid e10
  clear e1 e2 e3 e4 e5 e6 e7 e8 e9 e10
  rw [hW] at b0 b1 b2
  clear hW xW hbx
  go_wp2_with fail
  rw [← HW.out]
  refine (tile_c _ _ _ _ _ _ mL mT mR 2 W [rA] 0 (M0.out _ (Ext.refl W)) (M1.out _ (Ext.refl W)) (M2.out _ (Ext.refl W)) E1.out E2.out).mono ?_
  rintro e w4 ⟨v4, rfl, o4, r4⟩
  have Y4 := Lib.hid o4.1
  obtain ⟨a4, n4, hv4, j1, j2, j3, j4⟩ := r4.open
  subst hv4
  have R4 : Hid (RR w4 (.slice a4 n4 1) 1 [rA]) := Lib.hid r4
  clear r4 o4 j1 j2 j3 j4
  clear b0 b1 b2
  obtain ⟨W4, hW4⟩ : ∃ W4, W4 = w4.alloc (.cells #[.slice a4 n4 1] 24) := ⟨_, rfl⟩
  have x4 : Ext w4 W4 := by rw [hW4]; exact (Ext.refl w4).alloc _
  have cA : W4.cell? ⟨w4.heap.size, 0, none⟩ = some (.slice a4 n4 1) := by rw [hW4, World.cell?_alloc_at (hn := rfl)]; rfl
  have CA := Lib.hid (fun w' (x : Ext W4 w') => x.cell cA); have RA := Lib.hid (fun w' (x : Ext W4 w') => R4.out.ext (x4.trans x)); have X4 := Lib.hid (Y4.out.trans x4); have HW4 := Lib.hid hW4
  have b0 := B0.out _ X4.out
  have b1 := B1.out _ X4.out
  have b2 := B2.out _ X4.out
  rw [hW4] at b0
  rw [hW4] at b1
  rw [hW4] at b2
  clear x4 hW4 cA
  go_wp2_with fail
  rw [← HW4.out]
  refine (Fit_calls _ _ _ _ _ _ mL mT mR 7 W4 (M0.out _ X4.out) (M1.out _ X4.out) (M2.out _ X4.out)).mono ?_
  rintro e w5 ⟨rfl, x⟩
  rw [E3.out, E4.out]
  have Z5 := Lib.hid x
  have X5 := Lib.hid (X4.out.trans x)
  clear x
  clear b0 b1 b2
  have b0 := B0.out _ X5.out
  have b1 := B1.out _ X5.out
  have b2 := B2.out _ X5.out
  go_wp2_with fail
  refine (Fit_calls _ _ _ _ _ _ mL mT mR 6 w5 (M0.out _ X5.out) (M1.out _ X5.out) (M2.out _ X5.out)).mono ?_
  rintro e w6 ⟨rfl, x⟩
  rw [E5.out]
  have Z6 := Lib.hid (Z5.out.trans x)
  have X6 := Lib.hid (X5.out.trans x)
  clear x
  clear b0 b1 b2
  obtain ⟨z6, hz6⟩ : ∃ z6, z6 = fitN mL mT mR 6 := ⟨_, rfl⟩
  rw [← hz6]
  clear hz6
  have b0 := B0.out _ X6.out
  have b1 := B1.out _ X6.out
  have b2 := B2.out _ X6.out
  go_wp2_with fail
  refine (MMirror_calls _ _ _ _ _ _ mL mT mR w6 (M0.out _ X6.out) (M1.out _ X6.out) (M2.out _ X6.out) (by decide) (by decide) (by decide)).mono ?_
  rintro e w7 ⟨s0, s1, s2, rfl, t0, t1, t2, x⟩
  have Z7 := Lib.hid (Z6.out.trans x)
  have X7 := Lib.hid (X6.out.trans x)
  clear x
  clear b0 b1 b2
  obtain ⟨p0, q0, hv, j1, j2, j3, j4⟩ := t0.open
  subst hv
  have T0 := Lib.hid t0
  clear t0 j1 j2 j3 j4
  obtain ⟨p1, q1, hv, j1, j2, j3, j4⟩ := t1.open
  subst hv
  have T1 := Lib.hid t1
  clear t1 j1 j2 j3 j4
  obtain ⟨p2, q2, hv, j1, j2, j3, j4⟩ := t2.open
  subst hv
  have T2 := Lib.hid t2
  clear t2 j1 j2 j3 j4
  go_wp2_with fail
  refine (tile_c _ _ _ _ _ _ (mirC mR) (mirC mT) (mirC mL) 1 w7 [rC] 0 T0.out T1.out T2.out E6.out E7.out).mono ?_
  rintro e w8 ⟨v8, rfl, o8, r8⟩
  have Z8 := Lib.hid (Z7.out.trans o8.1)
  have X8 := Lib.hid (X7.out.trans o8.1)
  obtain ⟨a8, n8, hv8, j1, j2, j3, j4⟩ := r8.open
  subst hv8
  have R8 : Hid (RR w8 (.slice a8 n8 1) 1 [rC]) := Lib.hid r8
  clear r8 o8 j1 j2 j3 j4
  obtain ⟨W8, hW8⟩ : ∃ W8, W8 = w8.alloc (.cells #[.slice a8 n8 1] 24) := ⟨_, rfl⟩
  have x8 : Ext w8 W8 := by rw [hW8]; exact (Ext.refl w8).alloc _
  have cC : W8.cell? ⟨w8.heap.size, 0, none⟩ = some (.slice a8 n8 1) := by rw [hW8, World.cell?_alloc_at (hn := rfl)]; rfl
  have CC := Lib.hid (fun w' (x : Ext W8 w') => x.cell cC); have RC := Lib.hid (fun w' (x : Ext W8 w') => R8.out.ext (x8.trans x)); have Z9 := Lib.hid (Z8.out.trans x8); have X9 := Lib.hid (X8.out.trans x8); have HW8 := Lib.hid hW8
  have b0 := B0.out _ X9.out
  have b1 := B1.out _ X9.out
  have b2 := B2.out _ X9.out
  rw [hW8] at b0
  rw [hW8] at b1
  rw [hW8] at b2
  clear x8 hW8 cC
  go_wp2_with fail
  rw [← HW8.out]
  refine (stack_c _ _ _ _ _ _ mL mT mR 1 3 W8 [rD, rD, rD] 0 (M0.out _ X9.out) (M1.out _ X9.out) (M2.out _ X9.out) E8.out E9.out).mono ?_
  rintro e w9 ⟨v9, rfl, o9, r9⟩
  have V9 := Lib.hid o9.1
  have X10 := Lib.hid (X9.out.trans o9.1)
  obtain ⟨a9, n9, hv9, j1, j2, j3, j4⟩ := r9.open
  subst hv9
  have R9 : Hid (RR w9 (.slice a9 n9 3) 3 [rD, rD, rD]) := Lib.hid r9
  clear r9 o9 j1 j2 j3 j4
  clear b0 b1 b2
  obtain ⟨W9, hW9⟩ : ∃ W9, W9 = w9.alloc (.cells #[.slice a9 n9 3] 24) := ⟨_, rfl⟩
  have x9 : Ext w9 W9 := by rw [hW9]; exact (Ext.refl w9).alloc _
  have cD : W9.cell? ⟨w9.heap.size, 0, none⟩ = some (.slice a9 n9 3) := by rw [hW9, World.cell?_alloc_at (hn := rfl)]; rfl
  have CD := Lib.hid (fun w' (x : Ext W9 w') => x.cell cD); have RD := Lib.hid (fun w' (x : Ext W9 w') => R9.out.ext (x9.trans x)); have V10 := Lib.hid (V9.out.trans x9); have X11 := Lib.hid (X10.out.trans x9); have HW9 := Lib.hid hW9
  have b0 := B0.out _ X11.out
  have b1 := B1.out _ X11.out
  have b2 := B2.out _ X11.out
  rw [hW9] at b0
  rw [hW9] at b1
  rw [hW9] at b2
  clear x9 hW9 cD
  obtain ⟨P10, hP10⟩ : ∃ P, prgR mL mT mR 1 2 = P := ⟨_, rfl⟩
  go_wp2_with fail
  rw [← HW9.out]
  refine (stack_c _ _ _ _ _ _ mL mT mR 1 2 W9 P10 1 (M0.out _ X11.out) (M1.out _ X11.out) (M2.out _ X11.out) E10.out hP10).mono ?_
  rintro e w10 ⟨v10, rfl, o10, r10⟩
  have U10 := Lib.hid o10.1
  have X12 := Lib.hid (X11.out.trans o10.1)
  obtain ⟨a10, n10, hv10, j1, j2, j3, j4⟩ := r10.open
  subst hv10
  clear r10 o10 j1 j2 j3 j4
  clear b0 b1 b2
  clear hP10
  go_wp2_with fail
  refine (words_calls _ _ [1, 2, 1, 1, 2] _ (IS.lit (by rfl) (by simp) rfl (by decide)) (by decide)).mono ?_
  rintro e w11 ⟨v11, d11, rfl, r11, x⟩
  have U11 := Lib.hid (((U10.out.alloc _).alloc _).trans x)
  have X13 := Lib.hid (((X12.out.alloc _).alloc _).trans x)
  obtain ⟨a11, n11, hv11, j1, j2, j3, hat⟩ := r11.open
  subst hv11
  obtain rfl : n11 = 1 := j1
  obtain ⟨b, oo, ra, rn, rd, rfl, y1, y2⟩ := hat 0 (by omega)
  rw [Nat.add_zero] at y1
  have RW := Lib.hid y2
  clear r11 j2 j3 hat y2 x
  have hfld : (Instr.field 24 (.agg #[.slice (some ⟨b, oo, none⟩) 1 d11]) 0).run Try.prog w11 = .ok (.slice (some ⟨b, oo, none⟩) 1 d11) w11 := by kernel_rfl
  have q0_1 := CA.out w11 ((Z9.out.trans V10.out).trans U11.out)
  have q0_2 := CC.out w11 (V10.out.trans U11.out)
  have q0_3 := CD.out w11 U11.out
  have RA2 := Lib.hid (RA.out w11 ((Z9.out.trans V10.out).trans U11.out)); have RC2 := Lib.hid (RC.out w11 (V10.out.trans U11.out)); have RD2 := Lib.hid (RD.out w11 U11.out)
  have XF := Lib.hid (XW.out.trans X13.out)
  clear CA CC CD RA RC RD Z5 Z6 Z7 Z8 Z9 V9 V10 U10 U11
  clear XW X1 X2 X3 X4 X5 X6 X7 X8 X9 X10 X11 X12 X13 R1 R2 R3 R4 R8 R9 B0 B1 B2 M0 M1 M2 T0 T1 T2 E1 E2 E3 E4 E5 E6 E7 E8 E9 E10 HW HW4 HW8 HW9
  go_wp2_with fail
  refine wp_region_held_drew (S := fun w' => w'.cell? ⟨w4.heap.size, 0, Option.none⟩ = some (.slice a4 n4 1) ∧ w'.cell? ⟨w8.heap.size, 0, Option.none⟩ = some (.slice a8 n8 1) ∧ w'.cell? ⟨w9.heap.size, 0, Option.none⟩ = some (.slice a9 n9 3)) (by kernel_rfl) ?_ (fun hHeld => ?_)
  · exact ⟨q0_1, q0_2, q0_3⟩
  refine wpAnyH_take (i := 0) (v := ?va242_0) rfl (by kernel_rfl) (by kernel_rfl) (by kernel_rfl) (fun _ _ _ h => h) (Or.inl ⟨by rfl, fun w hSw => ?ti242_0⟩) (by assumption) ?rest242_0
  case ti242_0 => ((try dsimp only at hSw); go_simp; (first | done | with_reducible rfl))
  try simp only [Act.put, List.getElem_toArray, List.getElem_cons_zero, List.getElem_cons_succ, List.setIfInBounds_toArray, List.set_cons_zero, List.set_cons_succ]
  refine wpAnyH_take (i := 1) (v := ?va245_1) rfl (by kernel_rfl) (by kernel_rfl) (by kernel_rfl) (fun _ _ _ h => h) (Or.inl ⟨by rfl, fun w hSw => ?ti245_1⟩) (by assumption) ?rest245_1
  case ti245_1 => ((try dsimp only at hSw); go_simp; (first | done | with_reducible rfl))
  try simp only [Act.put, List.getElem_toArray, List.getElem_cons_zero, List.getElem_cons_succ, List.setIfInBounds_toArray, List.set_cons_zero, List.set_cons_succ]
  refine wpAnyH_take (i := 2) (v := ?va248_2) rfl (by kernel_rfl) (by kernel_rfl) (by kernel_rfl) (fun _ _ _ h => h) (Or.inl ⟨by rfl, fun w hSw => ?ti248_2⟩) (by assumption) ?rest248_2
  case ti248_2 => ((try dsimp only at hSw); go_simp; (first | done | with_reducible rfl))
  try simp only [Act.put, List.getElem_toArray, List.getElem_cons_zero, List.getElem_cons_succ, List.setIfInBounds_toArray, List.set_cons_zero, List.set_cons_succ]
  refine wpAnyH_take (i := 3) (v := ?va251_3) rfl (by kernel_rfl) (by kernel_rfl) (by kernel_rfl) (fun _ _ _ h => h) (Or.inl ⟨by rfl, fun w hSw => ?ti251_3⟩) (by assumption) ?rest251_3
  case ti251_3 => ((try dsimp only at hSw); go_simp; (first | done | with_reducible rfl))
  try simp only [Act.put, List.getElem_toArray, List.getElem_cons_zero, List.getElem_cons_succ, List.setIfInBounds_toArray, List.set_cons_zero, List.set_cons_succ]
  refine wpAnyH_take (i := 4) (v := ?va254_4) rfl (by kernel_rfl) (by kernel_rfl) (by kernel_rfl) (fun _ _ _ h => h) (Or.inl ⟨by rfl, fun w hSw => ?ti254_4⟩) (by assumption) ?rest254_4
  case ti254_4 => ((try dsimp only at hSw); go_simp; (first | done | with_reducible rfl))
  try simp only [Act.put, List.getElem_toArray, List.getElem_cons_zero, List.getElem_cons_succ, List.setIfInBounds_toArray, List.set_cons_zero, List.set_cons_succ]
  refine wpAnyH_take (i := 5) (v := ?va257_5) rfl (by kernel_rfl) (by kernel_rfl) (by kernel_rfl) (fun _ _ _ h => h) (Or.inl ⟨by rfl, fun w hSw => ?ti257_5⟩) (by assumption) ?rest257_5
  case ti257_5 => ((try dsimp only at hSw); go_simp; (first | done | with_reducible rfl))
  try simp only [Act.put, List.getElem_toArray, List.getElem_cons_zero, List.getElem_cons_succ, List.setIfInBounds_toArray, List.set_cons_zero, List.set_cons_succ]
  refine wpAnyH_take (i := 6) (v := ?va260_6) rfl (by kernel_rfl) (by kernel_rfl) (by kernel_rfl) (fun _ _ _ h => h) (Or.inl ⟨by rfl, fun w hSw => ?ti260_6⟩) (by assumption) ?rest260_6
  case ti260_6 => ((try dsimp only at hSw); go_simp; (first | done | with_reducible rfl))
  try simp only [Act.put, List.getElem_toArray, List.getElem_cons_zero, List.getElem_cons_succ, List.setIfInBounds_toArray, List.set_cons_zero, List.set_cons_succ]
  refine wpAnyH_take (i := 7) (v := ?va263_7) rfl (by kernel_rfl) (by kernel_rfl) (by kernel_rfl) (fun _ _ _ h => h) (Or.inl ⟨by rfl, fun w hSw => ?ti263_7⟩) (by assumption) ?rest263_7
  case ti263_7 => ((try dsimp only at hSw); go_simp; (first | done | with_reducible rfl))
  try simp only [Act.put, List.getElem_toArray, List.getElem_cons_zero, List.getElem_cons_succ, List.setIfInBounds_toArray, List.set_cons_zero, List.set_cons_succ]
  refine wpAnyH_take (i := 8) (v := ?va266_8) rfl (by kernel_rfl) (by kernel_rfl) (by kernel_rfl) (fun _ _ _ h => h) (Or.inl ⟨by rfl, fun w hSw => ?ti266_8⟩) (by assumption) ?rest266_8
  case ti266_8 => ((try dsimp only at hSw); go_simp; (first | done | with_reducible rfl))
  try simp only [Act.put, List.getElem_toArray, List.getElem_cons_zero, List.getElem_cons_succ, List.setIfInBounds_toArray, List.set_cons_zero, List.set_cons_succ]
  refine wpAnyH_take (i := 9) (v := ?va269_9) rfl (by kernel_rfl) (by kernel_rfl) (by kernel_rfl) (fun _ _ _ h => h) (Or.inl ⟨by rfl, fun w hSw => ?ti269_9⟩) (by assumption) ?rest269_9
  case ti269_9 => ((try dsimp only at hSw); go_simp; (first | done | with_reducible rfl))
  try simp only [Act.put, List.getElem_toArray, List.getElem_cons_zero, List.getElem_cons_succ, List.setIfInBounds_toArray, List.set_cons_zero, List.set_cons_succ]
  refine wpAnyH_take (i := 10) (v := ?va272_10) rfl (by kernel_rfl) (by kernel_rfl) (by kernel_rfl) (fun _ _ _ h => h) (Or.inl ⟨by rfl, fun w hSw => ?ti272_10⟩) (by assumption) ?rest272_10
  case ti272_10 => ((try dsimp only at hSw); go_simp; (first | done | with_reducible rfl))
  try simp only [Act.put, List.getElem_toArray, List.getElem_cons_zero, List.getElem_cons_succ, List.setIfInBounds_toArray, List.set_cons_zero, List.set_cons_succ]
  refine wpAnyH_ready (rs := [11]) (by kernel_rfl) (by simp) ?_
  refine AllReadyH.cons rfl (fun K hK => ?_) AllReadyH.nil
  go_simp
  refine hK.out _ _ ?_ (fun hHeld => ?_)
  · exact ⟨cell_alloc q0_1 _, cell_alloc q0_2 _, cell_alloc q0_3 _⟩
  clear hK K
  try simp only [Act.put, List.getElem_toArray, List.getElem_cons_zero, List.getElem_cons_succ, List.setIfInBounds_toArray, List.set_cons_zero, List.set_cons_succ]
  refine wpAnyH_ready (rs := [12]) (by kernel_rfl) (by simp) ?_
  refine AllReadyH.cons rfl (fun K hK => ?_) AllReadyH.nil
  go_simp
  refine (words_7 ?_).mono ?_
  · (repeat (first | (with_reducible exact Ext.refl _) | (with_reducible apply Ext.drew) | (with_reducible apply Ext.drewN) | (with_reducible apply Ext.alloc)))
  intro e y1 hh
  obtain ⟨u1, f1, rfl, r1, x⟩ := hh
  have Y1 : Hid (Ext w11 y1) := Lib.hid (Ext.trans (by (repeat (first | (with_reducible exact Ext.refl _) | (with_reducible apply Ext.drew) | (with_reducible apply Ext.drewN) | (with_reducible apply Ext.alloc)))) x)
  have q1_1 := Y1.out.cell q0_1
  have q1_2 := Y1.out.cell q0_2
  have q1_3 := Y1.out.cell q0_3
  have Ra := Lib.hid r1; clear r1
  go_simp
  refine hK.out _ _ ?_ (fun hHeld => ?_)
  · exact ⟨q1_1, q1_2, q1_3⟩
  clear hK K x
  try simp only [Act.put, List.getElem_toArray, List.getElem_cons_zero, List.getElem_cons_succ, List.setIfInBounds_toArray, List.set_cons_zero, List.set_cons_succ]
  refine wpAnyH_ready (rs := [13]) (by kernel_rfl) (by simp) ?_
  refine AllReadyH.cons rfl (fun K hK => ?_) AllReadyH.nil
  go_simp
  refine (df_c _ _ _ _ [rA] _ (RA2.out.ext ?_) (Ra.out.ext ?_)).mono ?_
  · (refine Ext.trans Y1.out ?_; (repeat (first | (with_reducible exact Ext.refl _) | (with_reducible apply Ext.drew) | (with_reducible apply Ext.drewN) | (with_reducible apply Ext.alloc))))
  · (repeat (first | (with_reducible exact Ext.refl _) | (with_reducible apply Ext.drew) | (with_reducible apply Ext.drewN) | (with_reducible apply Ext.alloc)))
  intro e y2 hh
  obtain ⟨rfl, x⟩ := hh
  have Y2 : Hid (Ext w11 y2) := Lib.hid (Ext.trans Y1.out (Ext.trans (by (repeat (first | (with_reducible exact Ext.refl _) | (with_reducible apply Ext.drew) | (with_reducible apply Ext.drewN) | (with_reducible apply Ext.alloc)))) x))
  have q2_1 := Y2.out.cell q0_1
  have q2_2 := Y2.out.cell q0_2
  have q2_3 := Y2.out.cell q0_3
  go_simp
  refine hK.out _ _ ?_ (fun hHeld => ?_)
  · exact ⟨q2_1, q2_2, q2_3⟩
  clear hK K x
  try simp only [Act.put, List.getElem_toArray, List.getElem_cons_zero, List.getElem_cons_succ, List.setIfInBounds_toArray, List.set_cons_zero, List.set_cons_succ]
  refine wpAnyH_take (i := 14) (v := ?va316_14) rfl (by kernel_rfl) (by kernel_rfl) (by kernel_rfl) (fun _ _ _ h => h) (Or.inl ⟨by rfl, fun w hSw => ?ti316_14⟩) (by assumption) ?rest316_14
  case ti316_14 => ((try dsimp only at hSw); go_simp; (first | done | with_reducible rfl))
  try simp only [Act.put, List.getElem_toArray, List.getElem_cons_zero, List.getElem_cons_succ, List.setIfInBounds_toArray, List.set_cons_zero, List.set_cons_succ]
  refine wpAnyH_take (i := 15) (v := ?va319_15) rfl (by kernel_rfl) (by kernel_rfl) (by kernel_rfl) (fun _ _ _ h => h) (Or.inl ⟨by rfl, fun w hSw => ?ti319_15⟩) (by assumption) ?rest319_15
  case ti319_15 => ((try dsimp only at hSw); go_simp; (first | done | with_reducible rfl))
  try simp only [Act.put, List.getElem_toArray, List.getElem_cons_zero, List.getElem_cons_succ, List.setIfInBounds_toArray, List.set_cons_zero, List.set_cons_succ]
  refine wpAnyH_take (i := 16) (v := ?va322_16) rfl (by kernel_rfl) (by kernel_rfl) (by kernel_rfl) (fun _ _ _ h => h) (Or.inl ⟨by rfl, fun w hSw => ?ti322_16⟩) (by assumption) ?rest322_16
  case ti322_16 => ((try dsimp only at hSw); go_simp; (first | done | with_reducible rfl))
  try simp only [Act.put, List.getElem_toArray, List.getElem_cons_zero, List.getElem_cons_succ, List.setIfInBounds_toArray, List.set_cons_zero, List.set_cons_succ]
  refine wpAnyH_take (i := 17) (v := ?va325_17) rfl (by kernel_rfl) (by kernel_rfl) (by kernel_rfl) (fun _ _ _ h => h) (Or.inl ⟨by rfl, fun w hSw => ?ti325_17⟩) (by assumption) ?rest325_17
  case ti325_17 => ((try dsimp only at hSw); go_simp; (first | done | with_reducible rfl))
  try simp only [Act.put, List.getElem_toArray, List.getElem_cons_zero, List.getElem_cons_succ, List.setIfInBounds_toArray, List.set_cons_zero, List.set_cons_succ]
  refine wpAnyH_take (i := 18) (v := ?va328_18) rfl (by kernel_rfl) (by kernel_rfl) (by kernel_rfl) (fun _ _ _ h => h) (Or.inl ⟨by rfl, fun w hSw => ?ti328_18⟩) (by assumption) ?rest328_18
  case ti328_18 => ((try dsimp only at hSw); go_simp; (first | done | with_reducible rfl))
  try simp only [Act.put, List.getElem_toArray, List.getElem_cons_zero, List.getElem_cons_succ, List.setIfInBounds_toArray, List.set_cons_zero, List.set_cons_succ]
  refine wpAnyH_take (i := 19) (v := ?va331_19) rfl (by kernel_rfl) (by kernel_rfl) (by kernel_rfl) (fun _ _ _ h => h) (Or.inl ⟨by rfl, fun w hSw => ?ti331_19⟩) (by assumption) ?rest331_19
  case ti331_19 => ((try dsimp only at hSw); go_simp; (first | done | with_reducible rfl))
  try simp only [Act.put, List.getElem_toArray, List.getElem_cons_zero, List.getElem_cons_succ, List.setIfInBounds_toArray, List.set_cons_zero, List.set_cons_succ]
  refine wpAnyH_take (i := 20) (v := ?va334_20) rfl (by kernel_rfl) (by kernel_rfl) (by kernel_rfl) (fun _ _ _ h => h) (Or.inl ⟨by rfl, fun w hSw => ?ti334_20⟩) (by assumption) ?rest334_20
  case ti334_20 => ((try dsimp only at hSw); go_simp; (first | done | with_reducible rfl))
  try simp only [Act.put, List.getElem_toArray, List.getElem_cons_zero, List.getElem_cons_succ, List.setIfInBounds_toArray, List.set_cons_zero, List.set_cons_succ]
  refine wpAnyH_take (i := 21) (v := ?va337_21) rfl (by kernel_rfl) (by kernel_rfl) (by kernel_rfl) (fun _ _ _ h => h) (Or.inl ⟨by rfl, fun w hSw => ?ti337_21⟩) (by assumption) ?rest337_21
  case ti337_21 => ((try dsimp only at hSw); go_simp; (first | done | with_reducible rfl))
  try simp only [Act.put, List.getElem_toArray, List.getElem_cons_zero, List.getElem_cons_succ, List.setIfInBounds_toArray, List.set_cons_zero, List.set_cons_succ]
  refine wpAnyH_take (i := 22) (v := ?va340_22) rfl (by kernel_rfl) (by kernel_rfl) (by kernel_rfl) (fun _ _ _ h => h) (Or.inl ⟨by rfl, fun w hSw => ?ti340_22⟩) (by assumption) ?rest340_22
  case ti340_22 => ((try dsimp only at hSw); go_simp; (first | done | with_reducible rfl))
  try simp only [Act.put, List.getElem_toArray, List.getElem_cons_zero, List.getElem_cons_succ, List.setIfInBounds_toArray, List.set_cons_zero, List.set_cons_succ]
  refine wpAnyH_take (i := 23) (v := ?va343_23) rfl (by kernel_rfl) (by kernel_rfl) (by kernel_rfl) (fun _ _ _ h => h) (Or.inl ⟨by rfl, fun w hSw => ?ti343_23⟩) (by assumption) ?rest343_23
  case ti343_23 => ((try dsimp only at hSw); go_simp; (first | done | with_reducible rfl))
  try simp only [Act.put, List.getElem_toArray, List.getElem_cons_zero, List.getElem_cons_succ, List.setIfInBounds_toArray, List.set_cons_zero, List.set_cons_succ]
  refine wpAnyH_take (i := 24) (v := ?va346_24) rfl (by kernel_rfl) (by kernel_rfl) (by kernel_rfl) (fun _ _ _ h => h) (Or.inl ⟨by rfl, fun w hSw => ?ti346_24⟩) (by assumption) ?rest346_24
  case ti346_24 => ((try dsimp only at hSw); go_simp; (first | done | with_reducible rfl))
  try simp only [Act.put, List.getElem_toArray, List.getElem_cons_zero, List.getElem_cons_succ, List.setIfInBounds_toArray, List.set_cons_zero, List.set_cons_succ]
  refine wpAnyH_take (i := 25) (v := ?va349_25) rfl (by kernel_rfl) (by kernel_rfl) (by kernel_rfl) (fun _ _ _ h => h) (Or.inl ⟨by rfl, fun w hSw => ?ti349_25⟩) (by assumption) ?rest349_25
  case ti349_25 => ((try dsimp only at hSw); go_simp; (first | done | with_reducible rfl))
  try simp only [Act.put, List.getElem_toArray, List.getElem_cons_zero, List.getElem_cons_succ, List.setIfInBounds_toArray, List.set_cons_zero, List.set_cons_succ]
  refine wpAnyH_take (i := 26) (v := ?va352_26) rfl (by kernel_rfl) (by kernel_rfl) (by kernel_rfl) (fun _ _ _ h => h) (Or.inl ⟨by rfl, fun w hSw => ?ti352_26⟩) (by assumption) ?rest352_26
  case ti352_26 => ((try dsimp only at hSw); go_simp; (first | done | with_reducible rfl))
  try simp only [Act.put, List.getElem_toArray, List.getElem_cons_zero, List.getElem_cons_succ, List.setIfInBounds_toArray, List.set_cons_zero, List.set_cons_succ]
  refine wpAnyH_take (i := 27) (v := ?va355_27) rfl (by kernel_rfl) (by kernel_rfl) (by kernel_rfl) (fun _ _ _ h => h) (Or.inl ⟨by rfl, fun w hSw => ?ti355_27⟩) (by assumption) ?rest355_27
  case ti355_27 => ((try dsimp only at hSw); go_simp; (first | done | with_reducible rfl))
  try simp only [Act.put, List.getElem_toArray, List.getElem_cons_zero, List.getElem_cons_succ, List.setIfInBounds_toArray, List.set_cons_zero, List.set_cons_succ]
  refine wpAnyH_take (i := 28) (v := ?va358_28) rfl (by kernel_rfl) (by kernel_rfl) (by kernel_rfl) (fun _ _ _ h => h) (Or.inl ⟨by rfl, fun w hSw => ?ti358_28⟩) (by assumption) ?rest358_28
  case ti358_28 => ((try dsimp only at hSw); go_simp; (first | done | with_reducible rfl))
  try simp only [Act.put, List.getElem_toArray, List.getElem_cons_zero, List.getElem_cons_succ, List.setIfInBounds_toArray, List.set_cons_zero, List.set_cons_succ]
  refine wpAnyH_take (i := 29) (v := ?va361_29) rfl (by kernel_rfl) (by kernel_rfl) (by kernel_rfl) (fun _ _ _ h => h) (Or.inl ⟨by rfl, fun w hSw => ?ti361_29⟩) (by assumption) ?rest361_29
  case ti361_29 => ((try dsimp only at hSw); go_simp; (first | done | with_reducible rfl))
  try simp only [Act.put, List.getElem_toArray, List.getElem_cons_zero, List.getElem_cons_succ, List.setIfInBounds_toArray, List.set_cons_zero, List.set_cons_succ]
  refine wpAnyH_take (i := 30) (v := ?va364_30) rfl (by kernel_rfl) (by kernel_rfl) (by kernel_rfl) (fun _ _ _ h => h) (Or.inl ⟨by rfl, fun w hSw => ?ti364_30⟩) (by assumption) ?rest364_30
  case ti364_30 => ((try dsimp only at hSw); go_simp; (first | done | with_reducible rfl))
  try simp only [Act.put, List.getElem_toArray, List.getElem_cons_zero, List.getElem_cons_succ, List.setIfInBounds_toArray, List.set_cons_zero, List.set_cons_succ]
  refine wpAnyH_take (i := 31) (v := ?va367_31) rfl (by kernel_rfl) (by kernel_rfl) (by kernel_rfl) (fun _ _ _ h => h) (Or.inl ⟨by rfl, fun w hSw => ?ti367_31⟩) (by assumption) ?rest367_31
  case ti367_31 => ((try dsimp only at hSw); go_simp; (first | done | with_reducible rfl))
  try simp only [Act.put, List.getElem_toArray, List.getElem_cons_zero, List.getElem_cons_succ, List.setIfInBounds_toArray, List.set_cons_zero, List.set_cons_succ]
  refine wpAnyH_take (i := 32) (v := ?va370_32) rfl (by kernel_rfl) (by kernel_rfl) (by kernel_rfl) (fun _ _ _ h => h) (Or.inl ⟨by rfl, fun w hSw => ?ti370_32⟩) (by assumption) ?rest370_32
  case ti370_32 => ((try dsimp only at hSw); go_simp; (first | done | with_reducible rfl))
  try simp only [Act.put, List.getElem_toArray, List.getElem_cons_zero, List.getElem_cons_succ, List.setIfInBounds_toArray, List.set_cons_zero, List.set_cons_succ]
  refine wpAnyH_take (i := 33) (v := ?va373_33) rfl (by kernel_rfl) (by kernel_rfl) (by kernel_rfl) (fun _ _ _ h => h) (Or.inl ⟨by rfl, fun w hSw => ?ti373_33⟩) (by assumption) ?rest373_33
  case ti373_33 => ((try dsimp only at hSw); go_simp; (first | done | with_reducible rfl))
  try simp only [Act.put, List.getElem_toArray, List.getElem_cons_zero, List.getElem_cons_succ, List.setIfInBounds_toArray, List.set_cons_zero, List.set_cons_succ]
  refine wpAnyH_take (i := 34) (v := ?va376_34) rfl (by kernel_rfl) (by kernel_rfl) (by kernel_rfl) (fun _ _ _ h => h) (Or.inl ⟨by rfl, fun w hSw => ?ti376_34⟩) (by assumption) ?rest376_34
  case ti376_34 => ((try dsimp only at hSw); go_simp; (first | done | with_reducible rfl))
  try simp only [Act.put, List.getElem_toArray, List.getElem_cons_zero, List.getElem_cons_succ, List.setIfInBounds_toArray, List.set_cons_zero, List.set_cons_succ]
  refine wpAnyH_take (i := 35) (v := ?va379_35) rfl (by kernel_rfl) (by kernel_rfl) (by kernel_rfl) (fun _ _ _ h => h) (Or.inl ⟨by rfl, fun w hSw => ?ti379_35⟩) (by assumption) ?rest379_35
  case ti379_35 => ((try dsimp only at hSw); go_simp; (first | done | with_reducible rfl))
  try simp only [Act.put, List.getElem_toArray, List.getElem_cons_zero, List.getElem_cons_succ, List.setIfInBounds_toArray, List.set_cons_zero, List.set_cons_succ]
  refine wpAnyH_take (i := 36) (v := ?va382_36) rfl (by kernel_rfl) (by kernel_rfl) (by kernel_rfl) (fun _ _ _ h => h) (Or.inl ⟨by rfl, fun w hSw => ?ti382_36⟩) (by assumption) ?rest382_36
  case ti382_36 => ((try dsimp only at hSw); go_simp; (first | done | with_reducible rfl))
  try simp only [Act.put, List.getElem_toArray, List.getElem_cons_zero, List.getElem_cons_succ, List.setIfInBounds_toArray, List.set_cons_zero, List.set_cons_succ]
  refine wpAnyH_take (i := 37) (v := ?va385_37) rfl (by kernel_rfl) (by kernel_rfl) (by kernel_rfl) (fun _ _ _ h => h) (Or.inl ⟨by rfl, fun w hSw => ?ti385_37⟩) (by assumption) ?rest385_37
  case ti385_37 => ((try dsimp only at hSw); go_simp; (first | done | with_reducible rfl))
  try simp only [Act.put, List.getElem_toArray, List.getElem_cons_zero, List.getElem_cons_succ, List.setIfInBounds_toArray, List.set_cons_zero, List.set_cons_succ]
  refine wpAnyH_take (i := 38) (v := ?va388_38) rfl (by kernel_rfl) (by kernel_rfl) (by kernel_rfl) (fun _ _ _ h => h) (Or.inl ⟨by rfl, fun w hSw => ?ti388_38⟩) (by assumption) ?rest388_38
  case ti388_38 => ((try dsimp only at hSw); go_simp; (first | done | with_reducible rfl))
  try simp only [Act.put, List.getElem_toArray, List.getElem_cons_zero, List.getElem_cons_succ, List.setIfInBounds_toArray, List.set_cons_zero, List.set_cons_succ]
  refine wpAnyH_ready (rs := [39]) (by kernel_rfl) (by simp) ?_
  refine AllReadyH.cons rfl (fun K hK => ?_) AllReadyH.nil
  go_simp
  refine hK.out _ _ ?_ (fun hHeld => ?_)
  · exact ⟨cell_alloc q2_1 _, cell_alloc q2_2 _, cell_alloc q2_3 _⟩
  clear hK K
  try simp only [Act.put, List.getElem_toArray, List.getElem_cons_zero, List.getElem_cons_succ, List.setIfInBounds_toArray, List.set_cons_zero, List.set_cons_succ]
  refine wpAnyH_ready (rs := [40]) (by kernel_rfl) (by simp) ?_
  refine AllReadyH.cons rfl (fun K hK => ?_) AllReadyH.nil
  go_simp
  refine (words_5 ?_).mono ?_
  · (repeat (first | (with_reducible exact Ext.refl _) | (with_reducible apply Ext.drew) | (with_reducible apply Ext.drewN) | (with_reducible apply Ext.alloc)))
  intro e y3 hh
  obtain ⟨u3, f3, rfl, r3, x⟩ := hh
  have Y3 : Hid (Ext w11 y3) := Lib.hid (Ext.trans Y2.out (Ext.trans (by (repeat (first | (with_reducible exact Ext.refl _) | (with_reducible apply Ext.drew) | (with_reducible apply Ext.drewN) | (with_reducible apply Ext.alloc)))) x))
  have q3_1 := Y3.out.cell q0_1
  have q3_2 := Y3.out.cell q0_2
  have q3_3 := Y3.out.cell q0_3
  have Rc := Lib.hid r3; clear r3
  go_simp
  refine hK.out _ _ ?_ (fun hHeld => ?_)
  · exact ⟨q3_1, q3_2, q3_3⟩
  clear hK K x
  try simp only [Act.put, List.getElem_toArray, List.getElem_cons_zero, List.getElem_cons_succ, List.setIfInBounds_toArray, List.set_cons_zero, List.set_cons_succ]
  refine wpAnyH_ready (rs := [41]) (by kernel_rfl) (by simp) ?_
  refine AllReadyH.cons rfl (fun K hK => ?_) AllReadyH.nil
  go_simp
  refine (df_c _ _ _ _ [rC] _ (RC2.out.ext ?_) (Rc.out.ext ?_)).mono ?_
  · (refine Ext.trans Y3.out ?_; (repeat (first | (with_reducible exact Ext.refl _) | (with_reducible apply Ext.drew) | (with_reducible apply Ext.drewN) | (with_reducible apply Ext.alloc))))
  · (repeat (first | (with_reducible exact Ext.refl _) | (with_reducible apply Ext.drew) | (with_reducible apply Ext.drewN) | (with_reducible apply Ext.alloc)))
  intro e y4 hh
  obtain ⟨rfl, x⟩ := hh
  have Y4 : Hid (Ext w11 y4) := Lib.hid (Ext.trans Y3.out (Ext.trans (by (repeat (first | (with_reducible exact Ext.refl _) | (with_reducible apply Ext.drew) | (with_reducible apply Ext.drewN) | (with_reducible apply Ext.alloc)))) x))
  have q4_1 := Y4.out.cell q0_1
  have q4_2 := Y4.out.cell q0_2
  have q4_3 := Y4.out.cell q0_3
  go_simp
  refine hK.out _ _ ?_ (fun hHeld => ?_)
  · exact ⟨q4_1, q4_2, q4_3⟩
  clear hK K x
  try simp only [Act.put, List.getElem_toArray, List.getElem_cons_zero, List.getElem_cons_succ, List.setIfInBounds_toArray, List.set_cons_zero, List.set_cons_succ]
  refine wpAnyH_take (i := 42) (v := ?va432_42) rfl (by kernel_rfl) (by kernel_rfl) (by kernel_rfl) (fun _ _ _ h => h) (Or.inl ⟨by rfl, fun w hSw => ?ti432_42⟩) (by assumption) ?rest432_42
  case ti432_42 => ((try dsimp only at hSw); go_simp; (first | done | with_reducible rfl))
  try simp only [Act.put, List.getElem_toArray, List.getElem_cons_zero, List.getElem_cons_succ, List.setIfInBounds_toArray, List.set_cons_zero, List.set_cons_succ]
  refine wpAnyH_take (i := 43) (v := ?va435_43) rfl (by kernel_rfl) (by kernel_rfl) (by kernel_rfl) (fun _ _ _ h => h) (Or.inl ⟨by rfl, fun w hSw => ?ti435_43⟩) (by assumption) ?rest435_43
  case ti435_43 => ((try dsimp only at hSw); go_simp; (first | done | with_reducible rfl))
  try simp only [Act.put, List.getElem_toArray, List.getElem_cons_zero, List.getElem_cons_succ, List.setIfInBounds_toArray, List.set_cons_zero, List.set_cons_succ]
  refine wpAnyH_take (i := 44) (v := ?va438_44) rfl (by kernel_rfl) (by kernel_rfl) (by kernel_rfl) (fun _ _ _ h => h) (Or.inl ⟨by rfl, fun w hSw => ?ti438_44⟩) (by assumption) ?rest438_44
  case ti438_44 => ((try dsimp only at hSw); go_simp; (first | done | with_reducible rfl))
  try simp only [Act.put, List.getElem_toArray, List.getElem_cons_zero, List.getElem_cons_succ, List.setIfInBounds_toArray, List.set_cons_zero, List.set_cons_succ]
  refine wpAnyH_take (i := 45) (v := ?va441_45) rfl (by kernel_rfl) (by kernel_rfl) (by kernel_rfl) (fun _ _ _ h => h) (Or.inl ⟨by rfl, fun w hSw => ?ti441_45⟩) (by assumption) ?rest441_45
  case ti441_45 => ((try dsimp only at hSw); go_simp; (first | done | with_reducible rfl))
  try simp only [Act.put, List.getElem_toArray, List.getElem_cons_zero, List.getElem_cons_succ, List.setIfInBounds_toArray, List.set_cons_zero, List.set_cons_succ]
  refine wpAnyH_take (i := 46) (v := ?va444_46) rfl (by kernel_rfl) (by kernel_rfl) (by kernel_rfl) (fun _ _ _ h => h) (Or.inl ⟨by rfl, fun w hSw => ?ti444_46⟩) (by assumption) ?rest444_46
  case ti444_46 => ((try dsimp only at hSw); go_simp; (first | done | with_reducible rfl))
  try simp only [Act.put, List.getElem_toArray, List.getElem_cons_zero, List.getElem_cons_succ, List.setIfInBounds_toArray, List.set_cons_zero, List.set_cons_succ]
  refine wpAnyH_take (i := 47) (v := ?va447_47) rfl (by kernel_rfl) (by kernel_rfl) (by kernel_rfl) (fun _ _ _ h => h) (Or.inl ⟨by rfl, fun w hSw => ?ti447_47⟩) (by assumption) ?rest447_47
  case ti447_47 => ((try dsimp only at hSw); go_simp; (first | done | with_reducible rfl))
  try simp only [Act.put, List.getElem_toArray, List.getElem_cons_zero, List.getElem_cons_succ, List.setIfInBounds_toArray, List.set_cons_zero, List.set_cons_succ]
  refine wpAnyH_take (i := 48) (v := ?va450_48) rfl (by kernel_rfl) (by kernel_rfl) (by kernel_rfl) (fun _ _ _ h => h) (Or.inl ⟨by rfl, fun w hSw => ?ti450_48⟩) (by assumption) ?rest450_48
  case ti450_48 => ((try dsimp only at hSw); go_simp; (first | done | with_reducible rfl))
  try simp only [Act.put, List.getElem_toArray, List.getElem_cons_zero, List.getElem_cons_succ, List.setIfInBounds_toArray, List.set_cons_zero, List.set_cons_succ]
  refine wpAnyH_take (i := 49) (v := ?va453_49) rfl (by kernel_rfl) (by kernel_rfl) (by kernel_rfl) (fun _ _ _ h => h) (Or.inl ⟨by rfl, fun w hSw => ?ti453_49⟩) (by assumption) ?rest453_49
  case ti453_49 => ((try dsimp only at hSw); go_simp; (first | done | with_reducible rfl))
  try simp only [Act.put, List.getElem_toArray, List.getElem_cons_zero, List.getElem_cons_succ, List.setIfInBounds_toArray, List.set_cons_zero, List.set_cons_succ]
  refine wpAnyH_take (i := 50) (v := ?va456_50) rfl (by kernel_rfl) (by kernel_rfl) (by kernel_rfl) (fun _ _ _ h => h) (Or.inl ⟨by rfl, fun w hSw => ?ti456_50⟩) (by assumption) ?rest456_50
  case ti456_50 => ((try dsimp only at hSw); go_simp; (first | done | with_reducible rfl))
  try simp only [Act.put, List.getElem_toArray, List.getElem_cons_zero, List.getElem_cons_succ, List.setIfInBounds_toArray, List.set_cons_zero, List.set_cons_succ]
  refine wpAnyH_take (i := 51) (v := ?va459_51) rfl (by kernel_rfl) (by kernel_rfl) (by kernel_rfl) (fun _ _ _ h => h) (Or.inl ⟨by rfl, fun w hSw => ?ti459_51⟩) (by assumption) ?rest459_51
  case ti459_51 => ((try dsimp only at hSw); go_simp; (first | done | with_reducible rfl))
  try simp only [Act.put, List.getElem_toArray, List.getElem_cons_zero, List.getElem_cons_succ, List.setIfInBounds_toArray, List.set_cons_zero, List.set_cons_succ]
  refine wpAnyH_take (i := 52) (v := ?va462_52) rfl (by kernel_rfl) (by kernel_rfl) (by kernel_rfl) (fun _ _ _ h => h) (Or.inl ⟨by rfl, fun w hSw => ?ti462_52⟩) (by assumption) ?rest462_52
  case ti462_52 => ((try dsimp only at hSw); go_simp; (first | done | with_reducible rfl))
  try simp only [Act.put, List.getElem_toArray, List.getElem_cons_zero, List.getElem_cons_succ, List.setIfInBounds_toArray, List.set_cons_zero, List.set_cons_succ]
  refine wpAnyH_ready (rs := [53]) (by kernel_rfl) (by simp) ?_
  refine AllReadyH.cons rfl (fun K hK => ?_) AllReadyH.nil
  go_simp
  refine hK.out _ _ ?_ (fun hHeld => ?_)
  · exact ⟨cell_alloc q4_1 _, cell_alloc q4_2 _, cell_alloc q4_3 _⟩
  clear hK K
  try simp only [Act.put, List.getElem_toArray, List.getElem_cons_zero, List.getElem_cons_succ, List.setIfInBounds_toArray, List.set_cons_zero, List.set_cons_succ]
  refine wpAnyH_take (i := 54) (v := ?va472_54) rfl (by kernel_rfl) (by kernel_rfl) (by kernel_rfl) (fun _ _ _ h => h) (Or.inl ⟨by rfl, fun w hSw => ?ti472_54⟩) (by assumption) ?rest472_54
  case ti472_54 => ((try dsimp only at hSw); go_simp; (first | done | with_reducible rfl))
  try simp only [Act.put, List.getElem_toArray, List.getElem_cons_zero, List.getElem_cons_succ, List.setIfInBounds_toArray, List.set_cons_zero, List.set_cons_succ]
  refine wpAnyH_ready (rs := [55]) (by kernel_rfl) (by simp) ?_
  refine AllReadyH.cons rfl (fun K hK => ?_) AllReadyH.nil
  go_simp
  refine (df_d ?_ (RD2.out.ext ?_) (RW.out.ext ?_)).mono ?_
  · (repeat (first | (with_reducible exact Ext.refl _) | (with_reducible apply Ext.drew) | (with_reducible apply Ext.drewN) | (with_reducible apply Ext.alloc)))
  · (refine Ext.trans Y4.out ?_; (repeat (first | (with_reducible exact Ext.refl _) | (with_reducible apply Ext.drew) | (with_reducible apply Ext.drewN) | (with_reducible apply Ext.alloc))))
  · (refine Ext.trans Y4.out ?_; (repeat (first | (with_reducible exact Ext.refl _) | (with_reducible apply Ext.drew) | (with_reducible apply Ext.drewN) | (with_reducible apply Ext.alloc))))
  intro e y5 hh
  obtain ⟨rfl, x⟩ := hh
  have Y5 : Hid (Ext w11 y5) := Lib.hid (Ext.trans Y4.out (Ext.trans (by (repeat (first | (with_reducible exact Ext.refl _) | (with_reducible apply Ext.drew) | (with_reducible apply Ext.drewN) | (with_reducible apply Ext.alloc)))) x))
  have q5_1 := Y5.out.cell q0_1
  have q5_2 := Y5.out.cell q0_2
  have q5_3 := Y5.out.cell q0_3
  go_simp
  refine hK.out _ _ ?_ (fun hHeld => ?_)
  · exact ⟨q5_1, q5_2, q5_3⟩
  clear hK K x
  try simp only [Act.put, List.getElem_toArray, List.getElem_cons_zero, List.getElem_cons_succ, List.setIfInBounds_toArray, List.set_cons_zero, List.set_cons_succ]
  refine wpAnyH_take (i := 56) (v := ?va493_56) rfl (by kernel_rfl) (by kernel_rfl) (by kernel_rfl) (fun _ _ _ h => h) (Or.inl ⟨by rfl, fun w hSw => ?ti493_56⟩) (by assumption) ?rest493_56
  case ti493_56 => ((try dsimp only at hSw); go_simp; (first | done | with_reducible rfl))
  try simp only [Act.put, List.getElem_toArray, List.getElem_cons_zero, List.getElem_cons_succ, List.setIfInBounds_toArray, List.set_cons_zero, List.set_cons_succ]
  refine wpAnyH_take (i := 57) (v := ?va496_57) rfl (by kernel_rfl) (by kernel_rfl) (by kernel_rfl) (fun _ _ _ h => h) (Or.inl ⟨by rfl, fun w hSw => ?ti496_57⟩) (by assumption) ?rest496_57
  case ti496_57 => ((try dsimp only at hSw); go_simp; (first | done | with_reducible rfl))
  try simp only [Act.put, List.getElem_toArray, List.getElem_cons_zero, List.getElem_cons_succ, List.setIfInBounds_toArray, List.set_cons_zero, List.set_cons_succ]
  refine wpAnyH_take (i := 58) (v := ?va499_58) rfl (by kernel_rfl) (by kernel_rfl) (by kernel_rfl) (fun _ _ _ h => h) (Or.inl ⟨by rfl, fun w hSw => ?ti499_58⟩) (by assumption) ?rest499_58
  case ti499_58 => ((try dsimp only at hSw); go_simp; (first | done | with_reducible rfl))
  try simp only [Act.put, List.getElem_toArray, List.getElem_cons_zero, List.getElem_cons_succ, List.setIfInBounds_toArray, List.set_cons_zero, List.set_cons_succ]
  refine wpAnyH_take (i := 59) (v := ?va502_59) rfl (by kernel_rfl) (by kernel_rfl) (by kernel_rfl) (fun _ _ _ h => h) (Or.inl ⟨by rfl, fun w hSw => ?ti502_59⟩) (by assumption) ?rest502_59
  case ti502_59 => ((try dsimp only at hSw); go_simp; (first | done | with_reducible rfl))
  try simp only [Act.put, List.getElem_toArray, List.getElem_cons_zero, List.getElem_cons_succ, List.setIfInBounds_toArray, List.set_cons_zero, List.set_cons_succ]
  refine wpAnyH_take (i := 60) (v := ?va505_60) rfl (by kernel_rfl) (by kernel_rfl) (by kernel_rfl) (fun _ _ _ h => h) (Or.inl ⟨by rfl, fun w hSw => ?ti505_60⟩) (by assumption) ?rest505_60
  case ti505_60 => ((try dsimp only at hSw); go_simp; (first | done | with_reducible rfl))
  try simp only [Act.put, List.getElem_toArray, List.getElem_cons_zero, List.getElem_cons_succ, List.setIfInBounds_toArray, List.set_cons_zero, List.set_cons_succ]
  refine wpAnyH_take (i := 61) (v := ?va508_61) rfl (by kernel_rfl) (by kernel_rfl) (by kernel_rfl) (fun _ _ _ h => h) (Or.inl ⟨by rfl, fun w hSw => ?ti508_61⟩) (by assumption) ?rest508_61
  case ti508_61 => ((try dsimp only at hSw); go_simp; (first | done | with_reducible rfl))
  try simp only [Act.put, List.getElem_toArray, List.getElem_cons_zero, List.getElem_cons_succ, List.setIfInBounds_toArray, List.set_cons_zero, List.set_cons_succ]
  refine wpAnyH_take (i := 62) (v := ?va511_62) rfl (by kernel_rfl) (by kernel_rfl) (by kernel_rfl) (fun _ _ _ h => h) (Or.inl ⟨by rfl, fun w hSw => ?ti511_62⟩) (by assumption) ?rest511_62
  case ti511_62 => ((try dsimp only at hSw); go_simp; (first | done | with_reducible rfl))
  try simp only [Act.put, List.getElem_toArray, List.getElem_cons_zero, List.getElem_cons_succ, List.setIfInBounds_toArray, List.set_cons_zero, List.set_cons_succ]
  refine wpAnyH_done (by kernel_rfl) ?_ _
  all_goals
    have XZ := Lib.hid (XF.out.trans Y5.out)
    go_wp2
    go_ret
    exact ⟨rfl, XZ.out⟩
end Go.Proofs.Ytlmkcojimhbmiaa
