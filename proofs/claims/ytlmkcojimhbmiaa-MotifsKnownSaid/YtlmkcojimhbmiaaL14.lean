/- Texts of this claim in one file: libraries and walks. -/
import Derived.Test.YtlmkcojimhbmiaaL4
import Derived.Test.YtlmkcojimhbmiaaL13
/- motifs.Fit, Tile. -/
namespace Go.Proofs.Ytlmkcojimhbmiaa
set_option linter.unusedVariables false
set_option linter.unusedSimpArgs false
set_option maxRecDepth 8000
open Go Go.RowKit

/-- The first n from n on, k of them tried, with which e + n * t is wd; 0 where there is none. -/
def fndF (e t wd : Int) : Nat → Nat → Nat
  | 0, _ => 0
  | k + 1, n => if e + n * t = wd then n else fndF e t wd k (n + 1)
def fedge (C : List (List St)) : Int := if C.length = 0 then 0 else rneed (sw C 0)
def fitF (L T R : List (List St)) (wd : Int) : Nat := fndF (fedge L + fedge R) (rneed (sw T 0)) wd 16 1
def fitE (L T R : List (List St)) (wd : Int) : Int := if mchk L T R ≠ 0 then mchk L T R else if wd < 1 ∨ 16 < wd then 1 else if fitF L T R wd = 0 then 7 else 0
def fitN (L T R : List (List St)) (wd : Int) : Int := if mchk L T R ≠ 0 then 0 else if wd < 1 ∨ 16 < wd then 0 else fitF L T R wd
def eAt (eL eR : Int) (k : Nat) (q : Int) : Prop := (k = 0 → q = 0) ∧ (k = 1 → q = eL) ∧ (k = 2 → q = eL + eR)
/-- A number and an error. -/
def RetNM (w0 : World) (n err : Int) (e : Ending) (w' : World) : Prop := e = .returned (.tuple #[.int .i64 n, .int .i64 err]) ∧ Ext w0 w'
theorem fedge_bd {C : List (List St)} (h : big C = false) : 0 ≤ fedge C ∧ fedge C ≤ 64 := by
  unfold fedge
  split
  · omega
  · have h1 := rneed_bd (sw C 0)
    have h2 := sw_bd h 0
    omega
set_option maxHeartbeats 4000000 in
theorem Fit_calls (u0 u1 u2 : Value) (c0 c1 c2 : Nat) (L T R : List (List St)) (wd : Int) (w : World) (h0 : RR w u0 c0 L) (h1 : RR w u1 c1 T) (h2 : RR w u2 c2 R) : Calls Try.prog 15 #[.agg #[u0, u1, u2], .int .i64 wd] w (RetNM w (fitN L T R wd) (fitE L T R wd)) := by
  have kC := fun w' (x : Ext w w') => MCheck_calls _ _ _ _ _ _ L T R w' (h0.ext x) (h1.ext x) (h2.ext x)
  obtain ⟨a0, n0, rfl, m0, d2, d3, d4⟩ := h0.open
  obtain ⟨a1, n1, rfl, m1, d6, d7, d8⟩ := h1.open
  obtain ⟨a2, n2, rfl, m2, d10, d11, d12⟩ := h2.open
  have HR0 := Lib.hid d4; have HR1 := Lib.hid d8; have HR2 := Lib.hid d12
  clear d2 d3 d4 d6 d7 d8 d10 d11 d12
  obtain ⟨W, hW⟩ : ∃ W, W = w.alloc (.cells #[.slice a0 n0 c0, .slice a1 n1 c1, .slice a2 n2 c2] 26) := ⟨_, rfl⟩
  have xW : Ext w W := by rw [hW]; exact (Ext.refl w).alloc _
  have hbx : W.heap[w.heap.size]? = some (Obj.cells #[.slice a0 n0 c0, .slice a1 n1 c1, .slice a2 n2 c2] 26 (0, 0)) := by rw [hW]; exact blk_at rfl
  have b0 : W.cell? ⟨w.heap.size, 0, none⟩ = some (.slice a0 n0 c0) := by simp [World.cell?, hbx]
  have b1 : W.cell? ⟨w.heap.size, 1, none⟩ = some (.slice a1 n1 c1) := by simp [World.cell?, hbx]
  have b2 : W.cell? ⟨w.heap.size, 2, none⟩ = some (.slice a2 n2 c2) := by simp [World.cell?, hbx]
  have HB0 := Lib.hid (fun w' (x : Ext W w') => x.cell b0); have HB1 := Lib.hid (fun w' (x : Ext W w') => x.cell b1); have HB2 := Lib.hid (fun w' (x : Ext W w') => x.cell b2)
  have XW := Lib.hid xW; have HW := Lib.hid hW
  have KC := Lib.hid (kC W xW)
  have He0 := Lib.hid (show n0 = 0 → fedge L = 0 from fun h => by unfold fedge; rw [if_pos (by omega)])
  have He1 := Lib.hid (show n0 ≠ 0 → fedge L = rneed (sw L 0) from fun h => by unfold fedge; rw [if_neg (by omega)])
  have Hf0 := Lib.hid (show n2 = 0 → fedge R = 0 from fun h => by unfold fedge; rw [if_pos (by omega)])
  have Hf1 := Lib.hid (show n2 ≠ 0 → fedge R = rneed (sw R 0) from fun h => by unfold fedge; rw [if_neg (by omega)])
  have Hn1 := Lib.hid m1
  obtain ⟨M, hM⟩ : ∃ M, M = mchk L T R := ⟨_, rfl⟩
  have hE1 : M ≠ 0 → fitE L T R wd = M ∧ fitN L T R wd = 0 := fun h => by unfold fitE fitN; rw [← hM, if_pos h, if_pos h]; exact ⟨rfl, rfl⟩
  have hE2 : M = 0 → (wd < 1 ∨ 16 < wd) → fitE L T R wd = 1 ∧ fitN L T R wd = 0 := fun h h1 => by unfold fitE fitN; rw [← hM, if_neg (show ¬ M ≠ 0 by omega), if_pos h1, if_neg (show ¬ M ≠ 0 by omega), if_pos h1]; exact ⟨rfl, rfl⟩
  have hE3 : M = 0 → ¬ (wd < 1 ∨ 16 < wd) → fitE L T R wd = (if fitF L T R wd = 0 then 7 else 0) ∧ fitN L T R wd = fitF L T R wd := fun h h1 => by
    unfold fitE fitN
    have h0 : ¬ M ≠ 0 := by omega
    rw [← hM, if_neg h0, if_neg h1, if_neg h0, if_neg h1]; exact ⟨rfl, rfl⟩
  have hz : M = 0 → (big L = false ∧ big T = false ∧ big R = false) ∧ 0 < T.length := fun h => by rw [hM] at h; exact ⟨(mchk_zero h).1, (mchk_tile h).1⟩
  obtain ⟨fE, hfE⟩ : ∃ fE, fE = fitE L T R wd := ⟨_, rfl⟩
  obtain ⟨fN, hfN⟩ : ∃ fN, fN = fitN L T R wd := ⟨_, rfl⟩
  rw [← hM] at KC
  rw [← hfE] at hE1 hE2 hE3 ⊢
  rw [← hfN] at hE1 hE2 hE3 ⊢
  have HE1 := Lib.hid hE1; have HE2 := Lib.hid hE2; have HE3 := Lib.hid hE3; have HZ := Lib.hid hz
  rw [hW] at b0 b1 b2
  clear h0 h1 h2 kC hW xW hbx hM hE1 hE2 hE3 hfE hfN hz m0 m1 m2
  go_enter Try.func15, Try.ntmps15
  go_wp2_with fail
  rw [← HW.out]
  refine KC.out.mono ?_
  rintro e w1 ⟨rfl, x⟩
  have X1 := Lib.hid x
  clear b0 b1 b2 x KC
  by_cases hM0 : M ≠ 0
  · have t1 : (M != 0) = true := by simpa using hM0
    have t2 : (M == 0) = false := by simpa using hM0
    have HF := Lib.hid (show RetNM w fN fE (.returned (.tuple #[.int .i64 0, .int .i64 M])) w1 from ⟨by rw [(HE1.out hM0).1, (HE1.out hM0).2], XW.out.trans X1.out⟩)
    clear hM0
    go_wp2
    go_ret2
    exact HF.out
  obtain rfl : M = 0 := by simpa using hM0
  clear hM0
  by_cases h1 : wd < 1
  · have HF := Lib.hid (show RetNM w fN fE (.returned (.tuple #[.int .i64 0, .int .i64 1])) w1 from ⟨by rw [(HE2.out rfl (.inl h1)).1, (HE2.out rfl (.inl h1)).2], XW.out.trans X1.out⟩)
    go_wp2
    go_ret2
    exact HF.out
  by_cases h2 : 16 < wd
  · have HF := Lib.hid (show RetNM w fN fE (.returned (.tuple #[.int .i64 0, .int .i64 1])) w1 from ⟨by rw [(HE2.out rfl (.inr h2)).1, (HE2.out rfl (.inr h2)).2], XW.out.trans X1.out⟩)
    go_wp2
    go_ret2
    exact HF.out
  obtain ⟨hz, hT0⟩ := HZ.out rfl
  obtain ⟨zE, zN⟩ := HE3.out rfl (by omega)
  have hl1 := fedge_bd hz.1
  have hl2 := fedge_bd hz.2.2
  have hl3 := rneed_bd (sw T 0)
  have hl4 := sw_bd hz.2.1 0
  have hl5 : (sw L 0).length ≤ 1000 := by have := sw_bd hz.1 0; omega
  have hl6 : (sw R 0).length ≤ 1000 := by have := sw_bd hz.2.2 0; omega
  unfold fitF at zE zN
  obtain ⟨eL, heL⟩ : ∃ eL, eL = fedge L := ⟨_, rfl⟩
  obtain ⟨eR, heR⟩ : ∃ eR, eR = fedge R := ⟨_, rfl⟩
  obtain ⟨tl, htl⟩ : ∃ tl, tl = rneed (sw T 0) := ⟨_, rfl⟩
  obtain ⟨F, hF⟩ : ∃ F, F = fndF (eL + eR) tl wd 16 1 := ⟨_, rfl⟩
  rw [← heL, ← heR, ← htl, ← hF] at zE zN
  rw [← heL] at hl1 He0 He1
  rw [← heR] at hl2 Hf0 Hf1
  have ht1 : 0 ≤ tl ∧ tl ≤ 64 := by omega
  have HTL := Lib.hid htl; have HFF := Lib.hid hF; have ZE := Lib.hid zE; have ZN := Lib.hid zN; have HL5 := Lib.hid hl5; have HL6 := Lib.hid hl6; have HT0 := Lib.hid hT0; have HL4 := Lib.hid hl4
  clear heL heR htl hF zE zN hz hT0 hl3 hl4 hl5 hl6 HE1 HE2 HE3 HZ
  have b0 := HB0.out _ X1.out; have b2 := HB2.out _ X1.out
  obtain ⟨W4, hW4⟩ : ∃ W4, W4 = w1.alloc (.cells #[.slice a0 n0 c0, .slice a2 n2 c2] 24) := ⟨_, rfl⟩
  have x4 : Ext w1 W4 := by rw [hW4]; exact (Ext.refl w1).alloc _
  have hb4 : W4.heap[w1.heap.size]? = some (Obj.cells #[.slice a0 n0 c0, .slice a2 n2 c2] 24 (0, 0)) := by rw [hW4]; exact blk_at rfl
  have HC0 := Lib.hid (fun w' (x : Ext W4 w') => x.cell (show W4.cell? ⟨w1.heap.size, 0, none⟩ = some (.slice a0 n0 c0) by simp [World.cell?, hb4]))
  have HC2 := Lib.hid (fun w' (x : Ext W4 w') => x.cell (show W4.cell? ⟨w1.heap.size, 1, none⟩ = some (.slice a2 n2 c2) by simp [World.cell?, hb4]))
  have HW4 := Lib.hid hW4; have X4 := Lib.hid (X1.out.trans x4)
  clear hb4 hW4 x4
  go_wp2
  rw [← HW4.out]
  clear b0 b2
  go_loopw [7, 9, 29] (fun s _ i wr => ∃ (k : Nat) (q : Int), k ≤ 2 ∧ i = .int .i64 k ∧ s = .int .i64 q ∧ Hid (eAt eL eR k q) ∧ Hid (Ext W4 wr)) (fun _ _ i _ => 2 - (intOf i).toNat)
  case atStart => exact ⟨0, 0, Nat.zero_le _, rfl, rfl, Lib.hid ⟨fun _ => rfl, by omega, by omega⟩, Lib.hid (Ext.refl _)⟩
  case round =>
    obtain ⟨k, q, hk, rfl, rfl, HQ, HX⟩ := hrel
    rcases (show k = 0 ∨ k = 1 ∨ k = 2 by omega) with rfl | rfl | rfl
    · have z1 := HC0.out _ HX.out
      have hq : 0 = q := (HQ.out.1 rfl).symm
      subst hq
      obtain ⟨W5, hW5⟩ : ∃ W5, W5 = wr.alloc (.cells #[.slice a0 n0 c0] 24) := ⟨_, rfl⟩
      have x5 : Ext wr W5 := by rw [hW5]; exact (Ext.refl wr).alloc _
      have X5 := Lib.hid (HX.out.trans x5); have HW5 := Lib.hid hW5
      by_cases hz : n0 = 0
      · have he := He0.out hz
        have HQ2 := Lib.hid (show eAt eL eR (0 + 1) (0) by unfold eAt; omega)
        subst hz
        clear hW5 x5 he
        go_wp2
        rw [← HW5.out]
        go_roundw
        case rel => exact ⟨0 + 1, 0, by omega, rfl, rfl, HQ2, X5⟩
        case measure => simp [intOf]
      · have t1 : (0 : Int) < n0 := by omega
        have t1' : 0 < n0 := by omega
        have he := He1.out hz
        obtain ⟨b, o, a, m, d, hao, y1, y2⟩ := HR0.out 0 t1'
        rw [Nat.add_zero] at y1
        subst hao
        replace y1 := (XW.out.trans (X4.out.trans X5.out)).cell y1
        have HN := Lib.hid (CNeeds_calls _ d (sw L 0) W5 (y2.ext (XW.out.trans (X4.out.trans X5.out))) (by have := HL5.out; omega))
        rw [← he] at HN
        rw [hW5] at y1
        have HQ2 := Lib.hid (show eAt eL eR (0 + 1) (eL) by unfold eAt; omega)
        clear y2 hW5 x5 hz he
        go_wp2_with fail
        rw [← HW5.out]
        refine HN.out.mono ?_
        rintro e w6 ⟨rfl, x6⟩
        have X6 := Lib.hid (X5.out.trans x6)
        have v1 : IntKind.i64.wrap (0 + eL) = eL := by rw [IntWalk.i64_in _ ⟨by omega, by omega⟩]; omega
        clear x6 y1 z1 HN
        go_wp2
        go_roundw
        case rel => exact ⟨0 + 1, eL, by omega, rfl, by first | rfl | simp, HQ2, X6⟩
        case measure => simp [intOf]
    · have z1 := HC2.out _ HX.out
      have hq : eL = q := (HQ.out.2.1 rfl).symm
      subst hq
      obtain ⟨W5, hW5⟩ : ∃ W5, W5 = wr.alloc (.cells #[.slice a2 n2 c2] 24) := ⟨_, rfl⟩
      have x5 : Ext wr W5 := by rw [hW5]; exact (Ext.refl wr).alloc _
      have X5 := Lib.hid (HX.out.trans x5); have HW5 := Lib.hid hW5
      by_cases hz : n2 = 0
      · have he := Hf0.out hz
        have HQ2 := Lib.hid (show eAt eL eR (1 + 1) (eL) by unfold eAt; omega)
        subst hz
        clear hW5 x5 he
        go_wp2
        rw [← HW5.out]
        go_roundw
        case rel => exact ⟨1 + 1, eL, by omega, rfl, rfl, HQ2, X5⟩
        case measure => simp [intOf]
      · have t1 : (0 : Int) < n2 := by omega
        have t1' : 0 < n2 := by omega
        have he := Hf1.out hz
        obtain ⟨b, o, a, m, d, hao, y1, y2⟩ := HR2.out 0 t1'
        rw [Nat.add_zero] at y1
        subst hao
        replace y1 := (XW.out.trans (X4.out.trans X5.out)).cell y1
        have HN := Lib.hid (CNeeds_calls _ d (sw R 0) W5 (y2.ext (XW.out.trans (X4.out.trans X5.out))) (by have := HL6.out; omega))
        rw [← he] at HN
        rw [hW5] at y1
        have HQ2 := Lib.hid (show eAt eL eR (1 + 1) (eL + eR) by unfold eAt; omega)
        clear y2 hW5 x5 hz he
        go_wp2_with fail
        rw [← HW5.out]
        refine HN.out.mono ?_
        rintro e w6 ⟨rfl, x6⟩
        have X6 := Lib.hid (X5.out.trans x6)
        have v1 : IntKind.i64.wrap (eL + eR) = eL + eR := by rw [IntWalk.i64_in _ ⟨by omega, by omega⟩]
        clear x6 y1 z1 HN
        go_wp2
        go_roundw
        case rel => exact ⟨1 + 1, eL + eR, by omega, rfl, by first | rfl | simp, HQ2, X6⟩
        case measure => simp [intOf]
    · obtain rfl : q = eL + eR := HQ.out.2.2 rfl
      have hT0 : 0 < n1 := by have := HT0.out; have := Hn1.out; omega
      obtain ⟨b, o, a, m, d, hao, y1, y2⟩ := HR1.out 0 hT0
      rw [Nat.add_zero] at y1
      subst hao
      have t1 : (0 : Int) < n1 := by omega
      have z1 := HB1.out _ (X4.out.trans HX.out)
      replace y1 := (XW.out.trans (X4.out.trans HX.out)).cell y1
      have HN := Lib.hid (CNeeds_calls _ d (sw T 0) wr (y2.ext (XW.out.trans (X4.out.trans HX.out))) (by have := HL4.out; omega))
      rw [← HTL.out] at HN
      clear y2
      go_wp2_with fail
      refine HN.out.mono ?_
      rintro e w6 ⟨rfl, x6⟩
      have X6 := Lib.hid (XW.out.trans (X4.out.trans (HX.out.trans x6)))
      clear x6 y1 z1 HN
      go_wp2
      obtain ⟨ee, hee⟩ : ∃ ee, ee = eL + eR := ⟨_, rfl⟩
      rw [← hee] at HFF ⊢
      have hee1 : 0 ≤ ee ∧ ee ≤ 128 := by omega
      clear hee
      go_loopw [11] (fun i wr => ∃ k : Nat, 1 ≤ k ∧ k ≤ 17 ∧ i = .int .i64 k ∧ Hid (F = fndF ee tl wd (17 - k) k) ∧ Hid (Ext w wr)) (fun i _ => 17 - (intOf i).toNat)
      case atStart => exact ⟨1, Nat.le_refl _, by omega, rfl, HFF, X6⟩
      case round =>
        obtain ⟨k, hk1, hk, rfl, HK, HY⟩ := hrel
        by_cases hlt : k ≤ 16
        · have t2 : (k : Int) ≤ 16 := by omega
          have hp1 : 0 ≤ (k : Int) * tl := Int.mul_nonneg (by omega) ht1.1
          have hp2 : (k : Int) * tl ≤ 16 * 64 := Int.mul_le_mul (by omega) ht1.2 ht1.1 (by omega)
          have v1 : IntKind.i64.wrap ((k : Int) * tl) = (k : Int) * tl := IntWalk.i64_in _ ⟨by omega, by omega⟩
          have v2 : IntKind.i64.wrap (ee + (k : Int) * tl) = ee + (k : Int) * tl := IntWalk.i64_in _ ⟨by omega, by omega⟩
          have hst : F = if ee + (k : Int) * tl = wd then k else fndF ee tl wd (17 - (k + 1)) (k + 1) := by
            rw [HK.out, show 17 - k = (17 - (k + 1)) + 1 by omega]; rfl
          by_cases he : ee + (k : Int) * tl = wd
          · rw [if_pos he] at hst
            have t3 : (ee + (k : Int) * tl == wd) = true := by rw [he]; simp
            have HF := Lib.hid (show RetNM w fN fE (.returned (.tuple #[.int .i64 k, .int .i64 0])) wr from ⟨by rw [ZN.out, ZE.out, hst, if_neg (by omega)], HY.out⟩)
            clear he hst hp1 hp2
            go_wp2
            go_ret2
            exact HF.out
          · rw [if_neg he] at hst
            have t3 : (ee + (k : Int) * tl == wd) = false := beq_eq_false_iff_ne.2 he
            have HK2 := Lib.hid hst
            clear he hst hp1 hp2
            go_wp2
            go_roundw
            case rel => exact ⟨k + 1, by omega, by omega, by go_num, HK2, HY⟩
            case measure => simp [intOf]; omega
        · obtain rfl : k = 17 := by omega
          have hf0 : F = 0 := by rw [HK.out]; rfl
          have HF := Lib.hid (show RetNM w fN fE (.returned (.tuple #[.int .i64 0, .int .i64 7])) wr from ⟨by rw [ZN.out, ZE.out, hf0, if_pos rfl]; rfl, HY.out⟩)
          clear hf0 hlt
          go_wp2
          go_ret2
          exact HF.out
set_option maxHeartbeats 2000000 in
theorem Tile_calls (u0 u1 u2 : Value) (c0 c1 c2 : Nat) (L T R : List (List St)) (n : Int) (w : World) (h0 : RR w u0 c0 L) (h1 : RR w u1 c1 T) (h2 : RR w u2 c2 R) : Calls Try.prog 25 #[.agg #[u0, u1, u2], .int .i64 n] w (RetCO w (prgR L T R n 1) (prgE L T R n 1)) := by
  have kS := fun w' (x : Ext w w') => Stack_calls _ _ _ _ _ _ L T R n 1 w' (h0.ext x) (h1.ext x) (h2.ext x)
  obtain ⟨a0, n0, rfl, d1, d2, d3, d4⟩ := h0.open
  obtain ⟨a1, n1, rfl, d5, d6, d7, d8⟩ := h1.open
  obtain ⟨a2, n2, rfl, d9, d10, d11, d12⟩ := h2.open
  clear d1 d2 d3 d4 d5 d6 d7 d8 d9 d10 d11 d12
  obtain ⟨W, hW⟩ : ∃ W, W = w.alloc (.cells #[.slice a0 n0 c0, .slice a1 n1 c1, .slice a2 n2 c2] 26) := ⟨_, rfl⟩
  have xW : Ext w W := by rw [hW]; exact (Ext.refl w).alloc _
  have hWs : W.heap.size = w.heap.size + 1 := by rw [hW]; simp
  have hbx : W.heap[w.heap.size]? = some (Obj.cells #[.slice a0 n0 c0, .slice a1 n1 c1, .slice a2 n2 c2] 26 (0, 0)) := by rw [hW]; exact blk_at rfl
  have b0 : W.cell? ⟨w.heap.size, 0, none⟩ = some (.slice a0 n0 c0) := by simp [World.cell?, hbx]
  have b1 : W.cell? ⟨w.heap.size, 1, none⟩ = some (.slice a1 n1 c1) := by simp [World.cell?, hbx]
  have b2 : W.cell? ⟨w.heap.size, 2, none⟩ = some (.slice a2 n2 c2) := by simp [World.cell?, hbx]
  obtain ⟨W2, hW2⟩ : ∃ W2, W2 = W.alloc (.cells #[.slice none 0 0] 24) := ⟨_, rfl⟩
  have x2 : Ext W W2 := by rw [hW2]; exact (Ext.refl W).alloc _
  have hres : W2.heap[w.heap.size + 1]? = some (Obj.cells #[.slice none 0 0] 24 (0, 0)) := by rw [hW2]; exact blk_at hWs.symm
  have HRes := Lib.hid (fun w' (x : Ext W2 w') => x.block hres)
  have X02 := Lib.hid (xW.trans x2); have HW := Lib.hid hW; have HW2 := Lib.hid hW2
  have q0 := x2.cell b0; have q1 := x2.cell b1; have q2 := x2.cell b2
  have KS := Lib.hid (kS W2 (xW.trans x2))
  obtain ⟨E, hE⟩ : ∃ E, E = prgE L T R n 1 := ⟨_, rfl⟩
  obtain ⟨P, hP⟩ : ∃ P, P = prgR L T R n 1 := ⟨_, rfl⟩
  rw [← hE, ← hP] at KS ⊢
  rw [hW2, hW] at q0 q1 q2
  clear h0 h1 h2 kS hW hW2 xW x2 hbx hres b0 b1 b2 hWs hE hP
  go_enter Try.func25, Try.ntmps25
  go_wp2_with fail
  rw [← HW.out, ← HW2.out]
  refine KS.out.mono ?_
  rintro e w6 ⟨v6, rfl, o6, r6⟩
  obtain ⟨e6, m6, hv6, j1, j2, j3, j4⟩ := r6.open
  subst hv6
  have hR := HRes.out _ o6.1
  have r1 : w6.cell? ⟨w.heap.size + 1, 0, none⟩ = some (.slice none 0 0) := by simp [World.cell?, hR]
  have r2 : w6.frozen? ⟨w.heap.size + 1, 0, none⟩ = false := by simp [World.frozen?, hR]
  have R3 := Lib.hid (show (w6.setCell ⟨w.heap.size + 1, 0, none⟩ (.slice e6 m6 P.length)).cell? ⟨w.heap.size + 1, 0, none⟩ = some (.slice e6 m6 P.length) by simp [World.cell?, blk_one hR _])
  have HF := Lib.hid (show RetCO w P E (.returned (.tuple #[.agg #[.slice e6 m6 P.length], .int .i64 E])) (w6.setCell ⟨w.heap.size + 1, 0, none⟩ (.slice e6 m6 P.length)) from
    ⟨_, rfl, o6.put (u := .slice e6 m6 P.length) (a := ⟨w.heap.size + 1, 0, none⟩) r6 X02.out hR (by decide) (by decide) (Nat.le_succ _)⟩)
  clear j1 j2 j3 j4 r6 o6 hR q0 q1 q2
  go_wp2
  have r3 := R3.out
  exact bodyPost_ret (v := .tuple #[.agg #[.slice e6 m6 P.length], .int .i64 E]) (by simp [results, Try.results25, go_sem, r3]) rfl HF.out
end Go.Proofs.Ytlmkcojimhbmiaa
/- ganseylaw15.words. -/
namespace Go.Proofs.Ytlmkcojimhbmiaa
set_option linter.unusedVariables false
set_option linter.unusedSimpArgs false
set_option maxRecDepth 8000
open Go Go.RowKit

theorem RO.lit2 {w : World} {g n : Nat} {l : List St} {arr : Array Value} (hg : g = w.heap.size) (ha : arr = (cells l).toArray) (hl : l.length ≤ 1000) (hn : n = l.length := by rfl) : RO (w.alloc (.cells arr 67)) g n l := by
  subst hg; subst hn; exact RO.lit ha hl
def st1 (k : Int) : St := ⟨k, 1, 0, 0, false⟩
set_option maxHeartbeats 2000000 in
theorem words_calls (v : Value) (c : Nat) (ks : List Int) (w : World) (h : IS .u8 w v c ks) (hl : ks.length ≤ 1000) : Calls Try.prog 38 #[v] w (RetCC w [ks.map st1]) := by
  obtain ⟨hlc, hcm, ao, rfl, hcell⟩ := h.open
  obtain ⟨n, hn⟩ : ∃ n, n = ks.length := ⟨_, rfl⟩
  rw [← hn] at hlc hcell hl ⊢
  obtain ⟨W, hW⟩ : ∃ W, W = w.alloc (.cells #[.slice none 0 0] 24) := ⟨_, rfl⟩
  have xW : Ext w W := by rw [hW]; exact (Ext.refl w).alloc _
  have hres : W.heap[w.heap.size]? = some (Obj.cells #[.slice none 0 0] 24 (0, 0)) := by rw [hW]; exact blk_at rfl
  have HRes := Lib.hid (fun w' (x : Ext W w') => x.block hres)
  have HC := Lib.hid (show ∀ i, i < n → ∃ b o, ao = some ⟨b, o, none⟩ ∧ w.cell? ⟨b, o + i, none⟩ = some (.int .u8 (gi ks i)) from fun i hi => by
    rcases hcell with ⟨_, h0, _⟩ | ⟨b, o, e, hc⟩
    · omega
    · exact ⟨b, o, e, hc i hi⟩)
  have HT := Lib.hid (fun k (hk : k < n) => take_succ_gi (xs := ks) (k := k) (by omega))
  have HAl := Lib.hid (show ks.take n = ks by rw [hn, List.take_length])
  have XW := Lib.hid xW; have HW := Lib.hid hW; have Hn := Lib.hid hn
  clear h hlc hcm hcell hn hres xW hW
  go_enter Try.func38, Try.ntmps38
  go_wp2
  rw [← HW.out]
  go_loopw [3, 4] (fun l i wr => ∃ k : Nat, k ≤ n ∧ i = .int .i64 k ∧ Hid (wr.ownsRow W.heap.size 67 5 l k (cells ((ks.take k).map st1)) ∧ Ext W wr)) (fun _ i _ => n - (intOf i).toNat)
  case atStart => exact ⟨0, by omega, rfl, Lib.hid ⟨World.ownsRow_nil _ _ _ _, Ext.refl W⟩⟩
  case round =>
    obtain ⟨k, hk, rfl, H⟩ := hrel
    have hsz := H.out.2.size
    by_cases hlt : k < n
    · have t1 : (k : Int) < n := by omega
      obtain ⟨b, o, rfl, z1⟩ := HC.out k hlt
      replace z1 := (XW.out.trans H.out.2).cell z1
      obtain ⟨q, hq⟩ : ∃ q, q = gi ks k := ⟨_, rfl⟩
      have HTk := Lib.hid (HT.out k hlt)
      rw [← hq] at z1 HTk
      clear hq
      go_wp2_with (at_builtin; go_loud (refine app_st rfl _ _ rfl W.heap.size _ k (cells ((ks.take k).map st1)) rfl (own_wet H.out.1 ((Ext.refl wr).alloc _)) _ 1 1 [st1 q] rfl rfl (RO.lit2 (by simp) rfl (by simp)) ?u1 ?u2 ?_))
      case u1 => omega
      case u2 => exact Nat.le_trans hsz (by simp)
      intro v' w' hown hbel
      have HO := Lib.hid (show w'.ownsRow W.heap.size 67 5 v' (k + 1) (cells ((ks.take (k + 1)).map st1)) ∧ Ext W w' from ⟨by rw [HTk.out, List.map_append, cells_app, List.map_take]; exact hown, Below.trans (H.out.2.alloc _) hbel⟩)
      clear hown hbel
      go_wp2
      go_roundw
      case rel => exact ⟨k + 1, by omega, by go_num, HO⟩
      case measure => simp [intOf]; omega
    · obtain rfl : n = k := by omega
      have hrv := (RV.of_own H.out.1).1
      rw [HAl.out] at hrv
      obtain ⟨ra, rn, rc, rfl, hrn⟩ := hrv.form
      obtain ⟨W2, hW2⟩ : ∃ W2, W2 = wr.alloc (.cells #[.slice ra rn rc] 59) := ⟨_, rfl⟩
      have x2 : Ext wr W2 := by rw [hW2]; exact (Ext.refl wr).alloc _
      have hb2 : W2.heap[wr.heap.size]? = some (Obj.cells #[.slice ra rn rc] 59 (0, 0)) := by rw [hW2]; exact blk_at rfl
      have hR := HRes.out _ (H.out.2.trans x2)
      have r1 : W2.cell? ⟨w.heap.size, 0, none⟩ = some (.slice none 0 0) := by simp [World.cell?, hR]
      have r2 : W2.frozen? ⟨w.heap.size, 0, none⟩ = false := by simp [World.frozen?, hR]
      have hne : wr.heap.size ≠ w.heap.size := by
        have := lt_of_block (HRes.out _ H.out.2)
        omega
      obtain ⟨d, hd⟩ := ((hrv.ext x2).setOther (a := ⟨w.heap.size, 0, none⟩) (u' := .slice (some ⟨wr.heap.size, 0, none⟩) 1 1) hR (by decide)).rs
      have hF : RetCC w [ks.map st1] (.returned (.agg #[.slice (some ⟨wr.heap.size, 0, none⟩) 1 1])) (W2.setCell ⟨w.heap.size, 0, none⟩ (.slice (some ⟨wr.heap.size, 0, none⟩) 1 1)) :=
        ⟨_, 1, rfl, RR.one (by rw [Deep.blk_setCell_other _ _ _ _ hne]; exact hb2) hd, (XW.out.trans (H.out.2.trans x2)).setCell (Nat.le_refl _) _⟩
      have R3 := Lib.hid (show (W2.setCell ⟨w.heap.size, 0, none⟩ (.slice (some ⟨wr.heap.size, 0, none⟩) 1 1)).cell? ⟨w.heap.size, 0, none⟩ = some (.slice (some ⟨wr.heap.size, 0, none⟩) 1 1) by simp [World.cell?, blk_one hR _])
      have HF := Lib.hid hF; have HW2 := Lib.hid hW2
      rw [hW2] at r1 r2
      clear hlt hk hrv hrn hW2 x2 hb2 hR hne hd hF
      go_wp2
      rw [← HW2.out]
      have r3 := R3.out
      exact bodyPost_ret (v := .agg #[.slice (some ⟨wr.heap.size, 0, none⟩) 1 1]) (by simp [results, Try.results38, go_sem, r3]) rfl HF.out
end Go.Proofs.Ytlmkcojimhbmiaa
/- charts.Mirror. -/
namespace Go.Proofs.Ytlmkcojimhbmiaa
set_option linter.unusedVariables false
set_option linter.unusedSimpArgs false
set_option maxRecDepth 8000
open Go Go.RowKit

theorem RO.put5 {w : World} {g c : Nat} {l : List St} (h : RO w g c l) {i : Nat} (hi : i < l.length) (s : St) :
    RO (((((w.setCell ⟨g, i * 5, none⟩ (.int .u8 s.k)).setCell ⟨g, i * 5 + 1, none⟩ (.int .u8 s.y)).setCell ⟨g, i * 5 + 2, none⟩ (.int .i64 s.a)).setCell ⟨g, i * 5 + 3, none⟩ (.int .i64 s.b)).setCell ⟨g, i * 5 + 4, none⟩ (.bool s.f)) g c (l.set i s) := by
  obtain ⟨h1, h2, f, h3, h4⟩ := h
  refine ⟨by simpa using h1, h2, _, ((((h3.set (i * 5) _).set (i * 5 + 1) _).set (i * 5 + 2) _).set (i * 5 + 3) _).set (i * 5 + 4) _, fun j hj => ?_⟩
  rw [List.length_set] at hj
  rw [si_set hi]
  obtain ⟨a, b, c', d, e⟩ := h4 j hj
  by_cases hji : j = i
  · subst hji
    rw [if_pos rfl]
    refine ⟨?_, ?_, ?_, ?_, ?_⟩ <;> simp
  · rw [if_neg hji]
    refine ⟨?_, ?_, ?_, ?_, ?_⟩ <;> (simp only []; rw [if_neg (by omega), if_neg (by omega), if_neg (by omega), if_neg (by omega), if_neg (by omega)]; assumption)
theorem RO.other5 {w : World} {g c b o : Nat} {l : List St} (h : RO w g c l) (hb : g ≠ b) (v0 v1 v2 v3 v4 : Value) :
    RO (((((w.setCell ⟨b, o, none⟩ v0).setCell ⟨b, o + 1, none⟩ v1).setCell ⟨b, o + 2, none⟩ v2).setCell ⟨b, o + 3, none⟩ v3).setCell ⟨b, o + 4, none⟩ v4) g c l :=
  ((((h.setOther hb _).setOther hb _).setOther hb _).setOther hb _).setOther hb _
theorem blk_other5 {w : World} {g b o : Nat} {x : Obj} (h : w.heap[g]? = some x) (hb : g ≠ b) (v0 v1 v2 v3 v4 : Value) :
    (((((w.setCell ⟨b, o, none⟩ v0).setCell ⟨b, o + 1, none⟩ v1).setCell ⟨b, o + 2, none⟩ v2).setCell ⟨b, o + 3, none⟩ v3).setCell ⟨b, o + 4, none⟩ v4).heap[g]? = some x := by
  rw [Deep.blk_setCell_other _ _ _ _ hb, Deep.blk_setCell_other _ _ _ _ hb, Deep.blk_setCell_other _ _ _ _ hb, Deep.blk_setCell_other _ _ _ _ hb, Deep.blk_setCell_other _ _ _ _ hb]; exact h
theorem cell_o5 {w : World} {b o : Nat} {a : Addr} {v : Value} (h : w.cell? a = some v) (hb : a.block ≠ b) (v0 v1 v2 v3 v4 : Value) :
    (((((w.setCell ⟨b, o, none⟩ v0).setCell ⟨b, o + 1, none⟩ v1).setCell ⟨b, o + 2, none⟩ v2).setCell ⟨b, o + 3, none⟩ v3).setCell ⟨b, o + 4, none⟩ v4).cell? a = some v := by
  have hx : ∀ (u : World) (p : Addr) (x : Value), a.block ≠ p.block → (u.setCell p x).cell? a = u.cell? a := fun u p x hp => World.cell?_of_block (Deep.blk_setCell_other _ _ _ _ hp)
  rw [hx _ _ _ hb, hx _ _ _ hb, hx _ _ _ hb, hx _ _ _ hb, hx _ _ _ hb]; exact h
/-- A stitch of row j is written. -/
theorem CS.putSt {w wr : World} {R N k j i : Nat} {rows : Nat → List St} {q cp : Nat → Nat} (h : CS w wr R N k rows q cp) (hj : j < k) (hi : i < (rows j).length) (s : St) :
    CS w (((((wr.setCell ⟨q j, i * 5, none⟩ (.int .u8 s.k)).setCell ⟨q j, i * 5 + 1, none⟩ (.int .u8 s.y)).setCell ⟨q j, i * 5 + 2, none⟩ (.int .i64 s.a)).setCell ⟨q j, i * 5 + 3, none⟩ (.int .i64 s.b)).setCell ⟨q j, i * 5 + 4, none⟩ (.bool s.f)) R N k (up rows j ((rows j).set i s)) q cp := by
  obtain ⟨h1, h2, h3, ⟨f, h4, h5⟩, h6, h7⟩ := h
  have hb := (h6 j hj).2.1
  have hR : R ≠ q j := fun e => (h6 j hj).2.2 e.symm
  refine ⟨((((h1.setCell hb _).setCell hb _).setCell hb _).setCell hb _).setCell hb _, h2, h3, ⟨f, ((((h4.setOther hR _).setOther hR _).setOther hR _).setOther hR _).setOther hR _, fun i' hi' => ?_⟩, fun i' hi' => ?_, h7⟩
  · by_cases e : i' = j
    · subst e; rw [up_at, List.length_set]; exact h5 i' hi'
    · rw [up_ne _ _ e]; exact h5 i' hi'
  · by_cases e : i' = j
    · subst e; rw [up_at]; exact ⟨(h6 i' hi').1.put5 hi s, (h6 i' hi').2⟩
    · rw [up_ne _ _ e]
      exact ⟨(h6 i' hi').1.other5 (fun c => e (h7 i' j hi' hj c)) _ _ _ _ _, (h6 i' hi').2⟩
/-- A chart is returned, its rows without spare capacity. -/
def RetCN (w0 : World) (rows : List (List St)) (e : Ending) (w' : World) : Prop := ∃ v, e = .returned (.agg #[v]) ∧ RR w' v rows.length rows ∧ Ext w0 w' ∧ ∀ w2 : World, (∀ b, w0.heap.size ≤ b → b < w'.heap.size → w2.heap[b]? = w'.heap[b]?) → RR w2 v rows.length rows
theorem CS.rr2 {w wr w2 : World} {R N : Nat} {rows : Nat → List St} {q cp : Nat → Nat} (h : CS w wr R N N rows q cp) (hb : ∀ b, w.heap.size ≤ b → b < wr.heap.size → w2.heap[b]? = wr.heap[b]?) : RR w2 (.slice (some ⟨R, 0, none⟩) N N) N ((List.range N).map rows) := by
  have hl : ((List.range N).map rows).length = N := by simp
  have hs : ∀ i, i < N → sw ((List.range N).map rows) i = rows i := fun i hi => by rw [sw_of_lt (by rw [hl]; exact hi)]; simp
  obtain ⟨p1, p2, p3, ⟨f, p4, p5⟩, p6, p7⟩ := h
  have e := hb R p2 p4.lt
  refine ⟨_, fun i => .slice (some ⟨q i, 0, none⟩) (rows i).length (cp i), cp, by rw [hl], by omega, p3, .inr ⟨R, 0, rfl, fun i hi => ?_⟩, fun i hi => ?_⟩
  · rw [hl] at hi
    rw [Nat.zero_add]
    have := (p4.of_block e).cell hi
    rw [p5 i hi] at this
    exact this
  · rw [hl] at hi
    rw [hs i hi]
    obtain ⟨r1, r2, r3⟩ := p6 i hi
    exact (r1.of_block (hb _ r2 r1.lt)).rs
def RetCM (w0 : World) (rows : List (List St)) (e : Ending) (w' : World) : Prop := ∃ v, e = .returned (.agg #[v]) ∧ RR w' v rows.length rows ∧ Ext w0 w'
/-- The image so far, and where it lies. -/
def MI (B wr : World) (R N k M : Nat) (rows : Nat → List St) (q cp : Nat → Nat) : Prop := CS B wr R N k rows q cp ∧ wr.heap[M]? = some (.cells #[.slice (some ⟨R, 0, none⟩) N N] 24 (0, 0))

set_option maxHeartbeats 8000000 in
theorem CMirror2_calls (v : Value) (c : Nat) (rows : List (List St)) (w : World) (h : RR w v c rows) (hl : rows.length ≤ 1000) (hb : ∀ i, i < rows.length → (sw rows i).length ≤ 1000) :
    Calls Try.prog 26 #[.agg #[v]] w (RetCN w (mirC rows)) := by
  obtain ⟨ao, N, rfl, hn, hc, hcm, hat⟩ := h.open
  unfold maxLen at hcm
  obtain ⟨B, hB⟩ : ∃ B, B = (w.alloc (.cells #[.slice ao N c] 24)).alloc (.cells #[.slice none 0 0] 24) := ⟨_, rfl⟩
  have xB : Ext w B := by rw [hB]; exact ((Ext.refl w).alloc _).alloc _
  have b0 : B.heap[w.heap.size]? = some (.cells #[.slice ao N c] 24 (0, 0)) := by rw [hB]; exact blk_old (blk_at rfl)
  have b1 : B.heap[w.heap.size + 1]? = some (.cells #[.slice none 0 0] 24 (0, 0)) := by rw [hB]; exact blk_at (by simp)
  have d0 : B.cell? ⟨w.heap.size, 0, none⟩ = some (.slice ao N c) := by simp [World.cell?, b0]
  have hmk := fun w' => run_make_lc (P := Try.prog) eiRows .i64 .i64 N N (by omega) (by omega) (by omega) w'
  have XB := Lib.hid xB; have HB1 := Lib.hid (fun w' (x : Ext B w') => x.block b1); have HA := Lib.hid hat; have Hn := Lib.hid hn; have HL := Lib.hid (fun i (hi : i < N) => hb i (by omega)); have HBs := Lib.hid (show B.heap.size = w.heap.size + 2 by rw [hB]; simp)
  have HD0 := Lib.hid (fun w' (x : Ext B w') => x.cell d0)
  have HBe := Lib.hid hB
  have HMs := Lib.hid (fun i (hi : i < N) => mirC_sw (rows := rows) (i := i) (by omega))
  have hN : N ≤ 1000 := by omega
  rw [hB] at d0
  clear hat h hn hb hl xB b0 b1 hB
  go_enter Try.func26, Try.ntmps26
  go_wp2
  clear d0 hmk
  rw [← HBe.out]
  obtain ⟨R, hR⟩ : ∃ R, R = w.heap.size + 1 + 1 := ⟨_, rfl⟩
  obtain ⟨M, hM⟩ : ∃ M, M = w.heap.size + 1 + 1 + 1 := ⟨_, rfl⟩
  have hst : ∃ q cp, MI B ((B.alloc (.cells (madeCells #[.slice none 0 0] N) 59)).alloc (.cells #[.slice (some ⟨R, 0, none⟩) N N] 24)) R N 0 M (fun i => mirR (sw rows i)) q cp := by
    have hbs := HBs.out
    have hRB : R = B.heap.size := by omega
    refine ⟨fun _ => 0, fun _ => 0, CS.start (((Ext.refl B).alloc _).alloc _) (by omega) (by unfold maxLen; omega) (((Ext.refl _).alloc _).row (f := fun _ => .slice none 0 0) (by rw [hRB]; exact World.rowIs_made _ _ _ _)), blk_at (by simp; omega)⟩
  have HST := Lib.hid hst
  rw [← hM, ← hR]
  have HRM := Lib.hid (And.intro hR hM)
  clear hst hR hM
  go_loopw [4, 5, 6, 7, 16, 30] (fun _ _ _ _ i _ wr => ∃ k : Nat, k ≤ N ∧ i = .int .i64 k ∧ Hid (∃ q cp, MI B wr R N k M (fun i => mirR (sw rows i)) q cp)) (fun _ _ _ _ i _ _ => N - (intOf i).toNat)
  case atStart => exact ⟨0, Nat.zero_le _, rfl, HST⟩
  case round =>
    obtain ⟨k, hk, rfl, HC⟩ := hrel
    clear HST
    obtain ⟨q, cp, hCM⟩ := HC.out
    have HCM := Lib.hid hCM
    have hm0 : wr.cell? ⟨M, 0, none⟩ = some (.slice (some ⟨R, 0, none⟩) N N) := by simp [World.cell?, hCM.2]
    by_cases hlt : k < N
    · have hlt' : (k : Int) < (N : Int) := by omega
      obtain ⟨b, o, a, m, d, rfl, hc0, hr0⟩ := HA.out k hlt
      have hrB := hr0.ext (XB.out)
      replace hc0 := (XB.out.trans hCM.1.x).cell hc0
      obtain ⟨_, _, e1, e2, _, _, e5⟩ := hrB.open
      simp only [Value.slice.injEq] at e1
      obtain ⟨rfl, rfl, _⟩ := e1
      have hm1 : m ≤ 1000 := by rw [e2]; exact HL.out k hlt
      have HE5 := Lib.hid e5; have He2 := Lib.hid e2
      obtain ⟨vk, hvk⟩ := hCM.1.ex hlt
      have hfk := hCM.1.frozen k
      have hmk := fun w' => run_make_st .i64 .i64 m (by omega) w'
      have xg : Ext wr (wr.alloc (.cells (madeCells z5 (m * 5)) 67)) := (Ext.refl wr).alloc _
      have hCA := hCM.1.later xg
      have hm0a := xg.cell hm0
      obtain ⟨vk2, hvk2⟩ := hCA.ex hlt
      have hfk2 := hCA.frozen k
      clear hr0 hrB e2 e5 hCM HC hCA xg
      go_wp2
      go_region
      all_goals
        have hCM := HCM.out
        have xg : Ext wr (wr.alloc (.cells (madeCells z5 (m * 5)) 67)) := (Ext.refl wr).alloc _
        have hCA := hCM.1.later xg
        have hRO := RO.made wr m (by unfold maxLen; omega)
        have hlt3 := hCM.1.lt
        have hMlt : M < wr.heap.size := (Array.getElem?_eq_some_iff.1 hCM.2).1
        have hql := fun i (hi : i < k) => (hCM.1.ro i hi).1.lt
        have hput := hCA.put hlt hRO (by have := hCM.1.x.size; exact this) (by omega) (fun i hi => by have := hql i hi; omega)
        rw [List.length_replicate] at hput
        have hMb2 : ((wr.alloc (.cells (madeCells z5 (m * 5)) 67)).setCell ⟨R, k, none⟩ (.slice (some ⟨wr.heap.size, 0, none⟩) m m)).heap[M]? = some (.cells #[.slice (some ⟨R, 0, none⟩) N N] 24 (0, 0)) := by
          rw [Deep.blk_setCell_other _ _ _ _ (by have := HRM.out; simp only []; omega)]; exact xg.block hCM.2
        obtain ⟨g, hg⟩ : ∃ g, g = wr.heap.size := ⟨_, rfl⟩
        have HgM := Lib.hid (show M ≠ g ∧ R ≠ g from ⟨by omega, by omega⟩)
        obtain ⟨w3, hw3⟩ : ∃ w3, w3 = ((wr.alloc (.cells (madeCells z5 (m * 5)) 67)).setCell ⟨R, k, none⟩ (.slice (some ⟨wr.heap.size, 0, none⟩) m m)).drew := ⟨_, rfl⟩
        have h3 : MI B w3 R N (k + 1) M (up (fun i => mirR (sw rows i)) k (mrU (sw rows k) 0)) (up q k g) (up cp k m) := by
          rw [hw3, mrU_zero, ← He2.out, hg]
          exact ⟨hput.later (Ext.refl _).drew, hMb2⟩
        have H3 := Lib.hid h3
        rw [← hw3, ← hg]
        clear hCM xg hCA hRO hlt3 hMlt hql hput hMb2 hg hw3 h3 hvk hfk hvk2 hfk2 hm0 hm0a hc0 hmk
        go_wp2
        go_loopw [6, 7, 30] (fun _ _ i ws => ∃ j : Nat, j ≤ m ∧ i = .int .i64 j ∧ Hid (MI B ws R N (k + 1) M (up (fun i => mirR (sw rows i)) k (mrU (sw rows k) j)) (up q k g) (up cp k m))) (fun _ _ i _ => m - (intOf i).toNat)
        case atStart => exact ⟨0, Nat.zero_le _, rfl, H3⟩
        case round =>
          obtain ⟨j, hj, rfl, HJ⟩ := hrel
          clear H3
          obtain ⟨ws, hws⟩ : ∃ ws : World, ws = wr := ⟨_, rfl⟩
          rw [← hws] at HJ ⊢
          clear hws
          by_cases hjl : j < m
          · have hjl' : (j : Int) < (m : Int) := by omega
            obtain ⟨b2, o2, rfl, e8⟩ := HE5.out j hjl
            obtain ⟨u0, u1, u2, u3, u4⟩ := e8.ext HJ.out.1.x
            obtain ⟨S, hS⟩ : ∃ S, S = si (sw rows k) j := ⟨_, rfl⟩
            rw [← hS] at u0 u1 u2 u3 u4
            have hcl := fun w' => SMirror_calls S w'
            obtain ⟨T, hT⟩ : ∃ T, T = S.mir := ⟨_, rfl⟩
            rw [← hT] at hcl
            obtain ⟨tk, ty, ta, tb, tf⟩ := T
            unfold St.val at hcl
            simp only [] at hcl
            have HTe := Lib.hid hT
            clear hT
            have HCl := Lib.hid hcl; have HSe := Lib.hid hS
            obtain ⟨p, hp⟩ : ∃ p, p = m - 1 - j := ⟨_, rfl⟩
            have hpm : p < m := by omega
            have wz1 : IntKind.i64.wrap ((m : Int) - 1) = (m : Int) - 1 := IntWalk.i64_in _ ⟨by omega, by omega⟩
            have wz2 : IntKind.i64.wrap ((m : Int) - 1 - (j : Int)) = (p : Int) := by rw [show (m : Int) - 1 - (j : Int) = (p : Int) by omega]; exact IntWalk.i64_in _ ⟨by omega, by omega⟩
            have hpi : (p : Int) < (m : Int) := by omega
            have hset := mrU_set (l := sw rows k) (j := j) (by rw [← He2.out]; exact hjl)
            rw [← He2.out, ← hp, ← hS] at hset
            have HSet := Lib.hid hset; have Hp := Lib.hid hp
            have hml : (mrU (sw rows k) j).length = m := by rw [mrU_len _ (by rw [← He2.out]; omega), He2.out]
            have HMl := Lib.hid hml
            have x6 : Ext ws (ws.alloc (.cells #[.int .u8 S.k, .int .u8 S.y, .int .i64 S.a, .int .i64 S.b, .bool S.f] 67)) := (Ext.refl ws).alloc _
            have hro := (HJ.out.1.ro k (by omega)).1
            rw [up_at, up_at, up_at] at hro
            have htg : ws.heap.size ≠ g := by have := hro.lt; omega
            obtain ⟨w6, hw6⟩ : ∃ w6, w6 = ws.alloc (.cells #[.int .u8 S.k, .int .u8 S.y, .int .i64 S.a, .int .i64 S.b, .bool S.f] 67) := ⟨_, rfl⟩
            rw [← hw6] at x6
            have hB6 : B5 w6 ws.heap.size S 67 := by rw [hw6]; exact B5.new ws S _
            obtain ⟨q0_3, q0_4, q0_5, q0_6, q0_7⟩ := B5c hB6
            have hMb := x6.block HJ.out.2
            have q0_1 : w6.cell? ⟨M, 0, none⟩ = some (.slice (some ⟨R, 0, none⟩) N N) := by simp [World.cell?, hMb]
            have q0_2 : w6.cell? ⟨R, k, none⟩ = some (.slice (some ⟨g, 0, none⟩) m m) := by
              have := (HJ.out.1.later x6).cell (i := k) (by omega) (by omega)
              rwa [up_at, up_at, up_at, hml] at this
            have HRO := Lib.hid (hro.ext x6); have X6 := Lib.hid x6; have HW6 := Lib.hid hw6
            have p0 : p * 5 < m * 5 := by omega
            have p1 : p * 5 + 1 < m * 5 := by omega
            have p2 : p * 5 + 2 < m * 5 := by omega
            have p3 : p * 5 + 3 < m * 5 := by omega
            have p4 : p * 5 + 4 < m * 5 := by omega
            obtain ⟨hMg, hRg⟩ := HgM.out
            clear e8 hS hcl hset hp hml x6 hro hw6 hB6 hMb
            go_wp2
            rw [← HW6.out]
            clear u0 u1 u2 u3 u4 HCM
            go_region_held3 (fun w' => w'.cell? ⟨M, 0, Option.none⟩ = some (.slice (some ⟨R, 0, Option.none⟩) N N) ∧ w'.cell? ⟨R, k, Option.none⟩ = some (.slice (some ⟨g, 0, Option.none⟩) m m) ∧ w'.cell? ⟨ws.heap.size, 0, Option.none⟩ = some (.int .u8 S.k) ∧ w'.cell? ⟨ws.heap.size, 1, Option.none⟩ = some (.int .u8 S.y) ∧ w'.cell? ⟨ws.heap.size, 2, Option.none⟩ = some (.int .i64 S.a) ∧ w'.cell? ⟨ws.heap.size, 3, Option.none⟩ = some (.int .i64 S.b) ∧ w'.cell? ⟨ws.heap.size, 4, Option.none⟩ = some (.bool S.f)) (first | (with_reducible exact ⟨q0_1, q0_2, q0_3, q0_4, q0_5, q0_6, q0_7⟩) | (with_reducible exact ⟨q1_1, q1_2, q1_3, q1_4, q1_5, q1_6, q1_7⟩) | with_reducible exact ⟨cell_o5 q1_1 hMg _ _ _ _ _, cell_o5 q1_2 hRg _ _ _ _ _, cell_o5 q1_3 htg _ _ _ _ _, cell_o5 q1_4 htg _ _ _ _ _, cell_o5 q1_5 htg _ _ _ _ _, cell_o5 q1_6 htg _ _ _ _ _, cell_o5 q1_7 htg _ _ _ _ _⟩ | go_keep) (first
              | (go_at_call 41; (refine (HCl.out _).mono ?_); intro e wc hh; obtain ⟨rfl, x⟩ := hh; have Xc : Hid (Ext w6 wc) := Lib.hid (Ext.trans (by (repeat (first | (with_reducible exact Ext.refl _) | (with_reducible apply Ext.drew) | (with_reducible apply Ext.drewN) | (with_reducible apply Ext.alloc)))) x); have q1_1 := Xc.out.cell q0_1; have q1_2 := Xc.out.cell q0_2; have q1_3 := Xc.out.cell q0_3; have q1_4 := Xc.out.cell q0_4; have q1_5 := Xc.out.cell q0_5; have q1_6 := Xc.out.cell q0_6; have q1_7 := Xc.out.cell q0_7; have hro := HRO.out.ext Xc.out; obtain ⟨z0, g0⟩ := hro.shapeCell p0; obtain ⟨z1, g1⟩ := hro.shapeCell p1; obtain ⟨z2, g2⟩ := hro.shapeCell p2; obtain ⟨z3, g3⟩ := hro.shapeCell p3; obtain ⟨z4, g4⟩ := hro.shapeCell p4; have f0 := hro.frozen (p * 5); have f1 := hro.frozen (p * 5 + 1); have f2 := hro.frozen (p * 5 + 2); have f3 := hro.frozen (p * 5 + 3); have f4 := hro.frozen (p * 5 + 4); clear hro; clear x))
            have hC9 := HJ.out.1.later (X6.out.trans Xc.out)
            have hq9 : (up q k g) k = g := up_at _ _ _
            have hP9 := hC9.putSt (j := k) (i := p) (by omega) (by rw [up_at, HMl.out]; exact hpm) ⟨tk, ty, ta, tb, tf⟩
            rw [hq9] at hP9
            have hD9 := hP9.congr (rows' := up (fun i => mirR (sw rows i)) k (mrU (sw rows k) (j + 1))) (fun i _ => by
              by_cases e : i = k
              · subst e; rw [up_at, up_at, up_at, HTe.out]; exact HSet.out
              · rw [up_ne _ _ e, up_ne _ _ e, up_ne _ _ e])
            have HN := Lib.hid (show MI B _ R N (k + 1) M (up (fun i => mirR (sw rows i)) k (mrU (sw rows k) (j + 1))) (up q k g) (up cp k m) from ⟨hD9, blk_other5 (Xc.out.block (X6.out.block HJ.out.2)) hMg _ _ _ _ _⟩)
            clear hC9 hq9 hP9 hD9 q0_1 q0_2 q0_3 q0_4 q0_5 q0_6 q0_7 q1_1 q1_2 q1_3 q1_4 q1_5 q1_6 q1_7 g0 g1 g2 g3 g4 f0 f1 f2 f3 f4
            go_wp2
            go_roundw
            case rel => exact ⟨j + 1, by omega, by go_num, HN⟩
            case measure => simp [intOf]; omega
          · obtain rfl : m = j := by omega
            have hjl' : ¬ (m : Int) < (m : Int) := by omega
            have HD := Lib.hid (show ∃ q cp, MI B ws R N (k + 1) M (fun i => mirR (sw rows i)) q cp from ⟨_, _, HJ.out.1.congr (rows' := fun i => mirR (sw rows i)) (fun i _ => by
              by_cases e : i = k
              · subst e; rw [up_at, He2.out, mrU_all]
              · rw [up_ne _ _ e]), HJ.out.2⟩)
            clear HJ
            go_wp2
            go_roundw
            case rel => exact ⟨k + 1, by omega, by go_num, HD⟩
            case measure => simp [intOf]; omega
    · obtain rfl : N = k := by omega
      have hlt' : ¬ (N : Int) < (N : Int) := by omega
      have b1 := HB1.out wr hCM.1.x
      have c1 : wr.cell? ⟨w.heap.size + 1, 0, none⟩ = some (.slice none 0 0) := by simp [World.cell?, b1]
      have f1 : wr.frozen? ⟨w.heap.size + 1, 0, none⟩ = false := by simp [World.frozen?, b1]
      have hP1 : w.heap.size + 1 < B.heap.size := by have := HBs.out; omega
      have HF := Lib.hid (show RetCN w (mirC rows) (.returned (.agg #[.slice (some ⟨R, 0, none⟩) N N])) (wr.setCell ⟨w.heap.size + 1, 0, none⟩ (.slice (some ⟨R, 0, none⟩) N N)) from by
        have hc := hCM.1
        have h2 : CS w (wr.setCell ⟨w.heap.size + 1, 0, none⟩ (.slice (some ⟨R, 0, none⟩) N N)) R N N (fun i => mirR (sw rows i)) q cp := by
          obtain ⟨p1, p2, p3, ⟨f, p4, p5⟩, p6, p7⟩ := hc
          refine ⟨(XB.out.trans p1).setCell (by simp) _, by omega, p3, ⟨f, p4.setOther (by simp only []; omega) _, p5⟩, fun i hi => ?_, p7⟩
          obtain ⟨r1, r2, r3⟩ := p6 i hi
          exact ⟨r1.setOther (by simp only []; omega) _, by omega, r3⟩
        have e1 := sw_range (l := mirC rows) (by rw [mirC_len, Hn.out]) (fun i hi => (HMs.out i hi).symm)
        have e2 : (mirC rows).length = N := by rw [mirC_len, ← Hn.out]
        refine ⟨_, rfl, ?_, (XB.out.trans hc.x).setCell (by simp) _, fun w2 hb => ?_⟩
        · have := h2.rr
          rw [e1] at this
          rw [e2]; exact this
        · have := h2.rr2 hb
          rw [e1] at this
          rw [e2]; exact this)
      clear hCM HCM HC b1 hP1
      go_wp2
      exact bodyPost_ret (v := .agg #[.slice (some ⟨R, 0, none⟩) N N]) (by simp [results, Try.results26, go_sem, World.cell?_setCell_same, *]) rfl HF.out
theorem CMirror_calls (v : Value) (c : Nat) (rows : List (List St)) (w : World) (h : RR w v c rows) (hl : rows.length ≤ 1000) (hb : ∀ i, i < rows.length → (sw rows i).length ≤ 1000) :
    Calls Try.prog 26 #[.agg #[v]] w (RetCM w (mirC rows)) := by
  refine (CMirror2_calls v c rows w h hl hb).mono ?_
  rintro e w' ⟨v, e1, e2, e3, _⟩
  exact ⟨v, e1, e2, e3⟩
end Go.Proofs.Ytlmkcojimhbmiaa
