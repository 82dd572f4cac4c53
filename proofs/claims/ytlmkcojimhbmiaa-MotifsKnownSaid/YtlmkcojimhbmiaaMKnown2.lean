/- Texts of this claim in one file: libraries and walks. -/
import Derived.Deep.CutRange
import Derived.Deep.CutBlock
import Derived.Test.YtlmkcojimhbmiaaMKnown1
/- MotifsFit: the walk. -/
namespace Go.Proofs.Ytlmkcojimhbmiaa
set_option linter.unusedVariables false
set_option linter.unusedSimpArgs false
set_option maxRecDepth 20000
open Go Go.RowKit

theorem cl_ky {C : List (List St)} (h : (cloads C).1 = 0) {i : Nat} (hi : i < C.length) : ∀ j, j < (sw C i).length → 0 ≤ (si (sw C i) j).k ∧ 0 ≤ (si (sw C i) j).y := fun j hj => by
  have := St.chk_ok (((cl_rows h).2.2 i hi).2.2 j hj)
  omega
theorem OKb.ky {C T : List (List St)} (h : OKb C T) {i : Nat} (hi : i < C.length) : ∀ j, j < (sw C i).length → 0 ≤ (si (sw C i) j).k ∧ 0 ≤ (si (sw C i) j).y := by
  rcases h with rfl | h
  · simp at hi
  · exact cl_ky h.1 hi
theorem fndF_step {e t wd : Int} {k : Nat} (h1 : 1 ≤ k) (h : k ≤ 16) : fndF e t wd (17 - k) k = if e + k * t = wd then k else fndF e t wd (16 - k) (k + 1) := by
  rw [show 17 - k = (16 - k) + 1 by omega]; rfl
theorem rneeds_c (v : Value) (c : Nat) (l : List St) (x : Int) (w : World) (h : RS w v c l) (hl : l.length ≤ 1000) (hs : ∀ i, i < l.length → 0 ≤ (si l i).k ∧ 0 ≤ (si l i).y) (hx : rneed l = x) : Calls Try.prog 28 #[v] w fun e w' => e = .returned (.int .i64 x) ∧ Ext w w' := by
  rw [← hx]; exact RRowNeeds_calls v c l w h (by omega) hs
/-- The widths of a tile that has them. -/
theorem tile_w {L T R : List (List St)} {n : Nat} (hL : OKb L T) (hR : OKb R T) (hT : (cloads T).1 = 0) (h16 : n ≤ 16) (h : prgE L T R n 1 = 0) : prgR L T R n 1 = stkOne L T R n := by
  rw [prgE_eq] at h
  rw [prgR_eq]
  unfold stkR
  rw [if_pos h, show (min (1 : Int) 32).toNat = 1 from rfl, stk1, show (min (n : Int) 17).toNat = n by omega]
set_option maxHeartbeats 8000000 in
theorem MotifsFit_walk (ht ed wL wT wR wd : Int) (uL uT uR : Value) (cL cT cR : Nat) (xL xT xR : List (List Int)) (w : World) (hh : 0 ≤ ht ∧ ht ≤ 255) (he : 0 ≤ ed ∧ ed ≤ 255)
    (hL : ISS .u8 w uL cL xL) (hT : ISS .u8 w uT cT xT) (hR : ISS .u8 w uR cR xR) (bL : 0 ≤ wL ∧ wL ≤ 255) (bT : 0 ≤ wT ∧ wT ≤ 255) (bR : 0 ≤ wR ∧ wR ≤ 255) (yL : bt8 xL) (yT : bt8 xT) (yR : bt8 xR) :
    Calls Try.prog 9 #[.agg #[.int .u8 ht, .int .u8 ed, .int .u8 wL, uL, .int .u8 wT, uT, .int .u8 wR, uR], .int .i64 wd] w fun e w' => e = .returned (.bool true) ∧ Ext w w' := by
  have hM := fun w' (x : Ext w w') => MOf_calls ht ed wL wT wR uL uT uR cL cT cR xL xT xR w' hh he (hL.ext x) (hT.ext x) (hR.ext x) bL bT bR yL yT yR
  obtain ⟨vsL, cpL, gL⟩ := hL
  obtain ⟨aL, nL, rfl, j1, j2, j3, j4⟩ := gL.outs
  clear j1 j2 j3 j4
  obtain ⟨vsT, cpT, gT⟩ := hT
  obtain ⟨aT, nT, rfl, j1, j2, j3, j4⟩ := gT.outs
  clear j1 j2 j3 j4
  obtain ⟨vsR, cpR, gR⟩ := hR
  obtain ⟨aR, nR, rfl, j1, j2, j3, j4⟩ := gR.outs
  clear j1 j2 j3 j4
  have HM := Lib.hid hM
  have Hht := Lib.hid hh.1
  clear hM gL gT gR bL bT bR yL yT yR hh he
  obtain ⟨Wa, hW⟩ : ∃ Wa, Wa = w.alloc (.cells #[.int .u8 ht, .int .u8 ed, .int .u8 wL, .slice aL nL cL, .int .u8 wT, .slice aT nT cT, .int .u8 wR, .slice aR nR cR] 48) := ⟨_, rfl⟩
  have xa : Ext w Wa := by rw [hW]; exact (Ext.refl w).alloc _
  have hba : Wa.heap[w.heap.size]? = some (Obj.cells #[.int .u8 ht, .int .u8 ed, .int .u8 wL, .slice aL nL cL, .int .u8 wT, .slice aT nT cT, .int .u8 wR, .slice aR nR cR] 48 (0, 0)) := by rw [hW]; exact blk_at rfl
  have X_1 := Lib.hid xa
  have A0 : Hid (Wa.cell? ⟨w.heap.size, 0, none⟩ = some (.int .u8 ht)) := Lib.hid (by simp [World.cell?, hba])
  have A1 : Hid (Wa.cell? ⟨w.heap.size, 1, none⟩ = some (.int .u8 ed)) := Lib.hid (by simp [World.cell?, hba])
  have A2 : Hid (Wa.cell? ⟨w.heap.size, 2, none⟩ = some (.int .u8 wL)) := Lib.hid (by simp [World.cell?, hba])
  have A3 : Hid (Wa.cell? ⟨w.heap.size, 3, none⟩ = some (.slice aL nL cL)) := Lib.hid (by simp [World.cell?, hba])
  have A4 : Hid (Wa.cell? ⟨w.heap.size, 4, none⟩ = some (.int .u8 wT)) := Lib.hid (by simp [World.cell?, hba])
  have A5 : Hid (Wa.cell? ⟨w.heap.size, 5, none⟩ = some (.slice aT nT cT)) := Lib.hid (by simp [World.cell?, hba])
  have A6 : Hid (Wa.cell? ⟨w.heap.size, 6, none⟩ = some (.int .u8 wR)) := Lib.hid (by simp [World.cell?, hba])
  have A7 : Hid (Wa.cell? ⟨w.heap.size, 7, none⟩ = some (.slice aR nR cR)) := Lib.hid (by simp [World.cell?, hba])
  have HWa := Lib.hid hW
  clear hW xa hba
  go_enter Try.func9, Try.ntmps9
  have a0 := A0.out
  rw [HWa.out] at a0
  have a1 := A1.out
  rw [HWa.out] at a1
  have a2 := A2.out
  rw [HWa.out] at a2
  have a3 := A3.out
  rw [HWa.out] at a3
  have a4 := A4.out
  rw [HWa.out] at a4
  have a5 := A5.out
  rw [HWa.out] at a5
  have a6 := A6.out
  rw [HWa.out] at a6
  have a7 := A7.out
  rw [HWa.out] at a7
  go_wp2_with fail
  rw [← HWa.out]
  refine (HM.out _ X_1.out).mono ?_
  rintro e w1 ⟨v0, v1, v2, d0, d1, d2, L, T, R, rfl, r0, r1, r2, hok, x⟩
  have HOK := Lib.hid hok
  clear hok HM
  clear a0 a1 a2 a3 a4 a5 a6 a7
  replace A0 := Lib.hid (x.cell A0.out)
  replace A1 := Lib.hid (x.cell A1.out)
  replace A2 := Lib.hid (x.cell A2.out)
  replace A3 := Lib.hid (x.cell A3.out)
  replace A4 := Lib.hid (x.cell A4.out)
  replace A5 := Lib.hid (x.cell A5.out)
  replace A6 := Lib.hid (x.cell A6.out)
  replace A7 := Lib.hid (x.cell A7.out)
  have X_2 := Lib.hid (X_1.out.trans x)
  clear X_1
  clear x
  clear A0 A1 A2 A3 A4 A5 A6 A7
  obtain ⟨a0, m0, hv, q0, j2, j3, hat0⟩ := r0.open
  subst hv
  have RL := Lib.hid r0
  clear r0 j2 j3
  have HAL := Lib.hid hat0
  have QL := Lib.hid q0
  clear hat0 q0
  obtain ⟨a1, m1, hv, q1, j2, j3, hat1⟩ := r1.open
  subst hv
  have RT := Lib.hid r1
  clear r1 j2 j3
  have HAT := Lib.hid hat1
  have QT := Lib.hid q1
  clear hat1 q1
  obtain ⟨a2, m2, hv, q2, j2, j3, hat2⟩ := r2.open
  subst hv
  have RR_ := Lib.hid r2
  clear r2 j2 j3
  have HAR := Lib.hid hat2
  have QR := Lib.hid q2
  clear hat2 q2
  obtain ⟨okL, okR, okT, t1, t2, t3⟩ := HOK.out.parts Hht.out
  have hmk : mchk L T R = 0 := mchk_ok okL okR okT
  obtain ⟨F, hF⟩ : ∃ F, fitE L T R wd = F := ⟨_, rfl⟩
  obtain ⟨N, hN⟩ : ∃ N, fitN L T R wd = N := ⟨_, rfl⟩
  have hf1 : (wd < 1 ∨ 16 < wd) → F = 1 ∧ N = 0 := fun h => by rw [← hF, ← hN]; unfold fitE fitN; have h0 : ¬ (0 : Int) ≠ 0 := (by decide); rw [hmk, if_neg h0, if_pos h, if_neg h0, if_pos h]; exact ⟨rfl, rfl⟩
  have hf2 : ¬ (wd < 1 ∨ 16 < wd) → F = (if fitF L T R wd = 0 then 7 else 0) ∧ N = fitF L T R wd := fun h => by rw [← hF, ← hN]; unfold fitE fitN; have h0 : ¬ (0 : Int) ≠ 0 := (by decide); rw [hmk, if_neg h0, if_neg h, if_neg h0, if_neg h]; exact ⟨rfl, rfl⟩
  have HF := Lib.hid hF; have HN := Lib.hid hN; have HF1 := Lib.hid hf1; have HF2 := Lib.hid hf2; have OKL := Lib.hid okL; have OKR := Lib.hid okR; have OKT := Lib.hid okT; have T1 := Lib.hid t1; have T2 := Lib.hid t2
  clear hF hN hf1 hf2 okL okR okT t1 t2 t3 hmk HOK
  obtain ⟨Wb, hW⟩ : ∃ Wb, Wb = w1.alloc (.cells #[.slice a0 m0 d0, .slice a1 m1 d1, .slice a2 m2 d2] 26) := ⟨_, rfl⟩
  have xa : Ext w1 Wb := by rw [hW]; exact (Ext.refl w1).alloc _
  have hba : Wb.heap[w1.heap.size]? = some (Obj.cells #[.slice a0 m0 d0, .slice a1 m1 d1, .slice a2 m2 d2] 26 (0, 0)) := by rw [hW]; exact blk_at rfl
  replace RL := Lib.hid (RL.out.ext xa)
  replace RT := Lib.hid (RT.out.ext xa)
  replace RR_ := Lib.hid (RR_.out.ext xa)
  have X_3 := Lib.hid (X_2.out.trans xa)
  clear X_2
  have B0 : Hid (Wb.cell? ⟨w1.heap.size, 0, none⟩ = some (.slice a0 m0 d0)) := Lib.hid (by simp [World.cell?, hba])
  have B1 : Hid (Wb.cell? ⟨w1.heap.size, 1, none⟩ = some (.slice a1 m1 d1)) := Lib.hid (by simp [World.cell?, hba])
  have B2 : Hid (Wb.cell? ⟨w1.heap.size, 2, none⟩ = some (.slice a2 m2 d2)) := Lib.hid (by simp [World.cell?, hba])
  have HWb := Lib.hid hW
  clear hW xa hba
  have X1b := Lib.hid (show Ext w1 Wb by rw [HWb.out]; exact (Ext.refl w1).alloc _)
  have b0 := B0.out
  rw [HWb.out] at b0
  have b1 := B1.out
  rw [HWb.out] at b1
  have b2 := B2.out
  rw [HWb.out] at b2
  go_wp2_with fail
  rw [← HWb.out]
  refine (fit_c _ _ _ _ _ _ L T R wd N F _ RL.out RT.out RR_.out HN.out HF.out).mono ?_
  rintro e w2 ⟨rfl, x⟩
  replace X1b := Lib.hid (X1b.out.trans x)
  clear b0 b1 b2
  replace RL := Lib.hid (RL.out.ext x)
  replace RT := Lib.hid (RT.out.ext x)
  replace RR_ := Lib.hid (RR_.out.ext x)
  replace B0 := Lib.hid (x.cell B0.out)
  replace B1 := Lib.hid (x.cell B1.out)
  replace B2 := Lib.hid (x.cell B2.out)
  have X_4 := Lib.hid (X_3.out.trans x)
  clear X_3
  clear x
  by_cases hw1 : wd < 1
  · obtain ⟨rfl, rfl⟩ := HF1.out (.inl hw1)
    clear HF1 HF2
    go_wp2_with fail
    refine (lives15_calls _).mono ?_
    rintro e w3 ⟨rfl, x⟩
    replace RL := Lib.hid (RL.out.ext x)
    replace RT := Lib.hid (RT.out.ext x)
    replace RR_ := Lib.hid (RR_.out.ext x)
    replace B0 := Lib.hid (x.cell B0.out)
    replace B1 := Lib.hid (x.cell B1.out)
    replace B2 := Lib.hid (x.cell B2.out)
    have X_5 := Lib.hid (X_4.out.trans x)
    clear X_4
    clear x
    go_wp2
    go_ret
    exact ⟨rfl, X_5.out⟩
  by_cases hw2 : 16 < wd
  · obtain ⟨rfl, rfl⟩ := HF1.out (.inr hw2)
    clear HF1 HF2
    go_wp2_with fail
    refine (lives15_calls _).mono ?_
    rintro e w3 ⟨rfl, x⟩
    replace RL := Lib.hid (RL.out.ext x)
    replace RT := Lib.hid (RT.out.ext x)
    replace RR_ := Lib.hid (RR_.out.ext x)
    replace B0 := Lib.hid (x.cell B0.out)
    replace B1 := Lib.hid (x.cell B1.out)
    replace B2 := Lib.hid (x.cell B2.out)
    have X_5 := Lib.hid (X_4.out.trans x)
    clear X_4
    clear x
    go_wp2
    go_ret
    exact ⟨rfl, X_5.out⟩
  obtain ⟨zF, zN⟩ := HF2.out (by omega)
  unfold fitF at zF zN
  have hbe1 := fedge_bd OKL.out.big
  have hbe2 := fedge_bd OKR.out.big
  have hl3 := rneed_bd (sw T 0)
  have hl4 := sw_bd (cl_big OKT.out) 0
  obtain ⟨eL, heL⟩ : ∃ eL, eL = fedge L := ⟨_, rfl⟩
  obtain ⟨eR, heR⟩ : ∃ eR, eR = fedge R := ⟨_, rfl⟩
  obtain ⟨tl, htl⟩ : ∃ tl, rneed (sw T 0) = tl := ⟨_, rfl⟩
  obtain ⟨F0, hF0⟩ : ∃ F0, F0 = fndF (eL + eR) tl wd 16 1 := ⟨_, rfl⟩
  rw [← heL, ← heR, htl, ← hF0] at zF zN
  rw [← heL] at hbe1
  rw [← heR] at hbe2
  rw [htl] at hl3
  have ht1 : 0 ≤ tl ∧ tl ≤ 64 := by omega
  have eL0 : m0 = 0 → eL = 0 := fun h => by rw [heL]; unfold fedge; rw [if_pos (by rw [← QL.out]; exact h)]
  have eL1 : m0 ≠ 0 → rneed (sw L 0) = eL := fun h => by rw [heL]; unfold fedge; rw [if_neg (by rw [← QL.out]; exact h)]
  have eR0 : m2 = 0 → eR = 0 := fun h => by rw [heR]; unfold fedge; rw [if_pos (by rw [← QR.out]; exact h)]
  have eR1 : m2 ≠ 0 → rneed (sw R 0) = eR := fun h => by rw [heR]; unfold fedge; rw [if_neg (by rw [← QR.out]; exact h)]
  have EL0 := Lib.hid eL0; have EL1 := Lib.hid eL1; have ER0 := Lib.hid eR0; have ER1 := Lib.hid eR1; have HEL := Lib.hid heL; have HER := Lib.hid heR; have HTL := Lib.hid htl; have HF0 := Lib.hid hF0; have ZF := Lib.hid zF; have ZN := Lib.hid zN
  have HLl := Lib.hid (Bd.ok OKL.out); have HRl := Lib.hid (Bd.ok OKR.out); have HTl := Lib.hid (Bd.cl OKT.out)
  have h1w : 1 ≤ wd := by omega
  have h2w : wd ≤ 16 := by omega
  clear eL0 eL1 eR0 eR1 heL heR htl hF0 zF zN hl3 hl4 HF1 HF2 hw1 hw2 HF HN
  have b := B0.out
  go_upto_if 41 with fail
  go_cut [8] from 37 to 49 (fun x wx => x = .int .i64 (eL) ∧ Hid (Ext w2 wx))
  case first =>
    by_cases hz : m0 = 0
    · have ez := EL0.out hz
      subst hz
      subst ez
      go_wp2_with fail
      go_meet
      case rel => exact ⟨by first | rfl | simp, Lib.hid (Ext.refl _)⟩
    · have t1 : (0 : Int) < m0 := by omega
      have t1' : 0 < m0 := by omega
      obtain ⟨b1, o1, a, m, d, hao, y1, y2⟩ := HAL.out 0 t1'
      rw [Nat.add_zero] at y1
      subst hao
      replace y1 := X1b.out.cell y1
      have HN := Lib.hid (rneeds_c _ d (sw L 0) eL w2 (y2.ext X1b.out) (HLl.out.2 0 (by rw [← QL.out]; exact t1')) (OKL.out.ky (by rw [← QL.out]; exact t1')) (EL1.out hz))
      clear y2 hz
      go_wp2_with fail
      refine HN.out.mono ?_
      rintro e w9 ⟨rfl, x9⟩
      have v1 : IntKind.i64.wrap (0 + eL) = eL := by rw [IntWalk.i64_in _ ⟨by omega, by omega⟩]; try omega
      have X9 := Lib.hid x9
      clear x9 y1 HN b
      go_wp2_with fail
      go_meet
      case rel => exact ⟨by first | rfl | simp, X9⟩
  case rest =>
    obtain ⟨rfl, XC⟩ := hcut
    clear b
    obtain ⟨w4, hnew⟩ : ∃ w4 : World, w4 = wc := ⟨_, rfl⟩
    rw [← hnew] at XC ⊢
    clear hnew
    have x := XC.out
    replace X1b := Lib.hid (X1b.out.trans x)
    replace RL := Lib.hid (RL.out.ext x)
    replace RT := Lib.hid (RT.out.ext x)
    replace RR_ := Lib.hid (RR_.out.ext x)
    replace B0 := Lib.hid (x.cell B0.out)
    replace B1 := Lib.hid (x.cell B1.out)
    replace B2 := Lib.hid (x.cell B2.out)
    have X_5 := Lib.hid (X_4.out.trans x)
    clear X_4
    clear x XC
    have b := B2.out
    go_upto_if 54 with fail
    go_cut [8] from 37 to 62 (fun x wx => x = .int .i64 (eL + eR) ∧ Hid (Ext w4 wx))
    case first =>
      by_cases hz : m2 = 0
      · have ez := ER0.out hz
        subst hz
        subst ez
        go_wp2_with fail
        go_meet
        case rel => exact ⟨by first | rfl | simp, Lib.hid (Ext.refl _)⟩
      · have t1 : (0 : Int) < m2 := by omega
        have t1' : 0 < m2 := by omega
        obtain ⟨b1, o1, a, m, d, hao, y1, y2⟩ := HAR.out 0 t1'
        rw [Nat.add_zero] at y1
        subst hao
        replace y1 := X1b.out.cell y1
        have HN := Lib.hid (rneeds_c _ d (sw R 0) eR w4 (y2.ext X1b.out) (HRl.out.2 0 (by rw [← QR.out]; exact t1')) (OKR.out.ky (by rw [← QR.out]; exact t1')) (ER1.out hz))
        clear y2 hz
        go_wp2_with fail
        refine HN.out.mono ?_
        rintro e w9 ⟨rfl, x9⟩
        have v1 : IntKind.i64.wrap (eL + eR) = eL + eR := by rw [IntWalk.i64_in _ ⟨by omega, by omega⟩]; try omega
        have X9 := Lib.hid x9
        clear x9 y1 HN b
        go_wp2_with fail
        go_meet
        case rel => exact ⟨by first | rfl | simp, X9⟩
    case rest =>
      obtain ⟨rfl, XC⟩ := hcut
      clear b
      obtain ⟨w5, hnew⟩ : ∃ w5 : World, w5 = wc := ⟨_, rfl⟩
      rw [← hnew] at XC ⊢
      clear hnew
      have x := XC.out
      replace X1b := Lib.hid (X1b.out.trans x)
      replace RL := Lib.hid (RL.out.ext x)
      replace RT := Lib.hid (RT.out.ext x)
      replace RR_ := Lib.hid (RR_.out.ext x)
      replace B0 := Lib.hid (x.cell B0.out)
      replace B1 := Lib.hid (x.cell B1.out)
      replace B2 := Lib.hid (x.cell B2.out)
      have X_6 := Lib.hid (X_5.out.trans x)
      clear X_5
      clear x XC
      obtain ⟨ee, hee⟩ : ∃ ee, ee = eL + eR := ⟨_, rfl⟩
      rw [← hee] at HF0 ⊢
      have hee1 : 0 ≤ ee ∧ ee ≤ 128 := by omega
      have HEE := Lib.hid hee
      clear hee hbe1 hbe2
      go_wp2
      go_loopw [9, 10] (fun s i wr => ∃ k : Nat, k ≤ 16 ∧ i = .int .i64 k ∧ s = .int .i64 (fndF ee tl wd (16 - k) (k + 1) : Nat) ∧ Hid (Ext w5 wr)) (fun _ i _ => (intOf i).toNat)
      case atStart => exact ⟨16, Nat.le_refl _, rfl, rfl, Lib.hid (Ext.refl _)⟩
      case round =>
        obtain ⟨k, hk, rfl, rfl, HX⟩ := hrel
        have x := HX.out
        replace X1b := Lib.hid (X1b.out.trans x)
        replace RL := Lib.hid (RL.out.ext x)
        replace RT := Lib.hid (RT.out.ext x)
        replace RR_ := Lib.hid (RR_.out.ext x)
        replace B0 := Lib.hid (x.cell B0.out)
        replace B1 := Lib.hid (x.cell B1.out)
        replace B2 := Lib.hid (x.cell B2.out)
        have X_7 := Lib.hid (X_6.out.trans x)
        clear X_6
        clear x
        by_cases hlt : 0 < k
        · have t2 : (0 : Int) < k := by omega
          have hT0 : 0 < m1 := by have := T1.out; have := QT.out; omega
          obtain ⟨b1, o1, a, m, d, hao, y1, y2⟩ := HAT.out 0 hT0
          rw [Nat.add_zero] at y1
          subst hao
          replace y1 := X1b.out.cell y1
          have t3 : (0 : Int) < m1 := by omega
          have HN := Lib.hid (rneeds_c _ d (sw T 0) tl wr (y2.ext X1b.out) (HTl.out.2 0 (by rw [← QT.out]; exact hT0)) (cl_ky OKT.out (by rw [← QT.out]; exact hT0)) HTL.out)
          have hst := fndF_step (e := ee) (t := tl) (wd := wd) (k := k) hlt hk
          have hp1 : 0 ≤ (k : Int) * tl := Int.mul_nonneg (by omega) ht1.1
          have hp2 : (k : Int) * tl ≤ 16 * 64 := Int.mul_le_mul (by omega) ht1.2 ht1.1 (by omega)
          have v1 : IntKind.i64.wrap ((k : Int) * tl) = (k : Int) * tl := IntWalk.i64_in _ ⟨by omega, by omega⟩
          have v2 : IntKind.i64.wrap (ee + (k : Int) * tl) = ee + (k : Int) * tl := IntWalk.i64_in _ ⟨by omega, by omega⟩
          obtain ⟨q, hq⟩ : ∃ q, q = fndF ee tl wd (16 - k) (k + 1) := ⟨_, rfl⟩
          rw [← hq] at hst ⊢
          have HST := Lib.hid hst
          have hk1 : 16 - (k - 1) = 17 - k ∧ k - 1 + 1 = k := by omega
          have HK1 := Lib.hid hk1
          have b := B1.out
          clear y2 hst hq hk1
          go_wp2_with fail
          refine HN.out.mono ?_
          rintro e w9 ⟨rfl, x9⟩
          have X9 := Lib.hid (HX.out.trans x9)
          clear x9 y1 HN b hp1 hp2
          by_cases hcs : ee + (k : Int) * tl = wd
          · have t4 : (ee + (k : Int) * tl == wd) = true := by rw [hcs]; simp
            have HS2 := Lib.hid (show fndF ee tl wd (17 - k) k = k by rw [HST.out, if_pos hcs])
            clear hcs
            go_wp2
            go_roundw
            case rel => exact ⟨k - 1, by omega, by go_num, by rw [HK1.out.1, HK1.out.2, HS2.out], X9⟩
            case measure => simp [intOf]; omega
          · have t4 : (ee + (k : Int) * tl == wd) = false := beq_eq_false_iff_ne.2 hcs
            have HS2 := Lib.hid (show fndF ee tl wd (17 - k) k = q by rw [HST.out, if_neg hcs])
            clear hcs
            go_wp2
            go_roundw
            case rel => exact ⟨k - 1, by omega, by go_num, by rw [HK1.out.1, HK1.out.2, HS2.out], X9⟩
            case measure => simp [intOf]; omega
        · obtain rfl : k = 0 := by omega
          have t2 : ¬ (0 : Int) < ((0 : Nat) : Int) := by omega
          rw [show (16 - 0 : Nat) = 16 from rfl, show (0 + 1 : Nat) = 1 from rfl, ← HF0.out]
          clear hlt hk
          by_cases hz : F0 = 0
          · have zF := ZF.out
            have zN := ZN.out
            rw [if_pos hz] at zF
            rw [hz] at zN
            subst zF
            subst hz
            obtain rfl : N = 0 := by rw [zN]; rfl
            clear zN
            go_wp2_with fail
            refine (lives15_calls _).mono ?_
            rintro e w10 ⟨rfl, x⟩
            replace RL := Lib.hid (RL.out.ext x)
            replace RT := Lib.hid (RT.out.ext x)
            replace RR_ := Lib.hid (RR_.out.ext x)
            replace B0 := Lib.hid (x.cell B0.out)
            replace B1 := Lib.hid (x.cell B1.out)
            replace B2 := Lib.hid (x.cell B2.out)
            have X_8 := Lib.hid (X_7.out.trans x)
            clear X_7
            clear x
            go_wp2
            go_ret
            exact ⟨rfl, X_8.out⟩
          · have zF := ZF.out
            have zN := ZN.out
            rw [if_neg hz] at zF
            subst zF
            subst zN
            obtain ⟨s1, s2, s3⟩ := fndF_spec ee tl wd 16 1 (by omega) (by rw [← HF0.out]; exact hz)
            rw [← HF0.out] at s1 s2 s3
            have hF16 : F0 ≤ 16 := by omega
            obtain ⟨E, hE⟩ : ∃ E, prgE L T R F0 1 = E := ⟨_, rfl⟩
            obtain ⟨P, hP⟩ : ∃ P, prgR L T R F0 1 = P := ⟨_, rfl⟩
            have hbp : Bd P := by rw [← hP]; exact Bd.prg _ _ _ _ _
            have hw : E = 0 → (wds P).length = T.length + 1 ∧ gi (wds P) 0 = wd := fun h0 => by
              have hp := tile_w OKL.out OKR.out OKT.out hF16 (by rw [hE]; exact h0)
              rw [hP] at hp
              have hT1 := T1.out
              have hlen : P.length = T.length := by rw [hp]; simp [stkOne]
              refine ⟨by rw [wds_len (by omega), hlen], ?_⟩
              rw [wds_zero (by omega), hp, stk_at (by omega), stkRow_need, HTL.out]
              have e1 := HEL.out
              have e2 := HER.out
              unfold fedge at e1 e2
              rw [← e1, ← e2, ← s1, HEE.out]
              omega
            have HW := Lib.hid hw; have HBP := Lib.hid hbp; have HE := Lib.hid hE; have HP := Lib.hid hP; have HZ := Lib.hid hz
            have tz : ((F0 : Int) == 0) = false := beq_eq_false_iff_ne.2 (by omega)
            clear hw hbp hE hP hz s1 s2 s3 hF16
            have b0 := B0.out
            have b1 := B1.out
            have b2 := B2.out
            go_wp2_with fail
            refine (tile_c _ _ _ _ _ _ L T R F0 _ P E RL.out RT.out RR_.out HE.out HP.out).mono ?_
            rintro e w11 ⟨v11, rfl, o11, r11⟩
            have x := o11.1
            clear o11
            clear b0 b1 b2
            replace RL := Lib.hid (RL.out.ext x)
            replace RT := Lib.hid (RT.out.ext x)
            replace RR_ := Lib.hid (RR_.out.ext x)
            replace B0 := Lib.hid (x.cell B0.out)
            replace B1 := Lib.hid (x.cell B1.out)
            replace B2 := Lib.hid (x.cell B2.out)
            have X_8 := Lib.hid (X_7.out.trans x)
            clear X_7
            clear x
            obtain ⟨a11, m11, hv, j1, j2, j3, j4⟩ := r11.open
            subst hv
            have R11 := Lib.hid r11
            clear r11 j1 j2 j3 j4
            obtain ⟨Wc, hW⟩ : ∃ Wc, Wc = w11.alloc (.cells #[.slice a11 m11 P.length] 24) := ⟨_, rfl⟩
            have xa : Ext w11 Wc := by rw [hW]; exact (Ext.refl w11).alloc _
            have hba : Wc.heap[w11.heap.size]? = some (Obj.cells #[.slice a11 m11 P.length] 24 (0, 0)) := by rw [hW]; exact blk_at rfl
            replace RL := Lib.hid (RL.out.ext xa)
            replace RT := Lib.hid (RT.out.ext xa)
            replace RR_ := Lib.hid (RR_.out.ext xa)
            replace B0 := Lib.hid (xa.cell B0.out)
            replace B1 := Lib.hid (xa.cell B1.out)
            replace B2 := Lib.hid (xa.cell B2.out)
            replace R11 := Lib.hid (R11.out.ext xa)
            have X_9 := Lib.hid (X_8.out.trans xa)
            clear X_8
            have E0 : Hid (Wc.cell? ⟨w11.heap.size, 0, none⟩ = some (.slice a11 m11 P.length)) := Lib.hid (by simp [World.cell?, hba])
            have HWc := Lib.hid hW
            clear hW xa hba
            have e0 := E0.out
            rw [HWc.out] at e0
            go_wp2_with fail
            rw [← HWc.out]
            refine (Widths_calls _ _ P _ R11.out HBP.out.2 HBP.out.1).mono ?_
            rintro e w12 ⟨v12, d12, rfl, i12, x⟩
            clear e0
            replace RL := Lib.hid (RL.out.ext x)
            replace RT := Lib.hid (RT.out.ext x)
            replace RR_ := Lib.hid (RR_.out.ext x)
            replace B0 := Lib.hid (x.cell B0.out)
            replace B1 := Lib.hid (x.cell B1.out)
            replace B2 := Lib.hid (x.cell B2.out)
            replace R11 := Lib.hid (R11.out.ext x)
            replace E0 := Lib.hid (x.cell E0.out)
            have X_10 := Lib.hid (X_9.out.trans x)
            clear X_9
            clear x
            obtain ⟨aw, nw, cw, rfl, hnw, hcw, hiw⟩ := i12.out
            by_cases hE0 : E = 0
            · obtain ⟨g1, g2⟩ := HW.out hE0
              have hnw2 : nw = T.length + 1 := hnw.trans g1
              obtain ⟨bw2, ow, rfl, hcell⟩ := hiw.at (show 0 < nw by omega)
              have p0 := hcell 0 (by omega)
              rw [Nat.add_zero, g2] at p0
              have tn : (0 : Int) < nw := by omega
              subst hE0
              clear hcell g1 g2 hnw hnw2 hcw hiw i12
              go_wp2_with fail
              refine (lives15_calls _).mono ?_
              rintro e w13 ⟨rfl, x⟩
              replace RL := Lib.hid (RL.out.ext x)
              replace RT := Lib.hid (RT.out.ext x)
              replace RR_ := Lib.hid (RR_.out.ext x)
              replace B0 := Lib.hid (x.cell B0.out)
              replace B1 := Lib.hid (x.cell B1.out)
              replace B2 := Lib.hid (x.cell B2.out)
              replace R11 := Lib.hid (R11.out.ext x)
              replace E0 := Lib.hid (x.cell E0.out)
              have X_11 := Lib.hid (X_10.out.trans x)
              clear X_10
              clear x
              go_wp2
              go_ret
              exact ⟨rfl, X_11.out⟩
            · have te : (E != 0) = true := by simpa using hE0
              have te2 : (E == 0) = false := by simpa using hE0
              clear hE0 hnw hcw hiw i12
              go_wp2_with fail
              refine (lives15_calls _).mono ?_
              rintro e w13 ⟨rfl, x⟩
              replace RL := Lib.hid (RL.out.ext x)
              replace RT := Lib.hid (RT.out.ext x)
              replace RR_ := Lib.hid (RR_.out.ext x)
              replace B0 := Lib.hid (x.cell B0.out)
              replace B1 := Lib.hid (x.cell B1.out)
              replace B2 := Lib.hid (x.cell B2.out)
              replace R11 := Lib.hid (R11.out.ext x)
              replace E0 := Lib.hid (x.cell E0.out)
              have X_11 := Lib.hid (X_10.out.trans x)
              clear X_10
              clear x
              go_wp2
              go_ret
              exact ⟨rfl, X_11.out⟩
end Go.Proofs.Ytlmkcojimhbmiaa
