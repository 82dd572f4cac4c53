/- Texts of this claim in one file: libraries and walks. -/
import Derived.Test.YtlmkcojimhbmiaaL15
import Derived.Test.YtlmkcojimhbmiaaL19
import Derived.Test.YtlmkcojimhbmiaaMKnown0
/- MotifsMirror: the walk. -/
namespace Go.Proofs.Ytlmkcojimhbmiaa
set_option linter.unusedVariables false
set_option linter.unusedSimpArgs false
set_option maxRecDepth 20000
open Go Go.RowKit

theorem prg_val {L T R : List (List St)} {n up : Int} (h : prgE L T R n up = 0) : (cloads (prgR L T R n up)).1 = 0 := by
  rw [prgE_eq] at h
  rw [prgR_eq]
  unfold stkR
  rw [if_pos h]
  unfold stkE at h
  by_cases h1 : mchk L T R ≠ 0
  · rw [if_pos h1] at h; exact absurd h h1
  rw [if_neg h1] at h
  by_cases h2 : min n 17 < 1 ∨ min up 32 < 1
  · rw [if_pos h2] at h; exact absurd h (by decide)
  rw [if_neg h2] at h
  by_cases h3 : lrg (stkRows L T R (min n 17).toNat (min up 32).toNat) = 1
  · rw [if_pos h3] at h; exact absurd h (by decide)
  rwa [if_neg h3] at h
def Bd (C : List (List St)) : Prop := C.length ≤ 1000 ∧ ∀ i, i < C.length → (sw C i).length ≤ 1000
theorem Bd.nil : Bd [] := ⟨by simp, fun i hi => by simp at hi⟩
theorem Bd.cl {C : List (List St)} (h : (cloads C).1 = 0) : Bd C := by
  obtain ⟨h1, _, h3⟩ := cl_rows h
  exact ⟨by omega, fun i hi => by have := (h3 i hi).1; omega⟩
theorem Bd.ok {C T : List (List St)} (h : OKb C T) : Bd C := by
  rcases h with rfl | h
  · exact Bd.nil
  · exact Bd.cl h.1
theorem Bd.prg (L T R : List (List St)) (n up : Int) : Bd (prgR L T R n up) := by
  by_cases h : prgE L T R n up = 0
  · exact Bd.cl (prg_val h)
  · rw [prgR_bad h]; exact Bd.nil
theorem Bd.mir {C : List (List St)} (h : Bd C) : Bd (mirC C) := by
  refine ⟨by rw [mirC_len]; exact h.1, fun i hi => ?_⟩
  rw [sw_mir, mirR_len]
  exact h.2 i (by rwa [mirC_len] at hi)
theorem mir_c (u0 u1 u2 : Value) (c0 c1 c2 : Nat) (L T R L' T' R' : List (List St)) (w : World) (h0 : RR w u0 c0 L) (h1 : RR w u1 c1 T) (h2 : RR w u2 c2 R) (l0 : Bd L) (l1 : Bd T) (l2 : Bd R) (e0 : mirC R = L') (e1 : mirC T = T') (e2 : mirC L = R') :
    Calls Try.prog 24 #[.agg #[u0, u1, u2]] w (RetMM w L' T' R') := by
  rw [← e0, ← e1, ← e2]; exact MMirror_calls _ _ _ _ _ _ L T R w h0 h1 h2 l0 l1 l2
theorem cmir_c (v : Value) (c : Nat) (rows rows' : List (List St)) (w : World) (h : RR w v c rows) (hb : Bd rows) (e : mirC rows = rows') : Calls Try.prog 26 #[.agg #[v]] w (RetCM w rows') := by
  rw [← e]; exact CMirror_calls v c rows w h hb.1 hb.2
set_option maxHeartbeats 8000000 in
theorem MotifsMirror_walk (ht ed wL wT wR n : Int) (uL uT uR : Value) (cL cT cR : Nat) (xL xT xR : List (List Int)) (w : World) (hh : 0 ≤ ht ∧ ht ≤ 255) (he : 0 ≤ ed ∧ ed ≤ 255)
    (hL : ISS .u8 w uL cL xL) (hT : ISS .u8 w uT cT xT) (hR : ISS .u8 w uR cR xR) (bL : 0 ≤ wL ∧ wL ≤ 255) (bT : 0 ≤ wT ∧ wT ≤ 255) (bR : 0 ≤ wR ∧ wR ≤ 255) (yL : bt8 xL) (yT : bt8 xT) (yR : bt8 xR) (hn : 0 ≤ n ∧ n ≤ 255) :
    Calls Try.prog 6 #[.agg #[.int .u8 ht, .int .u8 ed, .int .u8 wL, uL, .int .u8 wT, uT, .int .u8 wR, uR], .int .u8 n] w fun e w' => e = .returned (.bool true) ∧ Ext w w' := by
  obtain ⟨N, hN⟩ : ∃ N : Nat, (N : Int) = n % 6 := ⟨(n % 6).toNat, by omega⟩
  have hN2 : N ≤ 5 := by omega
  obtain ⟨K, hK⟩ : ∃ K : Int, K = 1 + N := ⟨_, rfl⟩
  have hNw : n % 6 = (N : Int) := hN.symm
  have v1 : IntKind.i64.wrap (N : Int) = (N : Int) := IntWalk.i64_in _ ⟨by omega, by omega⟩
  have v2 : IntKind.i64.wrap (1 + (N : Int)) = K := by rw [IntWalk.i64_in _ ⟨by omega, by omega⟩]; omega
  have hM := fun w' (x : Ext w w') => MOf_calls ht ed wL wT wR uL uT uR cL cT cR xL xT xR w' hh he (hL.ext x) (hT.ext x) (hR.ext x) bL bT bR yL yT yR
  obtain ⟨vsL, cpL, gL⟩ := hL
  obtain ⟨aL, nL, rfl, j1, j2, j3, j4⟩ := gL.outs
  clear j1 j2 j3 j4
  obtain ⟨vsT, cpT, gT⟩ := hT
  obtain ⟨aT, nT, rfl, j1, j2, j3, j4⟩ := gT.outs
  clear j1 j2 j3 j4
  obtain ⟨vsR, cpR, gR⟩ := hR
  obtain ⟨aR, nR, rfl, j1, j2, j3, j4⟩ := gR.outs
  clear j1 j2 j3 j4
  have HM := Lib.hid hM
  have HN := Lib.hid hNw; have V1 := Lib.hid v1; have V2 := Lib.hid v2; have Hht := Lib.hid hh.1
  clear hM gL gT gR hN hK bL bT bR yL yT yR hNw v1 v2 hh he hN2
  obtain ⟨Wa, hW⟩ : ∃ Wa, Wa = w.alloc (.cells #[.int .u8 ht, .int .u8 ed, .int .u8 wL, .slice aL nL cL, .int .u8 wT, .slice aT nT cT, .int .u8 wR, .slice aR nR cR] 48) := ⟨_, rfl⟩
  have xa : Ext w Wa := by rw [hW]; exact (Ext.refl w).alloc _
  have hba : Wa.heap[w.heap.size]? = some (Obj.cells #[.int .u8 ht, .int .u8 ed, .int .u8 wL, .slice aL nL cL, .int .u8 wT, .slice aT nT cT, .int .u8 wR, .slice aR nR cR] 48 (0, 0)) := by rw [hW]; exact blk_at rfl
  have X_1 := Lib.hid xa
  have A0 : Hid (Wa.cell? ⟨w.heap.size, 0, none⟩ = some (.int .u8 ht)) := Lib.hid (by simp [World.cell?, hba])
  have A1 : Hid (Wa.cell? ⟨w.heap.size, 1, none⟩ = some (.int .u8 ed)) := Lib.hid (by simp [World.cell?, hba])
  have A2 : Hid (Wa.cell? ⟨w.heap.size, 2, none⟩ = some (.int .u8 wL)) := Lib.hid (by simp [World.cell?, hba])
  have A3 : Hid (Wa.cell? ⟨w.heap.size, 3, none⟩ = some (.slice aL nL cL)) := Lib.hid (by simp [World.cell?, hba])
  have A4 : Hid (Wa.cell? ⟨w.heap.size, 4, none⟩ = some (.int .u8 wT)) := Lib.hid (by simp [World.cell?, hba])
  have A5 : Hid (Wa.cell? ⟨w.heap.size, 5, none⟩ = some (.slice aT nT cT)) := Lib.hid (by simp [World.cell?, hba])
  have A6 : Hid (Wa.cell? ⟨w.heap.size, 6, none⟩ = some (.int .u8 wR)) := Lib.hid (by simp [World.cell?, hba])
  have A7 : Hid (Wa.cell? ⟨w.heap.size, 7, none⟩ = some (.slice aR nR cR)) := Lib.hid (by simp [World.cell?, hba])
  have HWa := Lib.hid hW
  clear hW xa hba
  go_enter Try.func6, Try.ntmps6
  have a0 := A0.out
  rw [HWa.out] at a0
  have a1 := A1.out
  rw [HWa.out] at a1
  have a2 := A2.out
  rw [HWa.out] at a2
  have a3 := A3.out
  rw [HWa.out] at a3
  have a4 := A4.out
  rw [HWa.out] at a4
  have a5 := A5.out
  rw [HWa.out] at a5
  have a6 := A6.out
  rw [HWa.out] at a6
  have a7 := A7.out
  rw [HWa.out] at a7
  go_wp2_with fail
  rw [← HWa.out]
  refine (HM.out _ X_1.out).mono ?_
  rintro e w1 ⟨v0, v1, v2, d0, d1, d2, L, T, R, rfl, r0, r1, r2, hok, x⟩
  have HOK := Lib.hid hok
  clear hok HM
  clear a0 a1 a2 a3 a4 a5 a6 a7
  replace A0 := Lib.hid (x.cell A0.out)
  replace A1 := Lib.hid (x.cell A1.out)
  replace A2 := Lib.hid (x.cell A2.out)
  replace A3 := Lib.hid (x.cell A3.out)
  replace A4 := Lib.hid (x.cell A4.out)
  replace A5 := Lib.hid (x.cell A5.out)
  replace A6 := Lib.hid (x.cell A6.out)
  replace A7 := Lib.hid (x.cell A7.out)
  have X_2 := Lib.hid (X_1.out.trans x)
  clear X_1
  clear x
  clear A0 A1 A2 A3 A4 A5 A6 A7
  obtain ⟨a0, m0, hv, j1, j2, j3, j4⟩ := r0.open
  subst hv
  have R0 := Lib.hid r0
  clear r0 j1 j2 j3 j4
  obtain ⟨a1, m1, hv, j1, j2, j3, j4⟩ := r1.open
  subst hv
  have R1 := Lib.hid r1
  clear r1 j1 j2 j3 j4
  obtain ⟨a2, m2, hv, j1, j2, j3, j4⟩ := r2.open
  subst hv
  have Rr2 := Lib.hid r2
  clear r2 j1 j2 j3 j4
  obtain ⟨okL, okR, okT, t1, t2, t3⟩ := HOK.out.parts Hht.out
  have BL := Lib.hid (Bd.ok okL); have BR := Lib.hid (Bd.ok okR); have BT := Lib.hid (Bd.cl okT); have CK := Lib.hid (show mchk (mirC R) (mirC T) (mirC L) = 0 by rw [mchk_mir]; exact mchk_ok okL okR okT)
  obtain ⟨E, hE⟩ : ∃ E, prgE L T R K 1 = E := ⟨_, rfl⟩
  obtain ⟨P, hP⟩ : ∃ P, prgR L T R K 1 = P := ⟨_, rfl⟩
  have hE2 : prgE (mirC R) (mirC T) (mirC L) K 1 = E := by rw [prgE_mir, hE]
  have hP2 : prgR (mirC R) (mirC T) (mirC L) K 1 = mirC P := by rw [prgR_mir, hP]
  have BP := Lib.hid (show Bd P by rw [← hP]; exact Bd.prg _ _ _ _ _)
  have HE := Lib.hid hE; have HP := Lib.hid hP; have HE2 := Lib.hid hE2; have HP2 := Lib.hid hP2
  obtain ⟨L2, hL2⟩ : ∃ L2, mirC L = L2 := ⟨_, rfl⟩
  obtain ⟨T2, hT2⟩ : ∃ T2, mirC T = T2 := ⟨_, rfl⟩
  obtain ⟨R2, hR2⟩ : ∃ R2, mirC R = R2 := ⟨_, rfl⟩
  obtain ⟨P2, hP3⟩ : ∃ P2, mirC P = P2 := ⟨_, rfl⟩
  have BL2 := Lib.hid (show Bd L2 by rw [← hL2]; exact BL.out.mir); have BT2 := Lib.hid (show Bd T2 by rw [← hT2]; exact BT.out.mir); have BR2 := Lib.hid (show Bd R2 by rw [← hR2]; exact BR.out.mir)
  have ML := Lib.hid (show mirC L2 = L by rw [← hL2]; exact mirC_mirC L); have MT := Lib.hid (show mirC T2 = T by rw [← hT2]; exact mirC_mirC T); have MR := Lib.hid (show mirC R2 = R by rw [← hR2]; exact mirC_mirC R)
  rw [hL2, hT2, hR2] at HE2 HP2 CK
  rw [hP3] at HP2
  have HL2 := Lib.hid hL2; have HT2 := Lib.hid hT2; have HR2 := Lib.hid hR2; have HP3 := Lib.hid hP3
  clear okL okR okT t1 t2 t3 HOK hE hP hE2 hP2 hL2 hT2 hR2 hP3
  obtain ⟨Wb, hW⟩ : ∃ Wb, Wb = w1.alloc (.cells #[.slice a0 m0 d0, .slice a1 m1 d1, .slice a2 m2 d2] 26) := ⟨_, rfl⟩
  have xa : Ext w1 Wb := by rw [hW]; exact (Ext.refl w1).alloc _
  have hba : Wb.heap[w1.heap.size]? = some (Obj.cells #[.slice a0 m0 d0, .slice a1 m1 d1, .slice a2 m2 d2] 26 (0, 0)) := by rw [hW]; exact blk_at rfl
  replace R0 := Lib.hid (R0.out.ext xa)
  replace R1 := Lib.hid (R1.out.ext xa)
  replace Rr2 := Lib.hid (Rr2.out.ext xa)
  have X_3 := Lib.hid (X_2.out.trans xa)
  clear X_2
  have B0 : Hid (Wb.cell? ⟨w1.heap.size, 0, none⟩ = some (.slice a0 m0 d0)) := Lib.hid (by simp [World.cell?, hba])
  have B1 : Hid (Wb.cell? ⟨w1.heap.size, 1, none⟩ = some (.slice a1 m1 d1)) := Lib.hid (by simp [World.cell?, hba])
  have B2 : Hid (Wb.cell? ⟨w1.heap.size, 2, none⟩ = some (.slice a2 m2 d2)) := Lib.hid (by simp [World.cell?, hba])
  have HWb := Lib.hid hW
  clear hW xa hba
  have b0 := B0.out
  rw [HWb.out] at b0
  have b1 := B1.out
  rw [HWb.out] at b1
  have b2 := B2.out
  rw [HWb.out] at b2
  go_wp2_with fail
  rw [← HWb.out]
  refine (mir_c _ _ _ _ _ _ L T R R2 T2 L2 _ R0.out R1.out Rr2.out BL.out BT.out BR.out HR2.out HT2.out HL2.out).mono ?_
  rintro e w2 ⟨v0, v1, v2, rfl, s0, s1, s2, x⟩
  clear b0 b1 b2
  replace R0 := Lib.hid (R0.out.ext x)
  replace R1 := Lib.hid (R1.out.ext x)
  replace Rr2 := Lib.hid (Rr2.out.ext x)
  replace B0 := Lib.hid (x.cell B0.out)
  replace B1 := Lib.hid (x.cell B1.out)
  replace B2 := Lib.hid (x.cell B2.out)
  have X_4 := Lib.hid (X_3.out.trans x)
  clear X_3
  clear x
  obtain ⟨e0, k0, hv, j1, j2, j3, j4⟩ := s0.open
  subst hv
  have S0 := Lib.hid s0
  clear s0 j1 j2 j3 j4
  obtain ⟨e1, k1, hv, j1, j2, j3, j4⟩ := s1.open
  subst hv
  have S1 := Lib.hid s1
  clear s1 j1 j2 j3 j4
  obtain ⟨e2, k2, hv, j1, j2, j3, j4⟩ := s2.open
  subst hv
  have S2 := Lib.hid s2
  clear s2 j1 j2 j3 j4
  obtain ⟨Wc, hW⟩ : ∃ Wc, Wc = w2.alloc (.cells #[.slice e0 k0 R2.length, .slice e1 k1 T2.length, .slice e2 k2 L2.length] 26) := ⟨_, rfl⟩
  have xa : Ext w2 Wc := by rw [hW]; exact (Ext.refl w2).alloc _
  have hba : Wc.heap[w2.heap.size]? = some (Obj.cells #[.slice e0 k0 R2.length, .slice e1 k1 T2.length, .slice e2 k2 L2.length] 26 (0, 0)) := by rw [hW]; exact blk_at rfl
  replace R0 := Lib.hid (R0.out.ext xa)
  replace R1 := Lib.hid (R1.out.ext xa)
  replace Rr2 := Lib.hid (Rr2.out.ext xa)
  replace B0 := Lib.hid (xa.cell B0.out)
  replace B1 := Lib.hid (xa.cell B1.out)
  replace B2 := Lib.hid (xa.cell B2.out)
  replace S0 := Lib.hid (S0.out.ext xa)
  replace S1 := Lib.hid (S1.out.ext xa)
  replace S2 := Lib.hid (S2.out.ext xa)
  have X_5 := Lib.hid (X_4.out.trans xa)
  clear X_4
  have C0 : Hid (Wc.cell? ⟨w2.heap.size, 0, none⟩ = some (.slice e0 k0 R2.length)) := Lib.hid (by simp [World.cell?, hba])
  have C1 : Hid (Wc.cell? ⟨w2.heap.size, 1, none⟩ = some (.slice e1 k1 T2.length)) := Lib.hid (by simp [World.cell?, hba])
  have C2 : Hid (Wc.cell? ⟨w2.heap.size, 2, none⟩ = some (.slice e2 k2 L2.length)) := Lib.hid (by simp [World.cell?, hba])
  have HWc := Lib.hid hW
  clear hW xa hba
  have c0 := C0.out
  rw [HWc.out] at c0
  have c1 := C1.out
  rw [HWc.out] at c1
  have c2 := C2.out
  rw [HWc.out] at c2
  go_wp2_with fail
  rw [← HWc.out]
  refine (mir_c _ _ _ _ _ _ R2 T2 L2 L T R _ S0.out S1.out S2.out BR2.out BT2.out BL2.out ML.out MT.out MR.out).mono ?_
  rintro e w3 ⟨v0, v1, v2, rfl, s0, s1, s2, x⟩
  clear c0 c1 c2
  replace R0 := Lib.hid (R0.out.ext x)
  replace R1 := Lib.hid (R1.out.ext x)
  replace Rr2 := Lib.hid (Rr2.out.ext x)
  replace B0 := Lib.hid (x.cell B0.out)
  replace B1 := Lib.hid (x.cell B1.out)
  replace B2 := Lib.hid (x.cell B2.out)
  replace S0 := Lib.hid (S0.out.ext x)
  replace S1 := Lib.hid (S1.out.ext x)
  replace S2 := Lib.hid (S2.out.ext x)
  replace C0 := Lib.hid (x.cell C0.out)
  replace C1 := Lib.hid (x.cell C1.out)
  replace C2 := Lib.hid (x.cell C2.out)
  have X_6 := Lib.hid (X_5.out.trans x)
  clear X_5
  clear x
  obtain ⟨f0, l0, hv, j1, j2, j3, j4⟩ := s0.open
  subst hv
  have U0 := Lib.hid s0
  clear s0 j1 j2 j3 j4
  obtain ⟨f1, l1, hv, j1, j2, j3, j4⟩ := s1.open
  subst hv
  have U1 := Lib.hid s1
  clear s1 j1 j2 j3 j4
  obtain ⟨f2, l2, hv, j1, j2, j3, j4⟩ := s2.open
  subst hv
  have U2 := Lib.hid s2
  clear s2 j1 j2 j3 j4
  obtain ⟨Wd, hW⟩ : ∃ Wd, Wd = w3.alloc (.cells #[.slice f0 l0 L.length, .slice f1 l1 T.length, .slice f2 l2 R.length] 26) := ⟨_, rfl⟩
  have xa : Ext w3 Wd := by rw [hW]; exact (Ext.refl w3).alloc _
  have hba : Wd.heap[w3.heap.size]? = some (Obj.cells #[.slice f0 l0 L.length, .slice f1 l1 T.length, .slice f2 l2 R.length] 26 (0, 0)) := by rw [hW]; exact blk_at rfl
  replace R0 := Lib.hid (R0.out.ext xa)
  replace R1 := Lib.hid (R1.out.ext xa)
  replace Rr2 := Lib.hid (Rr2.out.ext xa)
  replace B0 := Lib.hid (xa.cell B0.out)
  replace B1 := Lib.hid (xa.cell B1.out)
  replace B2 := Lib.hid (xa.cell B2.out)
  replace S0 := Lib.hid (S0.out.ext xa)
  replace S1 := Lib.hid (S1.out.ext xa)
  replace S2 := Lib.hid (S2.out.ext xa)
  replace C0 := Lib.hid (xa.cell C0.out)
  replace C1 := Lib.hid (xa.cell C1.out)
  replace C2 := Lib.hid (xa.cell C2.out)
  replace U0 := Lib.hid (U0.out.ext xa)
  replace U1 := Lib.hid (U1.out.ext xa)
  replace U2 := Lib.hid (U2.out.ext xa)
  have X_7 := Lib.hid (X_6.out.trans xa)
  clear X_6
  have D0 : Hid (Wd.cell? ⟨w3.heap.size, 0, none⟩ = some (.slice f0 l0 L.length)) := Lib.hid (by simp [World.cell?, hba])
  have D1 : Hid (Wd.cell? ⟨w3.heap.size, 1, none⟩ = some (.slice f1 l1 T.length)) := Lib.hid (by simp [World.cell?, hba])
  have D2 : Hid (Wd.cell? ⟨w3.heap.size, 2, none⟩ = some (.slice f2 l2 R.length)) := Lib.hid (by simp [World.cell?, hba])
  have HWd := Lib.hid hW
  clear hW xa hba
  have hNw := HN.out; have v1 := V1.out; have v2 := V2.out
  have b0 := B0.out
  rw [HWd.out] at b0
  have b1 := B1.out
  rw [HWd.out] at b1
  have b2 := B2.out
  rw [HWd.out] at b2
  go_wp2_with fail
  rw [← HWd.out]
  refine (tile_c _ _ _ _ _ _ L T R K _ P E R0.out R1.out Rr2.out HE.out HP.out).mono ?_
  rintro e w4 ⟨v4, rfl, o4, r4⟩
  have x := o4.1
  clear o4
  clear b0 b1 b2
  replace R0 := Lib.hid (R0.out.ext x)
  replace R1 := Lib.hid (R1.out.ext x)
  replace Rr2 := Lib.hid (Rr2.out.ext x)
  replace B0 := Lib.hid (x.cell B0.out)
  replace B1 := Lib.hid (x.cell B1.out)
  replace B2 := Lib.hid (x.cell B2.out)
  replace S0 := Lib.hid (S0.out.ext x)
  replace S1 := Lib.hid (S1.out.ext x)
  replace S2 := Lib.hid (S2.out.ext x)
  replace C0 := Lib.hid (x.cell C0.out)
  replace C1 := Lib.hid (x.cell C1.out)
  replace C2 := Lib.hid (x.cell C2.out)
  replace U0 := Lib.hid (U0.out.ext x)
  replace U1 := Lib.hid (U1.out.ext x)
  replace U2 := Lib.hid (U2.out.ext x)
  replace D0 := Lib.hid (x.cell D0.out)
  replace D1 := Lib.hid (x.cell D1.out)
  replace D2 := Lib.hid (x.cell D2.out)
  have X_8 := Lib.hid (X_7.out.trans x)
  clear X_7
  clear x
  obtain ⟨a4, m4, hv, j1, j2, j3, j4⟩ := r4.open
  subst hv
  have R4 := Lib.hid r4
  clear r4 j1 j2 j3 j4
  obtain ⟨We, hW⟩ : ∃ We, We = w4.alloc (.cells #[.slice a4 m4 P.length] 24) := ⟨_, rfl⟩
  have xa : Ext w4 We := by rw [hW]; exact (Ext.refl w4).alloc _
  have hba : We.heap[w4.heap.size]? = some (Obj.cells #[.slice a4 m4 P.length] 24 (0, 0)) := by rw [hW]; exact blk_at rfl
  replace R0 := Lib.hid (R0.out.ext xa)
  replace R1 := Lib.hid (R1.out.ext xa)
  replace Rr2 := Lib.hid (Rr2.out.ext xa)
  replace B0 := Lib.hid (xa.cell B0.out)
  replace B1 := Lib.hid (xa.cell B1.out)
  replace B2 := Lib.hid (xa.cell B2.out)
  replace S0 := Lib.hid (S0.out.ext xa)
  replace S1 := Lib.hid (S1.out.ext xa)
  replace S2 := Lib.hid (S2.out.ext xa)
  replace C0 := Lib.hid (xa.cell C0.out)
  replace C1 := Lib.hid (xa.cell C1.out)
  replace C2 := Lib.hid (xa.cell C2.out)
  replace U0 := Lib.hid (U0.out.ext xa)
  replace U1 := Lib.hid (U1.out.ext xa)
  replace U2 := Lib.hid (U2.out.ext xa)
  replace D0 := Lib.hid (xa.cell D0.out)
  replace D1 := Lib.hid (xa.cell D1.out)
  replace D2 := Lib.hid (xa.cell D2.out)
  replace R4 := Lib.hid (R4.out.ext xa)
  have X_9 := Lib.hid (X_8.out.trans xa)
  clear X_8
  have E0 : Hid (We.cell? ⟨w4.heap.size, 0, none⟩ = some (.slice a4 m4 P.length)) := Lib.hid (by simp [World.cell?, hba])
  have HWe := Lib.hid hW
  clear hW xa hba
  have c0 := C0.out
  rw [HWe.out] at c0
  have c1 := C1.out
  rw [HWe.out] at c1
  have c2 := C2.out
  rw [HWe.out] at c2
  go_wp2_with fail
  rw [← HWe.out]
  refine (tile_c _ _ _ _ _ _ R2 T2 L2 K _ P2 E S0.out S1.out S2.out HE2.out HP2.out).mono ?_
  rintro e w5 ⟨v5, rfl, o5, r5⟩
  have x := o5.1
  clear o5 hNw v1 v2
  clear c0 c1 c2
  replace R0 := Lib.hid (R0.out.ext x)
  replace R1 := Lib.hid (R1.out.ext x)
  replace Rr2 := Lib.hid (Rr2.out.ext x)
  replace B0 := Lib.hid (x.cell B0.out)
  replace B1 := Lib.hid (x.cell B1.out)
  replace B2 := Lib.hid (x.cell B2.out)
  replace S0 := Lib.hid (S0.out.ext x)
  replace S1 := Lib.hid (S1.out.ext x)
  replace S2 := Lib.hid (S2.out.ext x)
  replace C0 := Lib.hid (x.cell C0.out)
  replace C1 := Lib.hid (x.cell C1.out)
  replace C2 := Lib.hid (x.cell C2.out)
  replace U0 := Lib.hid (U0.out.ext x)
  replace U1 := Lib.hid (U1.out.ext x)
  replace U2 := Lib.hid (U2.out.ext x)
  replace D0 := Lib.hid (x.cell D0.out)
  replace D1 := Lib.hid (x.cell D1.out)
  replace D2 := Lib.hid (x.cell D2.out)
  replace R4 := Lib.hid (R4.out.ext x)
  replace E0 := Lib.hid (x.cell E0.out)
  have X_10 := Lib.hid (X_9.out.trans x)
  clear X_9
  clear x
  obtain ⟨a5, m5, hv, j1, j2, j3, j4⟩ := r5.open
  subst hv
  have R5 := Lib.hid r5
  clear r5 j1 j2 j3 j4
  obtain ⟨Wf, hW⟩ : ∃ Wf, Wf = w5.alloc (.cells #[.slice a5 m5 P2.length] 24) := ⟨_, rfl⟩
  have xa : Ext w5 Wf := by rw [hW]; exact (Ext.refl w5).alloc _
  have hba : Wf.heap[w5.heap.size]? = some (Obj.cells #[.slice a5 m5 P2.length] 24 (0, 0)) := by rw [hW]; exact blk_at rfl
  replace R0 := Lib.hid (R0.out.ext xa)
  replace R1 := Lib.hid (R1.out.ext xa)
  replace Rr2 := Lib.hid (Rr2.out.ext xa)
  replace B0 := Lib.hid (xa.cell B0.out)
  replace B1 := Lib.hid (xa.cell B1.out)
  replace B2 := Lib.hid (xa.cell B2.out)
  replace S0 := Lib.hid (S0.out.ext xa)
  replace S1 := Lib.hid (S1.out.ext xa)
  replace S2 := Lib.hid (S2.out.ext xa)
  replace C0 := Lib.hid (xa.cell C0.out)
  replace C1 := Lib.hid (xa.cell C1.out)
  replace C2 := Lib.hid (xa.cell C2.out)
  replace U0 := Lib.hid (U0.out.ext xa)
  replace U1 := Lib.hid (U1.out.ext xa)
  replace U2 := Lib.hid (U2.out.ext xa)
  replace D0 := Lib.hid (xa.cell D0.out)
  replace D1 := Lib.hid (xa.cell D1.out)
  replace D2 := Lib.hid (xa.cell D2.out)
  replace R4 := Lib.hid (R4.out.ext xa)
  replace E0 := Lib.hid (xa.cell E0.out)
  replace R5 := Lib.hid (R5.out.ext xa)
  have X_11 := Lib.hid (X_10.out.trans xa)
  clear X_10
  have F0 : Hid (Wf.cell? ⟨w5.heap.size, 0, none⟩ = some (.slice a5 m5 P2.length)) := Lib.hid (by simp [World.cell?, hba])
  have HWf := Lib.hid hW
  clear hW xa hba
  go_wp2_with fail
  rw [← HWf.out]
  have q0_1 := E0.out
  have q0_2 := F0.out
  have q0_3 := D0.out
  have q0_4 := D1.out
  have q0_5 := D2.out
  have q0_6 := B0.out
  have q0_7 := B1.out
  have q0_8 := B2.out
  have q0_9 := C0.out
  have q0_10 := C1.out
  have q0_11 := C2.out
  have XF := Lib.hid X_11.out
  clear E0 F0 D0 D1 D2 B0 B1 B2 C0 C1 C2
  refine wp_region_held_drew (S := fun w' => w'.cell? ⟨w4.heap.size, 0, Option.none⟩ = some (.slice a4 m4 P.length) ∧ w'.cell? ⟨w5.heap.size, 0, Option.none⟩ = some (.slice a5 m5 P2.length) ∧ w'.cell? ⟨w3.heap.size, 0, Option.none⟩ = some (.slice f0 l0 L.length) ∧ w'.cell? ⟨w3.heap.size, 1, Option.none⟩ = some (.slice f1 l1 T.length) ∧ w'.cell? ⟨w3.heap.size, 2, Option.none⟩ = some (.slice f2 l2 R.length) ∧ w'.cell? ⟨w1.heap.size, 0, Option.none⟩ = some (.slice a0 m0 d0) ∧ w'.cell? ⟨w1.heap.size, 1, Option.none⟩ = some (.slice a1 m1 d1) ∧ w'.cell? ⟨w1.heap.size, 2, Option.none⟩ = some (.slice a2 m2 d2) ∧ w'.cell? ⟨w2.heap.size, 0, Option.none⟩ = some (.slice e0 k0 R2.length) ∧ w'.cell? ⟨w2.heap.size, 1, Option.none⟩ = some (.slice e1 k1 T2.length) ∧ w'.cell? ⟨w2.heap.size, 2, Option.none⟩ = some (.slice e2 k2 L2.length)) (by kernel_rfl) ?_ (fun hHeld => ?_)
  · exact ⟨q0_1, q0_2, q0_3, q0_4, q0_5, q0_6, q0_7, q0_8, q0_9, q0_10, q0_11⟩
  refine wpAnyH_take (i := 0) (v := ?va429_0) rfl (by kernel_rfl) (by kernel_rfl) (by kernel_rfl) (fun _ _ _ h => h) (Or.inl ⟨by rfl, fun w hSw => ?ti429_0⟩) (by assumption) ?rest429_0
  case ti429_0 => ((try dsimp only at hSw); go_simp; (first | done | with_reducible rfl))
  try simp only [Act.put, List.getElem_toArray, List.getElem_cons_zero, List.getElem_cons_succ, List.setIfInBounds_toArray, List.set_cons_zero, List.set_cons_succ]
  refine wpAnyH_take (i := 1) (v := ?va432_1) rfl (by kernel_rfl) (by kernel_rfl) (by kernel_rfl) (fun _ _ _ h => h) (Or.inl ⟨by rfl, fun w hSw => ?ti432_1⟩) (by assumption) ?rest432_1
  case ti432_1 => ((try dsimp only at hSw); go_simp; (first | done | with_reducible rfl))
  try simp only [Act.put, List.getElem_toArray, List.getElem_cons_zero, List.getElem_cons_succ, List.setIfInBounds_toArray, List.set_cons_zero, List.set_cons_succ]
  refine wpAnyH_take (i := 2) (v := ?va435_2) rfl (by kernel_rfl) (by kernel_rfl) (by kernel_rfl) (fun _ _ _ h => h) (Or.inl ⟨by rfl, fun w hSw => ?ti435_2⟩) (by assumption) ?rest435_2
  case ti435_2 => ((try dsimp only at hSw); go_simp; (first | done | with_reducible rfl))
  try simp only [Act.put, List.getElem_toArray, List.getElem_cons_zero, List.getElem_cons_succ, List.setIfInBounds_toArray, List.set_cons_zero, List.set_cons_succ]
  refine wpAnyH_take (i := 3) (v := ?va438_3) rfl (by kernel_rfl) (by kernel_rfl) (by kernel_rfl) (fun _ _ _ h => h) (Or.inl ⟨by rfl, fun w hSw => ?ti438_3⟩) (by assumption) ?rest438_3
  case ti438_3 => ((try dsimp only at hSw); go_simp; (first | done | with_reducible rfl))
  try simp only [Act.put, List.getElem_toArray, List.getElem_cons_zero, List.getElem_cons_succ, List.setIfInBounds_toArray, List.set_cons_zero, List.set_cons_succ]
  refine wpAnyH_take (i := 4) (v := ?va441_4) rfl (by kernel_rfl) (by kernel_rfl) (by kernel_rfl) (fun _ _ _ h => h) (Or.inl ⟨by rfl, fun w hSw => ?ti441_4⟩) (by assumption) ?rest441_4
  case ti441_4 => ((try dsimp only at hSw); go_simp; (first | done | with_reducible rfl))
  try simp only [Act.put, List.getElem_toArray, List.getElem_cons_zero, List.getElem_cons_succ, List.setIfInBounds_toArray, List.set_cons_zero, List.set_cons_succ]
  refine wpAnyH_take (i := 6) (v := ?va444_6) rfl (by kernel_rfl) (by kernel_rfl) (by kernel_rfl) (fun _ _ _ h => h) (Or.inl ⟨by rfl, fun w hSw => ?ti444_6⟩) (by assumption) ?rest444_6
  case ti444_6 => ((try dsimp only at hSw); go_simp; (first | done | with_reducible rfl))
  try simp only [Act.put, List.getElem_toArray, List.getElem_cons_zero, List.getElem_cons_succ, List.setIfInBounds_toArray, List.set_cons_zero, List.set_cons_succ]
  refine wpAnyH_ready (rs := [5]) (by kernel_rfl) (by simp) ?_
  refine AllReadyH.cons rfl (fun K hK => ?_) AllReadyH.nil
  go_simp
  refine (cmir_c _ _ P P2 _ (R4.out.ext ?_) BP.out HP3.out).mono ?_
  · (repeat (first | (with_reducible exact Ext.refl _) | (with_reducible apply Ext.drew) | (with_reducible apply Ext.drewN) | (with_reducible apply Ext.alloc)))
  intro e y1 hh
  obtain ⟨z1, rfl, g1, x⟩ := hh
  have Y1 : Hid (Ext Wf y1) := Lib.hid (Ext.trans (by (repeat (first | (with_reducible exact Ext.refl _) | (with_reducible apply Ext.drew) | (with_reducible apply Ext.drewN) | (with_reducible apply Ext.alloc)))) x)
  have q1_1 := Y1.out.cell q0_1
  have q1_2 := Y1.out.cell q0_2
  have q1_3 := Y1.out.cell q0_3
  have q1_4 := Y1.out.cell q0_4
  have q1_5 := Y1.out.cell q0_5
  have q1_6 := Y1.out.cell q0_6
  have q1_7 := Y1.out.cell q0_7
  have q1_8 := Y1.out.cell q0_8
  have q1_9 := Y1.out.cell q0_9
  have q1_10 := Y1.out.cell q0_10
  have q1_11 := Y1.out.cell q0_11
  have G1 := Lib.hid g1; clear g1
  go_simp
  refine hK.out _ _ ?_ (fun hHeld => ?_)
  · exact ⟨q1_1, q1_2, q1_3, q1_4, q1_5, q1_6, q1_7, q1_8, q1_9, q1_10, q1_11⟩
  clear hK K x
  try simp only [Act.put, List.getElem_toArray, List.getElem_cons_zero, List.getElem_cons_succ, List.setIfInBounds_toArray, List.set_cons_zero, List.set_cons_succ]
  refine wpAnyH_ready (rs := [7]) (by kernel_rfl) (by simp) ?_
  refine AllReadyH.cons rfl (fun K hK => ?_) AllReadyH.nil
  go_simp
  refine (df_c _ _ _ _ P2 _ (G1.out.ext ?_) (R5.out.ext ?_)).mono ?_
  · (repeat (first | (with_reducible exact Ext.refl _) | (with_reducible apply Ext.drew) | (with_reducible apply Ext.drewN) | (with_reducible apply Ext.alloc)))
  · (refine Ext.trans Y1.out ?_; (repeat (first | (with_reducible exact Ext.refl _) | (with_reducible apply Ext.drew) | (with_reducible apply Ext.drewN) | (with_reducible apply Ext.alloc))))
  intro e y2 hh
  obtain ⟨rfl, x⟩ := hh
  have Y2 : Hid (Ext Wf y2) := Lib.hid (Ext.trans Y1.out (Ext.trans (by (repeat (first | (with_reducible exact Ext.refl _) | (with_reducible apply Ext.drew) | (with_reducible apply Ext.drewN) | (with_reducible apply Ext.alloc)))) x))
  have q2_1 := Y2.out.cell q0_1
  have q2_2 := Y2.out.cell q0_2
  have q2_3 := Y2.out.cell q0_3
  have q2_4 := Y2.out.cell q0_4
  have q2_5 := Y2.out.cell q0_5
  have q2_6 := Y2.out.cell q0_6
  have q2_7 := Y2.out.cell q0_7
  have q2_8 := Y2.out.cell q0_8
  have q2_9 := Y2.out.cell q0_9
  have q2_10 := Y2.out.cell q0_10
  have q2_11 := Y2.out.cell q0_11
  go_simp
  refine hK.out _ _ ?_ (fun hHeld => ?_)
  · exact ⟨q2_1, q2_2, q2_3, q2_4, q2_5, q2_6, q2_7, q2_8, q2_9, q2_10, q2_11⟩
  clear hK K x
  try simp only [Act.put, List.getElem_toArray, List.getElem_cons_zero, List.getElem_cons_succ, List.setIfInBounds_toArray, List.set_cons_zero, List.set_cons_succ]
  refine wpAnyH_take (i := 8) (v := ?va497_8) rfl (by kernel_rfl) (by kernel_rfl) (by kernel_rfl) (fun _ _ _ h => h) (Or.inl ⟨by rfl, fun w hSw => ?ti497_8⟩) (by assumption) ?rest497_8
  case ti497_8 => ((try dsimp only at hSw); go_simp; (first | done | with_reducible rfl))
  try simp only [Act.put, List.getElem_toArray, List.getElem_cons_zero, List.getElem_cons_succ, List.setIfInBounds_toArray, List.set_cons_zero, List.set_cons_succ]
  refine wpAnyH_take (i := 9) (v := ?va500_9) rfl (by kernel_rfl) (by kernel_rfl) (by kernel_rfl) (fun _ _ _ h => h) (Or.inl ⟨by rfl, fun w hSw => ?ti500_9⟩) (by assumption) ?rest500_9
  case ti500_9 => ((try dsimp only at hSw); go_simp; (first | done | with_reducible rfl))
  try simp only [Act.put, List.getElem_toArray, List.getElem_cons_zero, List.getElem_cons_succ, List.setIfInBounds_toArray, List.set_cons_zero, List.set_cons_succ]
  refine wpAnyH_take (i := 10) (v := ?va503_10) rfl (by kernel_rfl) (by kernel_rfl) (by kernel_rfl) (fun _ _ _ h => h) (Or.inl ⟨by rfl, fun w hSw => ?ti503_10⟩) (by assumption) ?rest503_10
  case ti503_10 => ((try dsimp only at hSw); go_simp; (first | done | with_reducible rfl))
  try simp only [Act.put, List.getElem_toArray, List.getElem_cons_zero, List.getElem_cons_succ, List.setIfInBounds_toArray, List.set_cons_zero, List.set_cons_succ]
  refine wpAnyH_take (i := 11) (v := ?va506_11) rfl (by kernel_rfl) (by kernel_rfl) (by kernel_rfl) (fun _ _ _ h => h) (Or.inl ⟨by rfl, fun w hSw => ?ti506_11⟩) (by assumption) ?rest506_11
  case ti506_11 => ((try dsimp only at hSw); go_simp; (first | done | with_reducible rfl))
  try simp only [Act.put, List.getElem_toArray, List.getElem_cons_zero, List.getElem_cons_succ, List.setIfInBounds_toArray, List.set_cons_zero, List.set_cons_succ]
  refine wpAnyH_take (i := 12) (v := ?va509_12) rfl (by kernel_rfl) (by kernel_rfl) (by kernel_rfl) (fun _ _ _ h => h) (Or.inl ⟨by rfl, fun w hSw => ?ti509_12⟩) (by assumption) ?rest509_12
  case ti509_12 => ((try dsimp only at hSw); go_simp; (first | done | with_reducible rfl))
  try simp only [Act.put, List.getElem_toArray, List.getElem_cons_zero, List.getElem_cons_succ, List.setIfInBounds_toArray, List.set_cons_zero, List.set_cons_succ]
  refine wpAnyH_take (i := 13) (v := ?va512_13) rfl (by kernel_rfl) (by kernel_rfl) (by kernel_rfl) (fun _ _ _ h => h) (Or.inl ⟨by rfl, fun w hSw => ?ti512_13⟩) (by assumption) ?rest512_13
  case ti512_13 => ((try dsimp only at hSw); go_simp; (first | done | with_reducible rfl))
  try simp only [Act.put, List.getElem_toArray, List.getElem_cons_zero, List.getElem_cons_succ, List.setIfInBounds_toArray, List.set_cons_zero, List.set_cons_succ]
  refine wpAnyH_take (i := 14) (v := ?va515_14) rfl (by kernel_rfl) (by kernel_rfl) (by kernel_rfl) (fun _ _ _ h => h) (Or.inl ⟨by rfl, fun w hSw => ?ti515_14⟩) (by assumption) ?rest515_14
  case ti515_14 => ((try dsimp only at hSw); go_simp; (first | done | with_reducible rfl))
  try simp only [Act.put, List.getElem_toArray, List.getElem_cons_zero, List.getElem_cons_succ, List.setIfInBounds_toArray, List.set_cons_zero, List.set_cons_succ]
  refine wpAnyH_ready (rs := [15]) (by kernel_rfl) (by simp) ?_
  refine AllReadyH.cons rfl (fun K hK => ?_) AllReadyH.nil
  go_simp
  refine (df_c _ _ _ _ L _ (U0.out.ext ?_) (R0.out.ext ?_)).mono ?_
  · (refine Ext.trans Y2.out ?_; (repeat (first | (with_reducible exact Ext.refl _) | (with_reducible apply Ext.drew) | (with_reducible apply Ext.drewN) | (with_reducible apply Ext.alloc))))
  · (refine Ext.trans Y2.out ?_; (repeat (first | (with_reducible exact Ext.refl _) | (with_reducible apply Ext.drew) | (with_reducible apply Ext.drewN) | (with_reducible apply Ext.alloc))))
  intro e y3 hh
  obtain ⟨rfl, x⟩ := hh
  have Y3 : Hid (Ext Wf y3) := Lib.hid (Ext.trans Y2.out (Ext.trans (by (repeat (first | (with_reducible exact Ext.refl _) | (with_reducible apply Ext.drew) | (with_reducible apply Ext.drewN) | (with_reducible apply Ext.alloc)))) x))
  have q3_1 := Y3.out.cell q0_1
  have q3_2 := Y3.out.cell q0_2
  have q3_3 := Y3.out.cell q0_3
  have q3_4 := Y3.out.cell q0_4
  have q3_5 := Y3.out.cell q0_5
  have q3_6 := Y3.out.cell q0_6
  have q3_7 := Y3.out.cell q0_7
  have q3_8 := Y3.out.cell q0_8
  have q3_9 := Y3.out.cell q0_9
  have q3_10 := Y3.out.cell q0_10
  have q3_11 := Y3.out.cell q0_11
  go_simp
  refine hK.out _ _ ?_ (fun hHeld => ?_)
  · exact ⟨q3_1, q3_2, q3_3, q3_4, q3_5, q3_6, q3_7, q3_8, q3_9, q3_10, q3_11⟩
  clear hK K x
  try simp only [Act.put, List.getElem_toArray, List.getElem_cons_zero, List.getElem_cons_succ, List.setIfInBounds_toArray, List.set_cons_zero, List.set_cons_succ]
  refine wpAnyH_take (i := 16) (v := ?va543_16) rfl (by kernel_rfl) (by kernel_rfl) (by kernel_rfl) (fun _ _ _ h => h) (Or.inl ⟨by rfl, fun w hSw => ?ti543_16⟩) (by assumption) ?rest543_16
  case ti543_16 => ((try dsimp only at hSw); go_simp; (first | done | with_reducible rfl))
  try simp only [Act.put, List.getElem_toArray, List.getElem_cons_zero, List.getElem_cons_succ, List.setIfInBounds_toArray, List.set_cons_zero, List.set_cons_succ]
  refine wpAnyH_take (i := 17) (v := ?va546_17) rfl (by kernel_rfl) (by kernel_rfl) (by kernel_rfl) (fun _ _ _ h => h) (Or.inl ⟨by rfl, fun w hSw => ?ti546_17⟩) (by assumption) ?rest546_17
  case ti546_17 => ((try dsimp only at hSw); go_simp; (first | done | with_reducible rfl))
  try simp only [Act.put, List.getElem_toArray, List.getElem_cons_zero, List.getElem_cons_succ, List.setIfInBounds_toArray, List.set_cons_zero, List.set_cons_succ]
  refine wpAnyH_take (i := 18) (v := ?va549_18) rfl (by kernel_rfl) (by kernel_rfl) (by kernel_rfl) (fun _ _ _ h => h) (Or.inl ⟨by rfl, fun w hSw => ?ti549_18⟩) (by assumption) ?rest549_18
  case ti549_18 => ((try dsimp only at hSw); go_simp; (first | done | with_reducible rfl))
  try simp only [Act.put, List.getElem_toArray, List.getElem_cons_zero, List.getElem_cons_succ, List.setIfInBounds_toArray, List.set_cons_zero, List.set_cons_succ]
  refine wpAnyH_take (i := 19) (v := ?va552_19) rfl (by kernel_rfl) (by kernel_rfl) (by kernel_rfl) (fun _ _ _ h => h) (Or.inl ⟨by rfl, fun w hSw => ?ti552_19⟩) (by assumption) ?rest552_19
  case ti552_19 => ((try dsimp only at hSw); go_simp; (first | done | with_reducible rfl))
  try simp only [Act.put, List.getElem_toArray, List.getElem_cons_zero, List.getElem_cons_succ, List.setIfInBounds_toArray, List.set_cons_zero, List.set_cons_succ]
  refine wpAnyH_take (i := 20) (v := ?va555_20) rfl (by kernel_rfl) (by kernel_rfl) (by kernel_rfl) (fun _ _ _ h => h) (Or.inl ⟨by rfl, fun w hSw => ?ti555_20⟩) (by assumption) ?rest555_20
  case ti555_20 => ((try dsimp only at hSw); go_simp; (first | done | with_reducible rfl))
  try simp only [Act.put, List.getElem_toArray, List.getElem_cons_zero, List.getElem_cons_succ, List.setIfInBounds_toArray, List.set_cons_zero, List.set_cons_succ]
  refine wpAnyH_take (i := 21) (v := ?va558_21) rfl (by kernel_rfl) (by kernel_rfl) (by kernel_rfl) (fun _ _ _ h => h) (Or.inl ⟨by rfl, fun w hSw => ?ti558_21⟩) (by assumption) ?rest558_21
  case ti558_21 => ((try dsimp only at hSw); go_simp; (first | done | with_reducible rfl))
  try simp only [Act.put, List.getElem_toArray, List.getElem_cons_zero, List.getElem_cons_succ, List.setIfInBounds_toArray, List.set_cons_zero, List.set_cons_succ]
  refine wpAnyH_take (i := 22) (v := ?va561_22) rfl (by kernel_rfl) (by kernel_rfl) (by kernel_rfl) (fun _ _ _ h => h) (Or.inl ⟨by rfl, fun w hSw => ?ti561_22⟩) (by assumption) ?rest561_22
  case ti561_22 => ((try dsimp only at hSw); go_simp; (first | done | with_reducible rfl))
  try simp only [Act.put, List.getElem_toArray, List.getElem_cons_zero, List.getElem_cons_succ, List.setIfInBounds_toArray, List.set_cons_zero, List.set_cons_succ]
  refine wpAnyH_ready (rs := [23]) (by kernel_rfl) (by simp) ?_
  refine AllReadyH.cons rfl (fun K hK => ?_) AllReadyH.nil
  go_simp
  refine (df_c _ _ _ _ T _ (U1.out.ext ?_) (R1.out.ext ?_)).mono ?_
  · (refine Ext.trans Y3.out ?_; (repeat (first | (with_reducible exact Ext.refl _) | (with_reducible apply Ext.drew) | (with_reducible apply Ext.drewN) | (with_reducible apply Ext.alloc))))
  · (refine Ext.trans Y3.out ?_; (repeat (first | (with_reducible exact Ext.refl _) | (with_reducible apply Ext.drew) | (with_reducible apply Ext.drewN) | (with_reducible apply Ext.alloc))))
  intro e y4 hh
  obtain ⟨rfl, x⟩ := hh
  have Y4 : Hid (Ext Wf y4) := Lib.hid (Ext.trans Y3.out (Ext.trans (by (repeat (first | (with_reducible exact Ext.refl _) | (with_reducible apply Ext.drew) | (with_reducible apply Ext.drewN) | (with_reducible apply Ext.alloc)))) x))
  have q4_1 := Y4.out.cell q0_1
  have q4_2 := Y4.out.cell q0_2
  have q4_3 := Y4.out.cell q0_3
  have q4_4 := Y4.out.cell q0_4
  have q4_5 := Y4.out.cell q0_5
  have q4_6 := Y4.out.cell q0_6
  have q4_7 := Y4.out.cell q0_7
  have q4_8 := Y4.out.cell q0_8
  have q4_9 := Y4.out.cell q0_9
  have q4_10 := Y4.out.cell q0_10
  have q4_11 := Y4.out.cell q0_11
  go_simp
  refine hK.out _ _ ?_ (fun hHeld => ?_)
  · exact ⟨q4_1, q4_2, q4_3, q4_4, q4_5, q4_6, q4_7, q4_8, q4_9, q4_10, q4_11⟩
  clear hK K x
  try simp only [Act.put, List.getElem_toArray, List.getElem_cons_zero, List.getElem_cons_succ, List.setIfInBounds_toArray, List.set_cons_zero, List.set_cons_succ]
  refine wpAnyH_take (i := 24) (v := ?va589_24) rfl (by kernel_rfl) (by kernel_rfl) (by kernel_rfl) (fun _ _ _ h => h) (Or.inl ⟨by rfl, fun w hSw => ?ti589_24⟩) (by assumption) ?rest589_24
  case ti589_24 => ((try dsimp only at hSw); go_simp; (first | done | with_reducible rfl))
  try simp only [Act.put, List.getElem_toArray, List.getElem_cons_zero, List.getElem_cons_succ, List.setIfInBounds_toArray, List.set_cons_zero, List.set_cons_succ]
  refine wpAnyH_take (i := 25) (v := ?va592_25) rfl (by kernel_rfl) (by kernel_rfl) (by kernel_rfl) (fun _ _ _ h => h) (Or.inl ⟨by rfl, fun w hSw => ?ti592_25⟩) (by assumption) ?rest592_25
  case ti592_25 => ((try dsimp only at hSw); go_simp; (first | done | with_reducible rfl))
  try simp only [Act.put, List.getElem_toArray, List.getElem_cons_zero, List.getElem_cons_succ, List.setIfInBounds_toArray, List.set_cons_zero, List.set_cons_succ]
  refine wpAnyH_take (i := 26) (v := ?va595_26) rfl (by kernel_rfl) (by kernel_rfl) (by kernel_rfl) (fun _ _ _ h => h) (Or.inl ⟨by rfl, fun w hSw => ?ti595_26⟩) (by assumption) ?rest595_26
  case ti595_26 => ((try dsimp only at hSw); go_simp; (first | done | with_reducible rfl))
  try simp only [Act.put, List.getElem_toArray, List.getElem_cons_zero, List.getElem_cons_succ, List.setIfInBounds_toArray, List.set_cons_zero, List.set_cons_succ]
  refine wpAnyH_take (i := 27) (v := ?va598_27) rfl (by kernel_rfl) (by kernel_rfl) (by kernel_rfl) (fun _ _ _ h => h) (Or.inl ⟨by rfl, fun w hSw => ?ti598_27⟩) (by assumption) ?rest598_27
  case ti598_27 => ((try dsimp only at hSw); go_simp; (first | done | with_reducible rfl))
  try simp only [Act.put, List.getElem_toArray, List.getElem_cons_zero, List.getElem_cons_succ, List.setIfInBounds_toArray, List.set_cons_zero, List.set_cons_succ]
  refine wpAnyH_take (i := 28) (v := ?va601_28) rfl (by kernel_rfl) (by kernel_rfl) (by kernel_rfl) (fun _ _ _ h => h) (Or.inl ⟨by rfl, fun w hSw => ?ti601_28⟩) (by assumption) ?rest601_28
  case ti601_28 => ((try dsimp only at hSw); go_simp; (first | done | with_reducible rfl))
  try simp only [Act.put, List.getElem_toArray, List.getElem_cons_zero, List.getElem_cons_succ, List.setIfInBounds_toArray, List.set_cons_zero, List.set_cons_succ]
  refine wpAnyH_take (i := 29) (v := ?va604_29) rfl (by kernel_rfl) (by kernel_rfl) (by kernel_rfl) (fun _ _ _ h => h) (Or.inl ⟨by rfl, fun w hSw => ?ti604_29⟩) (by assumption) ?rest604_29
  case ti604_29 => ((try dsimp only at hSw); go_simp; (first | done | with_reducible rfl))
  try simp only [Act.put, List.getElem_toArray, List.getElem_cons_zero, List.getElem_cons_succ, List.setIfInBounds_toArray, List.set_cons_zero, List.set_cons_succ]
  refine wpAnyH_take (i := 30) (v := ?va607_30) rfl (by kernel_rfl) (by kernel_rfl) (by kernel_rfl) (fun _ _ _ h => h) (Or.inl ⟨by rfl, fun w hSw => ?ti607_30⟩) (by assumption) ?rest607_30
  case ti607_30 => ((try dsimp only at hSw); go_simp; (first | done | with_reducible rfl))
  try simp only [Act.put, List.getElem_toArray, List.getElem_cons_zero, List.getElem_cons_succ, List.setIfInBounds_toArray, List.set_cons_zero, List.set_cons_succ]
  refine wpAnyH_ready (rs := [31]) (by kernel_rfl) (by simp) ?_
  refine AllReadyH.cons rfl (fun K hK => ?_) AllReadyH.nil
  go_simp
  refine (df_c _ _ _ _ R _ (U2.out.ext ?_) (Rr2.out.ext ?_)).mono ?_
  · (refine Ext.trans Y4.out ?_; (repeat (first | (with_reducible exact Ext.refl _) | (with_reducible apply Ext.drew) | (with_reducible apply Ext.drewN) | (with_reducible apply Ext.alloc))))
  · (refine Ext.trans Y4.out ?_; (repeat (first | (with_reducible exact Ext.refl _) | (with_reducible apply Ext.drew) | (with_reducible apply Ext.drewN) | (with_reducible apply Ext.alloc))))
  intro e y5 hh
  obtain ⟨rfl, x⟩ := hh
  have Y5 : Hid (Ext Wf y5) := Lib.hid (Ext.trans Y4.out (Ext.trans (by (repeat (first | (with_reducible exact Ext.refl _) | (with_reducible apply Ext.drew) | (with_reducible apply Ext.drewN) | (with_reducible apply Ext.alloc)))) x))
  have q5_1 := Y5.out.cell q0_1
  have q5_2 := Y5.out.cell q0_2
  have q5_3 := Y5.out.cell q0_3
  have q5_4 := Y5.out.cell q0_4
  have q5_5 := Y5.out.cell q0_5
  have q5_6 := Y5.out.cell q0_6
  have q5_7 := Y5.out.cell q0_7
  have q5_8 := Y5.out.cell q0_8
  have q5_9 := Y5.out.cell q0_9
  have q5_10 := Y5.out.cell q0_10
  have q5_11 := Y5.out.cell q0_11
  go_simp
  refine hK.out _ _ ?_ (fun hHeld => ?_)
  · exact ⟨q5_1, q5_2, q5_3, q5_4, q5_5, q5_6, q5_7, q5_8, q5_9, q5_10, q5_11⟩
  clear hK K x
  try simp only [Act.put, List.getElem_toArray, List.getElem_cons_zero, List.getElem_cons_succ, List.setIfInBounds_toArray, List.set_cons_zero, List.set_cons_succ]
  refine wpAnyH_take (i := 32) (v := ?va635_32) rfl (by kernel_rfl) (by kernel_rfl) (by kernel_rfl) (fun _ _ _ h => h) (Or.inl ⟨by rfl, fun w hSw => ?ti635_32⟩) (by assumption) ?rest635_32
  case ti635_32 => ((try dsimp only at hSw); go_simp; (first | done | with_reducible rfl))
  try simp only [Act.put, List.getElem_toArray, List.getElem_cons_zero, List.getElem_cons_succ, List.setIfInBounds_toArray, List.set_cons_zero, List.set_cons_succ]
  refine wpAnyH_take (i := 33) (v := ?va638_33) rfl (by kernel_rfl) (by kernel_rfl) (by kernel_rfl) (fun _ _ _ h => h) (Or.inl ⟨by rfl, fun w hSw => ?ti638_33⟩) (by assumption) ?rest638_33
  case ti638_33 => ((try dsimp only at hSw); go_simp; (first | done | with_reducible rfl))
  try simp only [Act.put, List.getElem_toArray, List.getElem_cons_zero, List.getElem_cons_succ, List.setIfInBounds_toArray, List.set_cons_zero, List.set_cons_succ]
  refine wpAnyH_take (i := 34) (v := ?va641_34) rfl (by kernel_rfl) (by kernel_rfl) (by kernel_rfl) (fun _ _ _ h => h) (Or.inl ⟨by rfl, fun w hSw => ?ti641_34⟩) (by assumption) ?rest641_34
  case ti641_34 => ((try dsimp only at hSw); go_simp; (first | done | with_reducible rfl))
  try simp only [Act.put, List.getElem_toArray, List.getElem_cons_zero, List.getElem_cons_succ, List.setIfInBounds_toArray, List.set_cons_zero, List.set_cons_succ]
  refine wpAnyH_take (i := 35) (v := ?va644_35) rfl (by kernel_rfl) (by kernel_rfl) (by kernel_rfl) (fun _ _ _ h => h) (Or.inl ⟨by rfl, fun w hSw => ?ti644_35⟩) (by assumption) ?rest644_35
  case ti644_35 => ((try dsimp only at hSw); go_simp; (first | done | with_reducible rfl))
  try simp only [Act.put, List.getElem_toArray, List.getElem_cons_zero, List.getElem_cons_succ, List.setIfInBounds_toArray, List.set_cons_zero, List.set_cons_succ]
  refine wpAnyH_take (i := 36) (v := ?va647_36) rfl (by kernel_rfl) (by kernel_rfl) (by kernel_rfl) (fun _ _ _ h => h) (Or.inl ⟨by rfl, fun w hSw => ?ti647_36⟩) (by assumption) ?rest647_36
  case ti647_36 => ((try dsimp only at hSw); go_simp; (first | done | with_reducible rfl))
  try simp only [Act.put, List.getElem_toArray, List.getElem_cons_zero, List.getElem_cons_succ, List.setIfInBounds_toArray, List.set_cons_zero, List.set_cons_succ]
  refine wpAnyH_take (i := 37) (v := ?va650_37) rfl (by kernel_rfl) (by kernel_rfl) (by kernel_rfl) (fun _ _ _ h => h) (Or.inl ⟨by rfl, fun w hSw => ?ti650_37⟩) (by assumption) ?rest650_37
  case ti650_37 => ((try dsimp only at hSw); go_simp; (first | done | with_reducible rfl))
  try simp only [Act.put, List.getElem_toArray, List.getElem_cons_zero, List.getElem_cons_succ, List.setIfInBounds_toArray, List.set_cons_zero, List.set_cons_succ]
  refine wpAnyH_take (i := 38) (v := ?va653_38) rfl (by kernel_rfl) (by kernel_rfl) (by kernel_rfl) (fun _ _ _ h => h) (Or.inl ⟨by rfl, fun w hSw => ?ti653_38⟩) (by assumption) ?rest653_38
  case ti653_38 => ((try dsimp only at hSw); go_simp; (first | done | with_reducible rfl))
  try simp only [Act.put, List.getElem_toArray, List.getElem_cons_zero, List.getElem_cons_succ, List.setIfInBounds_toArray, List.set_cons_zero, List.set_cons_succ]
  refine wpAnyH_ready (rs := [39]) (by kernel_rfl) (by simp) ?_
  refine AllReadyH.cons rfl (fun K hK => ?_) AllReadyH.nil
  go_simp
  refine (cmir_c _ _ R R2 _ (Rr2.out.ext ?_) BR.out HR2.out).mono ?_
  · (refine Ext.trans Y5.out ?_; (repeat (first | (with_reducible exact Ext.refl _) | (with_reducible apply Ext.drew) | (with_reducible apply Ext.drewN) | (with_reducible apply Ext.alloc))))
  intro e y6 hh
  obtain ⟨z6, rfl, g6, x⟩ := hh
  have Y6 : Hid (Ext Wf y6) := Lib.hid (Ext.trans Y5.out (Ext.trans (by (repeat (first | (with_reducible exact Ext.refl _) | (with_reducible apply Ext.drew) | (with_reducible apply Ext.drewN) | (with_reducible apply Ext.alloc)))) x))
  have q6_1 := Y6.out.cell q0_1
  have q6_2 := Y6.out.cell q0_2
  have q6_3 := Y6.out.cell q0_3
  have q6_4 := Y6.out.cell q0_4
  have q6_5 := Y6.out.cell q0_5
  have q6_6 := Y6.out.cell q0_6
  have q6_7 := Y6.out.cell q0_7
  have q6_8 := Y6.out.cell q0_8
  have q6_9 := Y6.out.cell q0_9
  have q6_10 := Y6.out.cell q0_10
  have q6_11 := Y6.out.cell q0_11
  have G6 := Lib.hid g6; clear g6
  go_simp
  refine hK.out _ _ ?_ (fun hHeld => ?_)
  · exact ⟨q6_1, q6_2, q6_3, q6_4, q6_5, q6_6, q6_7, q6_8, q6_9, q6_10, q6_11⟩
  clear hK K x
  try simp only [Act.put, List.getElem_toArray, List.getElem_cons_zero, List.getElem_cons_succ, List.setIfInBounds_toArray, List.set_cons_zero, List.set_cons_succ]
  refine wpAnyH_ready (rs := [40]) (by kernel_rfl) (by simp) ?_
  refine AllReadyH.cons rfl (fun K hK => ?_) AllReadyH.nil
  go_simp
  refine (df_c _ _ _ _ R2 _ (S0.out.ext ?_) (G6.out.ext ?_)).mono ?_
  · (refine Ext.trans Y6.out ?_; (repeat (first | (with_reducible exact Ext.refl _) | (with_reducible apply Ext.drew) | (with_reducible apply Ext.drewN) | (with_reducible apply Ext.alloc))))
  · (repeat (first | (with_reducible exact Ext.refl _) | (with_reducible apply Ext.drew) | (with_reducible apply Ext.drewN) | (with_reducible apply Ext.alloc)))
  intro e y7 hh
  obtain ⟨rfl, x⟩ := hh
  have Y7 : Hid (Ext Wf y7) := Lib.hid (Ext.trans Y6.out (Ext.trans (by (repeat (first | (with_reducible exact Ext.refl _) | (with_reducible apply Ext.drew) | (with_reducible apply Ext.drewN) | (with_reducible apply Ext.alloc)))) x))
  have q7_1 := Y7.out.cell q0_1
  have q7_2 := Y7.out.cell q0_2
  have q7_3 := Y7.out.cell q0_3
  have q7_4 := Y7.out.cell q0_4
  have q7_5 := Y7.out.cell q0_5
  have q7_6 := Y7.out.cell q0_6
  have q7_7 := Y7.out.cell q0_7
  have q7_8 := Y7.out.cell q0_8
  have q7_9 := Y7.out.cell q0_9
  have q7_10 := Y7.out.cell q0_10
  have q7_11 := Y7.out.cell q0_11
  go_simp
  refine hK.out _ _ ?_ (fun hHeld => ?_)
  · exact ⟨q7_1, q7_2, q7_3, q7_4, q7_5, q7_6, q7_7, q7_8, q7_9, q7_10, q7_11⟩
  clear hK K x
  try simp only [Act.put, List.getElem_toArray, List.getElem_cons_zero, List.getElem_cons_succ, List.setIfInBounds_toArray, List.set_cons_zero, List.set_cons_succ]
  refine wpAnyH_take (i := 41) (v := ?va706_41) rfl (by kernel_rfl) (by kernel_rfl) (by kernel_rfl) (fun _ _ _ h => h) (Or.inl ⟨by rfl, fun w hSw => ?ti706_41⟩) (by assumption) ?rest706_41
  case ti706_41 => ((try dsimp only at hSw); go_simp; (first | done | with_reducible rfl))
  try simp only [Act.put, List.getElem_toArray, List.getElem_cons_zero, List.getElem_cons_succ, List.setIfInBounds_toArray, List.set_cons_zero, List.set_cons_succ]
  refine wpAnyH_take (i := 42) (v := ?va709_42) rfl (by kernel_rfl) (by kernel_rfl) (by kernel_rfl) (fun _ _ _ h => h) (Or.inl ⟨by rfl, fun w hSw => ?ti709_42⟩) (by assumption) ?rest709_42
  case ti709_42 => ((try dsimp only at hSw); go_simp; (first | done | with_reducible rfl))
  try simp only [Act.put, List.getElem_toArray, List.getElem_cons_zero, List.getElem_cons_succ, List.setIfInBounds_toArray, List.set_cons_zero, List.set_cons_succ]
  refine wpAnyH_take (i := 43) (v := ?va712_43) rfl (by kernel_rfl) (by kernel_rfl) (by kernel_rfl) (fun _ _ _ h => h) (Or.inl ⟨by rfl, fun w hSw => ?ti712_43⟩) (by assumption) ?rest712_43
  case ti712_43 => ((try dsimp only at hSw); go_simp; (first | done | with_reducible rfl))
  try simp only [Act.put, List.getElem_toArray, List.getElem_cons_zero, List.getElem_cons_succ, List.setIfInBounds_toArray, List.set_cons_zero, List.set_cons_succ]
  refine wpAnyH_take (i := 44) (v := ?va715_44) rfl (by kernel_rfl) (by kernel_rfl) (by kernel_rfl) (fun _ _ _ h => h) (Or.inl ⟨by rfl, fun w hSw => ?ti715_44⟩) (by assumption) ?rest715_44
  case ti715_44 => ((try dsimp only at hSw); go_simp; (first | done | with_reducible rfl))
  try simp only [Act.put, List.getElem_toArray, List.getElem_cons_zero, List.getElem_cons_succ, List.setIfInBounds_toArray, List.set_cons_zero, List.set_cons_succ]
  refine wpAnyH_ready (rs := [45]) (by kernel_rfl) (by simp) ?_
  refine AllReadyH.cons rfl (fun K hK => ?_) AllReadyH.nil
  go_simp
  refine (mcheck_c _ _ _ _ _ _ R2 T2 L2 0 _ (S0.out.ext ?_) (S1.out.ext ?_) (S2.out.ext ?_) CK.out).mono ?_
  · (refine Ext.trans Y7.out ?_; (repeat (first | (with_reducible exact Ext.refl _) | (with_reducible apply Ext.drew) | (with_reducible apply Ext.drewN) | (with_reducible apply Ext.alloc))))
  · (refine Ext.trans Y7.out ?_; (repeat (first | (with_reducible exact Ext.refl _) | (with_reducible apply Ext.drew) | (with_reducible apply Ext.drewN) | (with_reducible apply Ext.alloc))))
  · (refine Ext.trans Y7.out ?_; (repeat (first | (with_reducible exact Ext.refl _) | (with_reducible apply Ext.drew) | (with_reducible apply Ext.drewN) | (with_reducible apply Ext.alloc))))
  intro e y8 hh
  obtain ⟨rfl, x⟩ := hh
  have Y8 : Hid (Ext Wf y8) := Lib.hid (Ext.trans Y7.out (Ext.trans (by (repeat (first | (with_reducible exact Ext.refl _) | (with_reducible apply Ext.drew) | (with_reducible apply Ext.drewN) | (with_reducible apply Ext.alloc)))) x))
  have q8_1 := Y8.out.cell q0_1
  have q8_2 := Y8.out.cell q0_2
  have q8_3 := Y8.out.cell q0_3
  have q8_4 := Y8.out.cell q0_4
  have q8_5 := Y8.out.cell q0_5
  have q8_6 := Y8.out.cell q0_6
  have q8_7 := Y8.out.cell q0_7
  have q8_8 := Y8.out.cell q0_8
  have q8_9 := Y8.out.cell q0_9
  have q8_10 := Y8.out.cell q0_10
  have q8_11 := Y8.out.cell q0_11
  go_simp
  refine hK.out _ _ ?_ (fun hHeld => ?_)
  · exact ⟨q8_1, q8_2, q8_3, q8_4, q8_5, q8_6, q8_7, q8_8, q8_9, q8_10, q8_11⟩
  clear hK K x
  try simp only [Act.put, List.getElem_toArray, List.getElem_cons_zero, List.getElem_cons_succ, List.setIfInBounds_toArray, List.set_cons_zero, List.set_cons_succ]
  refine wpAnyH_take (i := 46) (v := ?va744_46) rfl (by kernel_rfl) (by kernel_rfl) (by kernel_rfl) (fun _ _ _ h => h) (Or.inl ⟨by rfl, fun w hSw => ?ti744_46⟩) (by assumption) ?rest744_46
  case ti744_46 => ((try dsimp only at hSw); go_simp; (first | done | with_reducible rfl))
  try simp only [Act.put, List.getElem_toArray, List.getElem_cons_zero, List.getElem_cons_succ, List.setIfInBounds_toArray, List.set_cons_zero, List.set_cons_succ]
  refine wpAnyH_take (i := 47) (v := ?va747_47) rfl (by kernel_rfl) (by kernel_rfl) (by kernel_rfl) (fun _ _ _ h => h) (Or.inl ⟨by rfl, fun w hSw => ?ti747_47⟩) (by assumption) ?rest747_47
  case ti747_47 => ((try dsimp only at hSw); go_simp; (first | done | with_reducible rfl))
  try simp only [Act.put, List.getElem_toArray, List.getElem_cons_zero, List.getElem_cons_succ, List.setIfInBounds_toArray, List.set_cons_zero, List.set_cons_succ]
  refine wpAnyH_take (i := 48) (v := ?va750_48) rfl (by kernel_rfl) (by kernel_rfl) (by kernel_rfl) (fun _ _ _ h => h) (Or.inl ⟨by rfl, fun w hSw => ?ti750_48⟩) (by assumption) ?rest750_48
  case ti750_48 => ((try dsimp only at hSw); go_simp; (first | done | with_reducible rfl))
  try simp only [Act.put, List.getElem_toArray, List.getElem_cons_zero, List.getElem_cons_succ, List.setIfInBounds_toArray, List.set_cons_zero, List.set_cons_succ]
  refine wpAnyH_ready (rs := [49]) (by kernel_rfl) (by simp) ?_
  refine AllReadyH.cons rfl (fun K hK => ?_) AllReadyH.nil
  go_simp
  refine (lives15_calls _).mono ?_
  intro e y9 hh
  obtain ⟨rfl, x⟩ := hh
  have Y9 : Hid (Ext Wf y9) := Lib.hid (Ext.trans Y8.out (Ext.trans (by (repeat (first | (with_reducible exact Ext.refl _) | (with_reducible apply Ext.drew) | (with_reducible apply Ext.drewN) | (with_reducible apply Ext.alloc)))) x))
  have q9_1 := Y9.out.cell q0_1
  have q9_2 := Y9.out.cell q0_2
  have q9_3 := Y9.out.cell q0_3
  have q9_4 := Y9.out.cell q0_4
  have q9_5 := Y9.out.cell q0_5
  have q9_6 := Y9.out.cell q0_6
  have q9_7 := Y9.out.cell q0_7
  have q9_8 := Y9.out.cell q0_8
  have q9_9 := Y9.out.cell q0_9
  have q9_10 := Y9.out.cell q0_10
  have q9_11 := Y9.out.cell q0_11
  go_simp
  refine hK.out _ _ ?_ (fun hHeld => ?_)
  · exact ⟨q9_1, q9_2, q9_3, q9_4, q9_5, q9_6, q9_7, q9_8, q9_9, q9_10, q9_11⟩
  clear hK K x
  try simp only [Act.put, List.getElem_toArray, List.getElem_cons_zero, List.getElem_cons_succ, List.setIfInBounds_toArray, List.set_cons_zero, List.set_cons_succ]
  refine wpAnyH_take (i := 50) (v := ?va776_50) rfl (by kernel_rfl) (by kernel_rfl) (by kernel_rfl) (fun _ _ _ h => h) (Or.inl ⟨by rfl, fun w hSw => ?ti776_50⟩) (by assumption) ?rest776_50
  case ti776_50 => ((try dsimp only at hSw); go_simp; (first | done | with_reducible rfl))
  try simp only [Act.put, List.getElem_toArray, List.getElem_cons_zero, List.getElem_cons_succ, List.setIfInBounds_toArray, List.set_cons_zero, List.set_cons_succ]
  refine wpAnyH_take (i := 51) (v := ?va779_51) rfl (by kernel_rfl) (by kernel_rfl) (by kernel_rfl) (fun _ _ _ h => h) (Or.inl ⟨by rfl, fun w hSw => ?ti779_51⟩) (by assumption) ?rest779_51
  case ti779_51 => ((try dsimp only at hSw); go_simp; (first | done | with_reducible rfl))
  try simp only [Act.put, List.getElem_toArray, List.getElem_cons_zero, List.getElem_cons_succ, List.setIfInBounds_toArray, List.set_cons_zero, List.set_cons_succ]
  refine wpAnyH_done (by kernel_rfl) ?_ _
  have XZ := Lib.hid (XF.out.trans Y9.out)
  go_wp2
  go_ret
  exact ⟨rfl, XZ.out⟩
end Go.Proofs.Ytlmkcojimhbmiaa
