/- Texts of this claim in one file: libraries and walks. -/
import Derived.Test.YtlmkcojimhbmiaaMKnown2
/- MotifsTile: the walk. -/
namespace Go.Proofs.Ytlmkcojimhbmiaa
set_option linter.unusedVariables false
set_option linter.unusedSimpArgs false
set_option maxRecDepth 20000
open Go Go.RowKit

theorem wds_bd {C : List (List St)} (h : ∀ i, i < C.length → (sw C i).length ≤ 16) {i : Nat} (hi : i < (wds C).length) : 0 ≤ gi (wds C) i ∧ gi (wds C) i ≤ 64 := by
  rw [wds_len'] at hi
  by_cases e : C.length = 0
  · rw [if_pos e] at hi; omega
  rw [if_neg e] at hi
  cases i with
  | zero =>
    have h1 := rneed_bd (sw C 0)
    have h2 := h 0 (by omega)
    rw [wds_zero (by omega)]; omega
  | succ i =>
    have h1 := rmake_bd (sw C i)
    have h2 := h i (by omega)
    rw [wds_succ (by omega)]; omega
theorem OKb.r16 {C T : List (List St)} (h : OKb C T) : ∀ i, i < C.length → (sw C i).length ≤ 16 := by
  rcases h with rfl | h
  · intro i hi; simp at hi
  · intro i hi; exact ((cl_rows h.1).2.2 i hi).1
theorem wid_c (v : Value) (c : Nat) (rows : List (List St)) (xs : List Int) (w : World) (h : RR w v c rows) (hb : Bd rows) (hx : wds rows = xs) : Calls Try.prog 27 #[.agg #[v]] w (RetX .i64 w xs) := by
  rw [← hx]; exact Widths_calls v c rows w h hb.2 hb.1
set_option maxHeartbeats 8000000 in
theorem MotifsTile_walk (ht ed wL wT wR n up : Int) (uL uT uR : Value) (cL cT cR : Nat) (xL xT xR : List (List Int)) (w : World) (hh : 0 ≤ ht ∧ ht ≤ 255) (he : 0 ≤ ed ∧ ed ≤ 255)
    (hL : ISS .u8 w uL cL xL) (hT : ISS .u8 w uT cT xT) (hR : ISS .u8 w uR cR xR) (bL : 0 ≤ wL ∧ wL ≤ 255) (bT : 0 ≤ wT ∧ wT ≤ 255) (bR : 0 ≤ wR ∧ wR ≤ 255) (yL : bt8 xL) (yT : bt8 xT) (yR : bt8 xR) (hn : 0 ≤ n ∧ n ≤ 255) (hu : 0 ≤ up ∧ up ≤ 255) :
    Calls Try.prog 8 #[.agg #[.int .u8 ht, .int .u8 ed, .int .u8 wL, uL, .int .u8 wT, uT, .int .u8 wR, uR], .int .u8 n, .int .u8 up] w fun e w' => e = .returned (.bool true) ∧ Ext w w' := by
  obtain ⟨N, hN⟩ : ∃ N : Nat, (N : Int) = n % 9 := ⟨(n % 9).toNat, by omega⟩
  have hN8 : N ≤ 8 := by omega
  have hNw : n % 9 = (N : Int) := hN.symm
  have v1 : IntKind.i64.wrap (N : Int) = (N : Int) := IntWalk.i64_in _ ⟨by omega, by omega⟩
  obtain ⟨U, hU⟩ : ∃ U : Nat, (U : Int) = up % 8 := ⟨(up % 8).toNat, by omega⟩
  have hU7 : U ≤ 7 := by omega
  have hUw : up % 8 = (U : Int) := hU.symm
  have v2 : IntKind.i64.wrap (U : Int) = (U : Int) := IntWalk.i64_in _ ⟨by omega, by omega⟩
  have hM := fun w' (x : Ext w w') => MOf_calls ht ed wL wT wR uL uT uR cL cT cR xL xT xR w' hh he (hL.ext x) (hT.ext x) (hR.ext x) bL bT bR yL yT yR
  obtain ⟨vsL, cpL, gL⟩ := hL
  obtain ⟨aL, nL, rfl, j1, j2, j3, j4⟩ := gL.outs
  clear j1 j2 j3 j4
  obtain ⟨vsT, cpT, gT⟩ := hT
  obtain ⟨aT, nT, rfl, j1, j2, j3, j4⟩ := gT.outs
  clear j1 j2 j3 j4
  obtain ⟨vsR, cpR, gR⟩ := hR
  obtain ⟨aR, nR, rfl, j1, j2, j3, j4⟩ := gR.outs
  clear j1 j2 j3 j4
  have HM := Lib.hid hM
  have Hht := Lib.hid hh.1
  have HNW := Lib.hid (And.intro hNw v1); have HUW := Lib.hid (And.intro hUw v2)
  clear hM gL gT gR bL bT bR yL yT yR hh he hN hU hNw hUw v1 v2
  obtain ⟨Wa, hW⟩ : ∃ Wa, Wa = w.alloc (.cells #[.int .u8 ht, .int .u8 ed, .int .u8 wL, .slice aL nL cL, .int .u8 wT, .slice aT nT cT, .int .u8 wR, .slice aR nR cR] 48) := ⟨_, rfl⟩
  have xa : Ext w Wa := by rw [hW]; exact (Ext.refl w).alloc _
  have hba : Wa.heap[w.heap.size]? = some (Obj.cells #[.int .u8 ht, .int .u8 ed, .int .u8 wL, .slice aL nL cL, .int .u8 wT, .slice aT nT cT, .int .u8 wR, .slice aR nR cR] 48 (0, 0)) := by rw [hW]; exact blk_at rfl
  have X_1 := Lib.hid xa
  have A0 : Hid (Wa.cell? ⟨w.heap.size, 0, none⟩ = some (.int .u8 ht)) := Lib.hid (by simp [World.cell?, hba])
  have A1 : Hid (Wa.cell? ⟨w.heap.size, 1, none⟩ = some (.int .u8 ed)) := Lib.hid (by simp [World.cell?, hba])
  have A2 : Hid (Wa.cell? ⟨w.heap.size, 2, none⟩ = some (.int .u8 wL)) := Lib.hid (by simp [World.cell?, hba])
  have A3 : Hid (Wa.cell? ⟨w.heap.size, 3, none⟩ = some (.slice aL nL cL)) := Lib.hid (by simp [World.cell?, hba])
  have A4 : Hid (Wa.cell? ⟨w.heap.size, 4, none⟩ = some (.int .u8 wT)) := Lib.hid (by simp [World.cell?, hba])
  have A5 : Hid (Wa.cell? ⟨w.heap.size, 5, none⟩ = some (.slice aT nT cT)) := Lib.hid (by simp [World.cell?, hba])
  have A6 : Hid (Wa.cell? ⟨w.heap.size, 6, none⟩ = some (.int .u8 wR)) := Lib.hid (by simp [World.cell?, hba])
  have A7 : Hid (Wa.cell? ⟨w.heap.size, 7, none⟩ = some (.slice aR nR cR)) := Lib.hid (by simp [World.cell?, hba])
  have HWa := Lib.hid hW
  clear hW xa hba
  go_enter Try.func8, Try.ntmps8
  have a0 := A0.out
  rw [HWa.out] at a0
  have a1 := A1.out
  rw [HWa.out] at a1
  have a2 := A2.out
  rw [HWa.out] at a2
  have a3 := A3.out
  rw [HWa.out] at a3
  have a4 := A4.out
  rw [HWa.out] at a4
  have a5 := A5.out
  rw [HWa.out] at a5
  have a6 := A6.out
  rw [HWa.out] at a6
  have a7 := A7.out
  rw [HWa.out] at a7
  go_wp2_with fail
  rw [← HWa.out]
  refine (HM.out _ X_1.out).mono ?_
  rintro e w1 ⟨v0, v1, v2, d0, d1, d2, L, T, R, rfl, r0, r1, r2, hok, x⟩
  have HOK := Lib.hid hok
  clear hok HM
  clear a0 a1 a2 a3 a4 a5 a6 a7
  replace A0 := Lib.hid (x.cell A0.out)
  replace A1 := Lib.hid (x.cell A1.out)
  replace A2 := Lib.hid (x.cell A2.out)
  replace A3 := Lib.hid (x.cell A3.out)
  replace A4 := Lib.hid (x.cell A4.out)
  replace A5 := Lib.hid (x.cell A5.out)
  replace A6 := Lib.hid (x.cell A6.out)
  replace A7 := Lib.hid (x.cell A7.out)
  have X_2 := Lib.hid (X_1.out.trans x)
  clear X_1
  clear x
  clear A0 A1 A2 A3 A4 A5 A6 A7
  obtain ⟨a0, m0, hv, j1, j2, j3, j4⟩ := r0.open
  subst hv
  have RL := Lib.hid r0
  clear r0 j1 j2 j3 j4
  obtain ⟨a1, m1, hv, j1, j2, j3, j4⟩ := r1.open
  subst hv
  have RT := Lib.hid r1
  clear r1 j1 j2 j3 j4
  obtain ⟨a2, m2, hv, j1, j2, j3, j4⟩ := r2.open
  subst hv
  have RR_ := Lib.hid r2
  clear r2 j1 j2 j3 j4
  obtain ⟨okL, okR, okT, t1, t2, t3⟩ := HOK.out.parts Hht.out
  obtain ⟨E, hE⟩ : ∃ E, prgE L T R N 1 = E := ⟨_, rfl⟩
  obtain ⟨P, hP⟩ : ∃ P, prgR L T R N 1 = P := ⟨_, rfl⟩
  obtain ⟨E2, hE2⟩ : ∃ E, prgE L T R N U = E := ⟨_, rfl⟩
  obtain ⟨P2, hP2⟩ : ∃ P, prgR L T R N U = P := ⟨_, rfl⟩
  have hS : stkE L T R N 1 = E := by rw [← hE, prgE_eq, show min (N : Int) 17 = N by omega, show min (1 : Int) 32 = 1 by omega]
  have hQ : stkR L T R N 1 = P := by rw [← hP, prgR_eq, show min (N : Int) 17 = N by omega, show min (1 : Int) 32 = 1 by omega]
  have hS2 : stkE L T R N U = E2 := by rw [← hE2, prgE_eq, show min (N : Int) 17 = N by omega, show min (U : Int) 32 = U by omega]
  have hQ2 : stkR L T R N U = P2 := by rw [← hP2, prgR_eq, show min (N : Int) 17 = N by omega, show min (U : Int) 32 = U by omega]
  have hcs := tile_errs okL okR okT t3 N
  rw [hS] at hcs
  have hbp : Bd P := by rw [← hP]; exact Bd.prg _ _ _ _ _
  have hky : ∀ C ∈ [L, T, R], ∀ r ∈ C, ∀ s ∈ r, 0 ≤ s.k ∧ 0 ≤ s.y := fun C hC r hr s hs => by
    obtain ⟨i, hi, rfl⟩ := List.mem_iff_getElem.1 hr
    obtain ⟨j, hj, rfl⟩ := List.mem_iff_getElem.1 hs
    rw [← sw_of_lt hi] at hj
    have hg : si (sw C i) j = C[i][j]'(by rw [← sw_of_lt hi]; exact hj) := by rw [si_of_lt hj]; simp only [sw_of_lt hi]
    rw [← hg]
    simp only [List.mem_cons, List.not_mem_nil, or_false] at hC
    rcases hC with rfl | rfl | rfl
    · exact okL.ky hi j hj
    · exact cl_ky okT hi j hj
    · exact okR.ky hi j hj
  have hw : E = 0 → (wds P).length = T.length + 1 ∧ (∀ i, i < T.length + 1 → gi (wds P) i = (if L.length = 0 then 0 else gi (wds L) i) + N * gi (wds T) i + (if R.length = 0 then 0 else gi (wds R) i)) := fun h0 => by
    have hp := tile_w (n := N) okL okR okT (by omega) (by rw [hE]; exact h0)
    rw [hP] at hp
    have hlen : P.length = T.length := by rw [hp]; simp [stkOne]
    refine ⟨by rw [wds_len (by omega), hlen], fun i hi => ?_⟩
    rw [hp]
    exact wds_stk okL.len okR.len t1 hi
  have HE := Lib.hid hE
  have HP := Lib.hid hP
  have HE2 := Lib.hid hE2
  have HP2 := Lib.hid hP2
  have HS := Lib.hid hS
  have HQ := Lib.hid hQ
  have HS2 := Lib.hid hS2
  have HQ2 := Lib.hid hQ2
  have HBP := Lib.hid hbp
  have HKY := Lib.hid hky
  have HW := Lib.hid hw
  have OKL := Lib.hid okL
  have OKR := Lib.hid okR
  have OKT := Lib.hid okT
  have T1 := Lib.hid t1
  have T2 := Lib.hid t2
  clear hE hP hE2 hP2 hS hQ hS2 hQ2 hbp hky hw okL okR okT t1 t2 t3 HOK
  obtain ⟨Wb, hW⟩ : ∃ Wb, Wb = w1.alloc (.cells #[.slice a0 m0 d0, .slice a1 m1 d1, .slice a2 m2 d2] 26) := ⟨_, rfl⟩
  have xa : Ext w1 Wb := by rw [hW]; exact (Ext.refl w1).alloc _
  have hba : Wb.heap[w1.heap.size]? = some (Obj.cells #[.slice a0 m0 d0, .slice a1 m1 d1, .slice a2 m2 d2] 26 (0, 0)) := by rw [hW]; exact blk_at rfl
  replace RL := Lib.hid (RL.out.ext xa)
  replace RT := Lib.hid (RT.out.ext xa)
  replace RR_ := Lib.hid (RR_.out.ext xa)
  have X_3 := Lib.hid (X_2.out.trans xa)
  clear X_2
  have B0 : Hid (Wb.cell? ⟨w1.heap.size, 0, none⟩ = some (.slice a0 m0 d0)) := Lib.hid (by simp [World.cell?, hba])
  have B1 : Hid (Wb.cell? ⟨w1.heap.size, 1, none⟩ = some (.slice a1 m1 d1)) := Lib.hid (by simp [World.cell?, hba])
  have B2 : Hid (Wb.cell? ⟨w1.heap.size, 2, none⟩ = some (.slice a2 m2 d2)) := Lib.hid (by simp [World.cell?, hba])
  have HWb := Lib.hid hW
  clear hW xa hba
  obtain ⟨hNw, v1⟩ := HNW.out
  have b0 := B0.out
  rw [HWb.out] at b0
  have b1 := B1.out
  rw [HWb.out] at b1
  have b2 := B2.out
  rw [HWb.out] at b2
  go_wp2_with fail
  rw [← HWb.out]
  refine (tile_c _ _ _ _ _ _ L T R N _ P E RL.out RT.out RR_.out HE.out HP.out).mono ?_
  rintro e w4 ⟨v4, rfl, o4, r4⟩
  have x := o4.1
  clear o4
  clear b0 b1 b2
  replace RL := Lib.hid (RL.out.ext x)
  replace RT := Lib.hid (RT.out.ext x)
  replace RR_ := Lib.hid (RR_.out.ext x)
  replace B0 := Lib.hid (x.cell B0.out)
  replace B1 := Lib.hid (x.cell B1.out)
  replace B2 := Lib.hid (x.cell B2.out)
  have X_4 := Lib.hid (X_3.out.trans x)
  clear X_3
  clear x
  obtain ⟨a4, m4, hv, j1, j2, j3, j4⟩ := r4.open
  subst hv
  have R4 := Lib.hid r4
  clear r4 j1 j2 j3 j4
  obtain ⟨We, hW⟩ : ∃ We, We = w4.alloc (.cells #[.slice a4 m4 P.length] 24) := ⟨_, rfl⟩
  have xa : Ext w4 We := by rw [hW]; exact (Ext.refl w4).alloc _
  have hba : We.heap[w4.heap.size]? = some (Obj.cells #[.slice a4 m4 P.length] 24 (0, 0)) := by rw [hW]; exact blk_at rfl
  replace RL := Lib.hid (RL.out.ext xa)
  replace RT := Lib.hid (RT.out.ext xa)
  replace RR_ := Lib.hid (RR_.out.ext xa)
  replace B0 := Lib.hid (xa.cell B0.out)
  replace B1 := Lib.hid (xa.cell B1.out)
  replace B2 := Lib.hid (xa.cell B2.out)
  replace R4 := Lib.hid (R4.out.ext xa)
  have X_5 := Lib.hid (X_4.out.trans xa)
  clear X_4
  have E0 : Hid (We.cell? ⟨w4.heap.size, 0, none⟩ = some (.slice a4 m4 P.length)) := Lib.hid (by simp [World.cell?, hba])
  have HWe := Lib.hid hW
  clear hW xa hba
  have b0 := B0.out
  rw [HWe.out] at b0
  have b1 := B1.out
  rw [HWe.out] at b1
  have b2 := B2.out
  rw [HWe.out] at b2
  go_wp2_with fail
  rw [← HWe.out]
  refine (rstack_c _ _ _ _ _ _ L T R N 1 _ P E RL.out RT.out RR_.out (by omega) (by omega) HKY.out HS.out HQ.out).mono ?_
  rintro e w5 ⟨v5, d5, rfl, r5, x⟩
  clear hNw v1
  clear b0 b1 b2
  replace RL := Lib.hid (RL.out.ext x)
  replace RT := Lib.hid (RT.out.ext x)
  replace RR_ := Lib.hid (RR_.out.ext x)
  replace B0 := Lib.hid (x.cell B0.out)
  replace B1 := Lib.hid (x.cell B1.out)
  replace B2 := Lib.hid (x.cell B2.out)
  replace R4 := Lib.hid (R4.out.ext x)
  replace E0 := Lib.hid (x.cell E0.out)
  have X_6 := Lib.hid (X_5.out.trans x)
  clear X_5
  clear x
  obtain ⟨a5, m5, hv, j1, j2, j3, j4⟩ := r5.open
  subst hv
  have R5 := Lib.hid r5
  clear r5 j1 j2 j3 j4
  obtain ⟨Wf, hW⟩ : ∃ Wf, Wf = w5.alloc (.cells #[.slice a5 m5 d5] 24) := ⟨_, rfl⟩
  have xa : Ext w5 Wf := by rw [hW]; exact (Ext.refl w5).alloc _
  have hba : Wf.heap[w5.heap.size]? = some (Obj.cells #[.slice a5 m5 d5] 24 (0, 0)) := by rw [hW]; exact blk_at rfl
  replace RL := Lib.hid (RL.out.ext xa)
  replace RT := Lib.hid (RT.out.ext xa)
  replace RR_ := Lib.hid (RR_.out.ext xa)
  replace B0 := Lib.hid (xa.cell B0.out)
  replace B1 := Lib.hid (xa.cell B1.out)
  replace B2 := Lib.hid (xa.cell B2.out)
  replace R4 := Lib.hid (R4.out.ext xa)
  replace E0 := Lib.hid (xa.cell E0.out)
  replace R5 := Lib.hid (R5.out.ext xa)
  have X_7 := Lib.hid (X_6.out.trans xa)
  clear X_6
  have F0 : Hid (Wf.cell? ⟨w5.heap.size, 0, none⟩ = some (.slice a5 m5 d5)) := Lib.hid (by simp [World.cell?, hba])
  have HWf := Lib.hid hW
  clear hW xa hba
  have e0 := E0.out
  rw [HWf.out] at e0
  have f0 := F0.out
  rw [HWf.out] at f0
  go_wp2_with fail
  rw [← HWf.out]
  refine (df_c _ _ _ _ P _ R4.out R5.out).mono ?_
  rintro e w6 ⟨rfl, x⟩
  clear e0 f0
  replace RL := Lib.hid (RL.out.ext x)
  replace RT := Lib.hid (RT.out.ext x)
  replace RR_ := Lib.hid (RR_.out.ext x)
  replace B0 := Lib.hid (x.cell B0.out)
  replace B1 := Lib.hid (x.cell B1.out)
  replace B2 := Lib.hid (x.cell B2.out)
  replace R4 := Lib.hid (R4.out.ext x)
  replace E0 := Lib.hid (x.cell E0.out)
  replace R5 := Lib.hid (R5.out.ext x)
  replace F0 := Lib.hid (x.cell F0.out)
  have X_8 := Lib.hid (X_7.out.trans x)
  clear X_7
  clear x
  rcases hcs with rfl | rfl | rfl | rfl
  · skip
    obtain ⟨hw1, hw2⟩ := HW.out rfl
    obtain ⟨lt, hlt⟩ : ∃ lt, lt = T.length + 1 := ⟨_, rfl⟩
    rw [← hlt] at hw1 hw2
    obtain ⟨xl, hxl⟩ : ∃ xs, wds L = xs := ⟨_, rfl⟩
    obtain ⟨xt, hxt⟩ : ∃ xs, wds T = xs := ⟨_, rfl⟩
    obtain ⟨xr, hxr⟩ : ∃ xs, wds R = xs := ⟨_, rfl⟩
    obtain ⟨xp, hxp⟩ : ∃ xs, wds P = xs := ⟨_, rfl⟩
    have hll : xl.length = if L.length = 0 then 0 else lt := by rw [← hxl, wds_len', hlt]; have := OKL.out.len; have := T1.out; split <;> omega
    have hlr : xr.length = if R.length = 0 then 0 else lt := by rw [← hxr, wds_len', hlt]; have := OKR.out.len; have := T1.out; split <;> omega
    have hlT : xt.length = lt := by rw [← hxt, wds_len (by have := T1.out; omega), hlt]
    have bdl : ∀ i, i < xl.length → 0 ≤ gi xl i ∧ gi xl i ≤ 64 := fun i hi => by rw [← hxl] at hi ⊢; exact wds_bd OKL.out.r16 hi
    have bdr : ∀ i, i < xr.length → 0 ≤ gi xr i ∧ gi xr i ≤ 64 := fun i hi => by rw [← hxr] at hi ⊢; exact wds_bd OKR.out.r16 hi
    have bdt : ∀ i, i < xt.length → 0 ≤ gi xt i ∧ gi xt i ≤ 64 := fun i hi => by rw [← hxt] at hi ⊢; exact wds_bd (fun i hi => ((cl_rows OKT.out).2.2 i hi).1) hi
    rw [hxp, hxl, hxt, hxr] at hw2
    rw [hxp] at hw1
    have hlt1 : 1 ≤ lt := by omega
    have hlt6 : lt ≤ 6 := by have := T2.out; omega
    have HXL := Lib.hid (hxl)
    have HXT := Lib.hid (hxt)
    have HXR := Lib.hid (hxr)
    have HXP := Lib.hid (hxp)
    have HLL := Lib.hid (hll)
    have HLR := Lib.hid (hlr)
    have HLT := Lib.hid (hlT)
    have BDL := Lib.hid (bdl)
    have BDR := Lib.hid (bdr)
    have BDT := Lib.hid (bdt)
    have HW1 := Lib.hid (hw1)
    have HW2 := Lib.hid (hw2)
    have BL := Lib.hid (Bd.ok OKL.out)
    have BR := Lib.hid (Bd.ok OKR.out)
    have BT := Lib.hid (Bd.cl OKT.out)
    clear hxl hxt hxr hxp hll hlr hlT bdl bdr bdt hw1 hw2 hlt HW
    go_wp2_with fail
    have q0_1 := B0.out
    have q0_2 := B1.out
    have q0_3 := B2.out
    refine wp_region_held_drew (S := fun w' => w'.cell? ⟨w1.heap.size, 0, Option.none⟩ = some (.slice a0 m0 d0) ∧ w'.cell? ⟨w1.heap.size, 1, Option.none⟩ = some (.slice a1 m1 d1) ∧ w'.cell? ⟨w1.heap.size, 2, Option.none⟩ = some (.slice a2 m2 d2)) (by kernel_rfl) ?_ (fun hHeld => ?_)
    · exact ⟨q0_1, q0_2, q0_3⟩
    refine wpAnyH_take (i := 0) (v := ?va325_0) rfl (by kernel_rfl) (by kernel_rfl) (by kernel_rfl) (fun _ _ _ h => h) (Or.inl ⟨by rfl, fun w hSw => ?ti325_0⟩) (by assumption) ?rest325_0
    case ti325_0 => ((try dsimp only at hSw); go_simp; (first | done | with_reducible rfl))
    try simp only [Act.put, List.getElem_toArray, List.getElem_cons_zero, List.getElem_cons_succ, List.setIfInBounds_toArray, List.set_cons_zero, List.set_cons_succ]
    refine wpAnyH_take (i := 1) (v := ?va328_1) rfl (by kernel_rfl) (by kernel_rfl) (by kernel_rfl) (fun _ _ _ h => h) (Or.inl ⟨by rfl, fun w hSw => ?ti328_1⟩) (by assumption) ?rest328_1
    case ti328_1 => ((try dsimp only at hSw); go_simp; (first | done | with_reducible rfl))
    try simp only [Act.put, List.getElem_toArray, List.getElem_cons_zero, List.getElem_cons_succ, List.setIfInBounds_toArray, List.set_cons_zero, List.set_cons_succ]
    refine wpAnyH_take (i := 3) (v := ?va331_3) rfl (by kernel_rfl) (by kernel_rfl) (by kernel_rfl) (fun _ _ _ h => h) (Or.inl ⟨by rfl, fun w hSw => ?ti331_3⟩) (by assumption) ?rest331_3
    case ti331_3 => ((try dsimp only at hSw); go_simp; (first | done | with_reducible rfl))
    try simp only [Act.put, List.getElem_toArray, List.getElem_cons_zero, List.getElem_cons_succ, List.setIfInBounds_toArray, List.set_cons_zero, List.set_cons_succ]
    refine wpAnyH_take (i := 4) (v := ?va334_4) rfl (by kernel_rfl) (by kernel_rfl) (by kernel_rfl) (fun _ _ _ h => h) (Or.inl ⟨by rfl, fun w hSw => ?ti334_4⟩) (by assumption) ?rest334_4
    case ti334_4 => ((try dsimp only at hSw); go_simp; (first | done | with_reducible rfl))
    try simp only [Act.put, List.getElem_toArray, List.getElem_cons_zero, List.getElem_cons_succ, List.setIfInBounds_toArray, List.set_cons_zero, List.set_cons_succ]
    refine wpAnyH_take (i := 6) (v := ?va337_6) rfl (by kernel_rfl) (by kernel_rfl) (by kernel_rfl) (fun _ _ _ h => h) (Or.inl ⟨by rfl, fun w hSw => ?ti337_6⟩) (by assumption) ?rest337_6
    case ti337_6 => ((try dsimp only at hSw); go_simp; (first | done | with_reducible rfl))
    try simp only [Act.put, List.getElem_toArray, List.getElem_cons_zero, List.getElem_cons_succ, List.setIfInBounds_toArray, List.set_cons_zero, List.set_cons_succ]
    refine wpAnyH_take (i := 7) (v := ?va340_7) rfl (by kernel_rfl) (by kernel_rfl) (by kernel_rfl) (fun _ _ _ h => h) (Or.inl ⟨by rfl, fun w hSw => ?ti340_7⟩) (by assumption) ?rest340_7
    case ti340_7 => ((try dsimp only at hSw); go_simp; (first | done | with_reducible rfl))
    try simp only [Act.put, List.getElem_toArray, List.getElem_cons_zero, List.getElem_cons_succ, List.setIfInBounds_toArray, List.set_cons_zero, List.set_cons_succ]
    refine wpAnyH_ready (rs := [2]) (by kernel_rfl) (by simp) ?_
    refine AllReadyH.cons rfl (fun K hK => ?_) AllReadyH.nil
    go_simp
    refine (wid_c _ _ L xl _ (RL.out.ext ?_) BL.out HXL.out).mono ?_
    · (repeat (first | (with_reducible exact Ext.refl _) | (with_reducible apply Ext.drew) | (with_reducible apply Ext.drewN) | (with_reducible apply Ext.alloc)))
    intro e y1 hh
    obtain ⟨vv, k1, rfl, ii1, x⟩ := hh
    have Y1 : Hid (Ext w6 y1) := Lib.hid (Ext.trans (by (repeat (first | (with_reducible exact Ext.refl _) | (with_reducible apply Ext.drew) | (with_reducible apply Ext.drewN) | (with_reducible apply Ext.alloc)))) x)
    have q1_1 := Y1.out.cell q0_1
    have q1_2 := Y1.out.cell q0_2
    have q1_3 := Y1.out.cell q0_3
    obtain ⟨aw1, nw1, cw1, rfl, hnw1, hcw1, hI1⟩ := ii1.out; have I1 := Lib.hid hI1; have NW1 := Lib.hid hnw1; clear ii1 hI1 hnw1 hcw1; have YY1 := Lib.hid x
    go_simp
    refine hK.out _ _ ?_ (fun hHeld => ?_)
    · exact ⟨q1_1, q1_2, q1_3⟩
    clear hK K x
    try simp only [Act.put, List.getElem_toArray, List.getElem_cons_zero, List.getElem_cons_succ, List.setIfInBounds_toArray, List.set_cons_zero, List.set_cons_succ]
    refine wpAnyH_ready (rs := [5]) (by kernel_rfl) (by simp) ?_
    refine AllReadyH.cons rfl (fun K hK => ?_) AllReadyH.nil
    go_simp
    refine (wid_c _ _ T xt _ (RT.out.ext ?_) BT.out HXT.out).mono ?_
    · (refine Ext.trans Y1.out ?_; (repeat (first | (with_reducible exact Ext.refl _) | (with_reducible apply Ext.drew) | (with_reducible apply Ext.drewN) | (with_reducible apply Ext.alloc))))
    intro e y2 hh
    obtain ⟨vv, k2, rfl, ii2, x⟩ := hh
    have Y2 : Hid (Ext w6 y2) := Lib.hid (Ext.trans Y1.out (Ext.trans (by (repeat (first | (with_reducible exact Ext.refl _) | (with_reducible apply Ext.drew) | (with_reducible apply Ext.drewN) | (with_reducible apply Ext.alloc)))) x))
    have q2_1 := Y2.out.cell q0_1
    have q2_2 := Y2.out.cell q0_2
    have q2_3 := Y2.out.cell q0_3
    obtain ⟨aw2, nw2, cw2, rfl, hnw2, hcw2, hI2⟩ := ii2.out; have I2 := Lib.hid hI2; have NW2 := Lib.hid hnw2; clear ii2 hI2 hnw2 hcw2; have YY2 := Lib.hid x
    go_simp
    refine hK.out _ _ ?_ (fun hHeld => ?_)
    · exact ⟨q2_1, q2_2, q2_3⟩
    clear hK K x
    try simp only [Act.put, List.getElem_toArray, List.getElem_cons_zero, List.getElem_cons_succ, List.setIfInBounds_toArray, List.set_cons_zero, List.set_cons_succ]
    refine wpAnyH_ready (rs := [8]) (by kernel_rfl) (by simp) ?_
    refine AllReadyH.cons rfl (fun K hK => ?_) AllReadyH.nil
    go_simp
    refine (wid_c _ _ R xr _ (RR_.out.ext ?_) BR.out HXR.out).mono ?_
    · (refine Ext.trans Y2.out ?_; (repeat (first | (with_reducible exact Ext.refl _) | (with_reducible apply Ext.drew) | (with_reducible apply Ext.drewN) | (with_reducible apply Ext.alloc))))
    intro e y3 hh
    obtain ⟨vv, k3, rfl, ii3, x⟩ := hh
    have Y3 : Hid (Ext w6 y3) := Lib.hid (Ext.trans Y2.out (Ext.trans (by (repeat (first | (with_reducible exact Ext.refl _) | (with_reducible apply Ext.drew) | (with_reducible apply Ext.drewN) | (with_reducible apply Ext.alloc)))) x))
    have q3_1 := Y3.out.cell q0_1
    have q3_2 := Y3.out.cell q0_2
    have q3_3 := Y3.out.cell q0_3
    obtain ⟨aw3, nw3, cw3, rfl, hnw3, hcw3, hI3⟩ := ii3.out; have I3 := Lib.hid hI3; have NW3 := Lib.hid hnw3; clear ii3 hI3 hnw3 hcw3; have YY3 := Lib.hid x
    go_simp
    refine hK.out _ _ ?_ (fun hHeld => ?_)
    · exact ⟨q3_1, q3_2, q3_3⟩
    clear hK K x
    try simp only [Act.put, List.getElem_toArray, List.getElem_cons_zero, List.getElem_cons_succ, List.setIfInBounds_toArray, List.set_cons_zero, List.set_cons_succ]
    refine wpAnyH_take (i := 9) (v := ?va394_9) rfl (by kernel_rfl) (by kernel_rfl) (by kernel_rfl) (fun _ _ _ h => h) (Or.inl ⟨by rfl, fun w hSw => ?ti394_9⟩) (by assumption) ?rest394_9
    case ti394_9 => ((try dsimp only at hSw); go_simp; (first | done | with_reducible rfl))
    try simp only [Act.put, List.getElem_toArray, List.getElem_cons_zero, List.getElem_cons_succ, List.setIfInBounds_toArray, List.set_cons_zero, List.set_cons_succ]
    refine wpAnyH_take (i := 10) (v := ?va397_10) rfl (by kernel_rfl) (by kernel_rfl) (by kernel_rfl) (fun _ _ _ h => h) (Or.inl ⟨by rfl, fun w hSw => ?ti397_10⟩) (by assumption) ?rest397_10
    case ti397_10 => ((try dsimp only at hSw); go_simp; (first | done | with_reducible rfl))
    try simp only [Act.put, List.getElem_toArray, List.getElem_cons_zero, List.getElem_cons_succ, List.setIfInBounds_toArray, List.set_cons_zero, List.set_cons_succ]
    refine wpAnyH_take (i := 11) (v := ?va400_11) rfl (by kernel_rfl) (by kernel_rfl) (by kernel_rfl) (fun _ _ _ h => h) (Or.inl ⟨by rfl, fun w hSw => ?ti400_11⟩) (by assumption) ?rest400_11
    case ti400_11 => ((try dsimp only at hSw); go_simp; (first | done | with_reducible rfl))
    try simp only [Act.put, List.getElem_toArray, List.getElem_cons_zero, List.getElem_cons_succ, List.setIfInBounds_toArray, List.set_cons_zero, List.set_cons_succ]
    refine wpAnyH_done (by kernel_rfl) ?_ _
    have x := Y3.out
    have x23 := YY3.out; have x13 := YY2.out.trans YY3.out
    replace I1 := Lib.hid (I1.out.ext x13); replace I2 := Lib.hid (I2.out.ext x23)
    replace RL := Lib.hid (RL.out.ext x)
    replace RT := Lib.hid (RT.out.ext x)
    replace RR_ := Lib.hid (RR_.out.ext x)
    replace B0 := Lib.hid (x.cell B0.out)
    replace B1 := Lib.hid (x.cell B1.out)
    replace B2 := Lib.hid (x.cell B2.out)
    replace R4 := Lib.hid (R4.out.ext x)
    replace E0 := Lib.hid (x.cell E0.out)
    replace R5 := Lib.hid (R5.out.ext x)
    replace F0 := Lib.hid (x.cell F0.out)
    have X_9 := Lib.hid (X_8.out.trans x)
    clear X_8
    clear x x23 x13 Y1 Y2 Y3 YY1 YY2 YY3 q0_1 q0_2 q0_3 q1_1 q1_2 q1_3 q2_1 q2_2 q2_3 q3_1 q3_2 q3_3
    have e0 := E0.out
    go_wp2_with fail
    refine (wid_c _ _ P xp _ R4.out HBP.out HXP.out).mono ?_
    rintro e y4 ⟨vv, k4, rfl, ii4, x⟩
    obtain ⟨aw4, nw4, cw4, rfl, hnw4, hcw4, hI4⟩ := ii4.out
    have I4 := Lib.hid hI4
    have NW4 := Lib.hid hnw4
    clear ii4 hI4 hnw4 hcw4
    clear e0
    replace RL := Lib.hid (RL.out.ext x)
    replace RT := Lib.hid (RT.out.ext x)
    replace RR_ := Lib.hid (RR_.out.ext x)
    replace B0 := Lib.hid (x.cell B0.out)
    replace B1 := Lib.hid (x.cell B1.out)
    replace B2 := Lib.hid (x.cell B2.out)
    replace R4 := Lib.hid (R4.out.ext x)
    replace E0 := Lib.hid (x.cell E0.out)
    replace R5 := Lib.hid (R5.out.ext x)
    replace F0 := Lib.hid (x.cell F0.out)
    replace I1 := Lib.hid (I1.out.ext x)
    replace I2 := Lib.hid (I2.out.ext x)
    replace I3 := Lib.hid (I3.out.ext x)
    have X_10 := Lib.hid (X_9.out.trans x)
    clear X_9
    clear x
    have e2 : nw2 = lt := NW2.out.trans HLT.out
    have e4 : nw4 = lt := NW4.out.trans HW1.out
    subst e2
    subst e4
    obtain ⟨bb2, ob2, rfl, hc2⟩ := I2.out.at (show 0 < nw4 by omega)
    obtain ⟨bb4, ob4, rfl, hc4⟩ := I4.out.at (show 0 < nw4 by omega)
    have HC2 := Lib.hid hc2; have HC4 := Lib.hid hc4
    clear hc2 hc4
    go_wp2
    go_loop [16, 17] (fun i _ => ∃ k : Nat, k ≤ nw4 ∧ i = .int .i64 k) (fun i _ => nw4 - (intOf i).toNat)
    case atStart => exact ⟨0, Nat.zero_le _, rfl⟩
    case round =>
      obtain ⟨k, hk, rfl⟩ := hrel
      by_cases hlt : k < nw4
      · have t1 : (k : Int) < nw4 := by omega
        have p2 := HC2.out k hlt
        have p4 := HC4.out k hlt
        rw [HW2.out k hlt] at p4
        have b2 := BDT.out k (by rw [HLT.out]; exact hlt)
        obtain ⟨NN, hNN⟩ : ∃ q : Int, q = gi xt k := ⟨_, rfl⟩
        rw [← hNN] at p2 p4 b2
        have hp1 : 0 ≤ (N : Int) * NN := Int.mul_nonneg (by omega) b2.1
        have hp2 : (N : Int) * NN ≤ 8 * 64 := Int.mul_le_mul (by omega) b2.2 b2.1 (by omega)
        obtain ⟨PP, hPP⟩ : ∃ q : Int, q = (N : Int) * NN := ⟨_, rfl⟩
        have w1 : IntKind.i64.wrap ((N : Int) * NN) = PP := by rw [hPP]; exact IntWalk.i64_in _ ⟨by omega, by omega⟩
        rw [← hPP] at p4 hp1 hp2
        obtain ⟨hNw, v1⟩ := HNW.out
        have HLl := HLL.out
        have HLr := HLR.out
        have nl1 := NW1.out
        have nl3 := NW3.out
        by_cases hl0 : L.length = 0
        · rw [if_pos hl0] at p4 HLl
          have hn1 : nw1 = 0 := by omega
          subst hn1
          by_cases hr0 : R.length = 0
          · rw [if_pos hr0] at p4 HLr
            have hn3 : nw3 = 0 := by omega
            subst hn3
            rw [show (0 : Int) + PP + 0 = PP by omega] at p4
            have HH := Lib.hid (And.intro hl0 hr0)
            clear hl0 hr0
            clear HLl HLr nl1 nl3 hNN hPP b2 hp1 hp2
            go_wp2
            go_round
            case rel => exact ⟨k + 1, by omega, by go_num⟩
            case measure => simp [intOf]; omega
          · rw [if_neg hr0] at p4 HLr
            have hn3 : nw3 = nw4 := by omega
            have t3 : (0 : Int) < nw3 := by omega
            obtain ⟨bb3, ob3, hao3, hc3⟩ := I3.out.at (show 0 < nw3 by omega)
            subst hao3
            have p3 := hc3 k (by omega)
            have b3 := BDR.out k (by omega)
            have t3k : (k : Int) < nw3 := by omega
            obtain ⟨DD, hDD⟩ : ∃ q : Int, q = gi xr k := ⟨_, rfl⟩
            rw [← hDD] at p3 p4 b3
            rw [show (0 : Int) + PP + DD = PP + DD by omega] at p4
            have w2 : IntKind.i64.wrap (PP + DD) = PP + DD := IntWalk.i64_in _ ⟨by omega, by omega⟩
            have HH := Lib.hid (And.intro hl0 hr0)
            clear hl0 hr0 hc3 hDD b3 hn3
            clear HLl HLr nl1 nl3 hNN hPP b2 hp1 hp2
            go_wp2
            go_round
            case rel => exact ⟨k + 1, by omega, by go_num⟩
            case measure => simp [intOf]; omega
        · rw [if_neg hl0] at p4 HLl
          have hn1 : nw1 = nw4 := by omega
          have t5 : (0 : Int) < nw1 := by omega
          obtain ⟨bb1, ob1, hao1, hc1⟩ := I1.out.at (show 0 < nw1 by omega)
          subst hao1
          have p1 := hc1 k (by omega)
          have b1 := BDL.out k (by omega)
          have t5k : (k : Int) < nw1 := by omega
          obtain ⟨AA, hAA⟩ : ∃ q : Int, q = gi xl k := ⟨_, rfl⟩
          rw [← hAA] at p1 p4 b1
          have w2 : IntKind.i64.wrap (PP + AA) = PP + AA := IntWalk.i64_in _ ⟨by omega, by omega⟩
          by_cases hr0 : R.length = 0
          · rw [if_pos hr0] at p4 HLr
            have hn3 : nw3 = 0 := by omega
            subst hn3
            rw [show AA + PP + 0 = PP + AA by omega] at p4
            have HH := Lib.hid (And.intro hl0 hr0)
            clear hl0 hr0 hc1 hAA b1 hn1
            clear HLl HLr nl1 nl3 hNN hPP b2 hp1 hp2
            go_wp2
            go_round
            case rel => exact ⟨k + 1, by omega, by go_num⟩
            case measure => simp [intOf]; omega
          · rw [if_neg hr0] at p4 HLr
            have hn3 : nw3 = nw4 := by omega
            have t3 : (0 : Int) < nw3 := by omega
            obtain ⟨bb3, ob3, hao3, hc3⟩ := I3.out.at (show 0 < nw3 by omega)
            subst hao3
            have p3 := hc3 k (by omega)
            have b3 := BDR.out k (by omega)
            have t3k : (k : Int) < nw3 := by omega
            obtain ⟨DD, hDD⟩ : ∃ q : Int, q = gi xr k := ⟨_, rfl⟩
            rw [← hDD] at p3 p4 b3
            rw [show AA + PP + DD = PP + AA + DD by omega] at p4
            have w3 : IntKind.i64.wrap (PP + AA + DD) = PP + AA + DD := IntWalk.i64_in _ ⟨by omega, by omega⟩
            have HH := Lib.hid (And.intro hl0 hr0)
            clear hl0 hr0 hc1 hAA b1 hn1 hc3 hDD b3 hn3
            clear HLl HLr nl1 nl3 hNN hPP b2 hp1 hp2
            go_wp2
            go_round
            case rel => exact ⟨k + 1, by omega, by go_num⟩
            case measure => simp [intOf]; omega
      · have t1 : ¬ (k : Int) < nw4 := by omega
        obtain ⟨hNw, v1⟩ := HNW.out
        obtain ⟨hUw, v2⟩ := HUW.out
        have b0 := B0.out
        have b1 := B1.out
        have b2 := B2.out
        go_wp2_with fail
        refine (stack_c _ _ _ _ _ _ L T R N U _ P2 E2 RL.out RT.out RR_.out HE2.out HP2.out).mono ?_
        rintro e w7 ⟨v7, rfl, o7, r7⟩
        have x := o7.1
        clear o7
        clear b0 b1 b2
        replace RL := Lib.hid (RL.out.ext x)
        replace RT := Lib.hid (RT.out.ext x)
        replace RR_ := Lib.hid (RR_.out.ext x)
        replace B0 := Lib.hid (x.cell B0.out)
        replace B1 := Lib.hid (x.cell B1.out)
        replace B2 := Lib.hid (x.cell B2.out)
        replace R4 := Lib.hid (R4.out.ext x)
        replace E0 := Lib.hid (x.cell E0.out)
        replace R5 := Lib.hid (R5.out.ext x)
        replace F0 := Lib.hid (x.cell F0.out)
        replace I1 := Lib.hid (I1.out.ext x)
        replace I2 := Lib.hid (I2.out.ext x)
        replace I3 := Lib.hid (I3.out.ext x)
        have X_11 := Lib.hid (X_10.out.trans x)
        clear X_10
        clear x
        obtain ⟨a7, m7, hv, j1, j2, j3, j4⟩ := r7.open
        subst hv
        have R7 := Lib.hid r7
        clear r7 j1 j2 j3 j4
        obtain ⟨Wg, hW⟩ : ∃ Wg, Wg = w7.alloc (.cells #[.slice a7 m7 P2.length] 24) := ⟨_, rfl⟩
        have xa : Ext w7 Wg := by rw [hW]; exact (Ext.refl w7).alloc _
        have hba : Wg.heap[w7.heap.size]? = some (Obj.cells #[.slice a7 m7 P2.length] 24 (0, 0)) := by rw [hW]; exact blk_at rfl
        replace RL := Lib.hid (RL.out.ext xa)
        replace RT := Lib.hid (RT.out.ext xa)
        replace RR_ := Lib.hid (RR_.out.ext xa)
        replace B0 := Lib.hid (xa.cell B0.out)
        replace B1 := Lib.hid (xa.cell B1.out)
        replace B2 := Lib.hid (xa.cell B2.out)
        replace R4 := Lib.hid (R4.out.ext xa)
        replace E0 := Lib.hid (xa.cell E0.out)
        replace R5 := Lib.hid (R5.out.ext xa)
        replace F0 := Lib.hid (xa.cell F0.out)
        replace I1 := Lib.hid (I1.out.ext xa)
        replace I2 := Lib.hid (I2.out.ext xa)
        replace I3 := Lib.hid (I3.out.ext xa)
        replace R7 := Lib.hid (R7.out.ext xa)
        have X_12 := Lib.hid (X_11.out.trans xa)
        clear X_11
        have G0 : Hid (Wg.cell? ⟨w7.heap.size, 0, none⟩ = some (.slice a7 m7 P2.length)) := Lib.hid (by simp [World.cell?, hba])
        have HWg := Lib.hid hW
        clear hW xa hba
        have b0 := B0.out
        rw [HWg.out] at b0
        have b1 := B1.out
        rw [HWg.out] at b1
        have b2 := B2.out
        rw [HWg.out] at b2
        go_wp2_with fail
        rw [← HWg.out]
        refine (rstack_c _ _ _ _ _ _ L T R N U _ P2 E2 RL.out RT.out RR_.out (by omega) (by omega) HKY.out HS2.out HQ2.out).mono ?_
        rintro e w8 ⟨v8, d8, rfl, r8, x⟩
        clear hNw v1 hUw v2
        clear b0 b1 b2
        replace RL := Lib.hid (RL.out.ext x)
        replace RT := Lib.hid (RT.out.ext x)
        replace RR_ := Lib.hid (RR_.out.ext x)
        replace B0 := Lib.hid (x.cell B0.out)
        replace B1 := Lib.hid (x.cell B1.out)
        replace B2 := Lib.hid (x.cell B2.out)
        replace R4 := Lib.hid (R4.out.ext x)
        replace E0 := Lib.hid (x.cell E0.out)
        replace R5 := Lib.hid (R5.out.ext x)
        replace F0 := Lib.hid (x.cell F0.out)
        replace I1 := Lib.hid (I1.out.ext x)
        replace I2 := Lib.hid (I2.out.ext x)
        replace I3 := Lib.hid (I3.out.ext x)
        replace R7 := Lib.hid (R7.out.ext x)
        replace G0 := Lib.hid (x.cell G0.out)
        have X_13 := Lib.hid (X_12.out.trans x)
        clear X_12
        clear x
        obtain ⟨a8, m8, hv, j1, j2, j3, j4⟩ := r8.open
        subst hv
        have R8 := Lib.hid r8
        clear r8 j1 j2 j3 j4
        obtain ⟨Wh, hW⟩ : ∃ Wh, Wh = w8.alloc (.cells #[.slice a8 m8 d8] 24) := ⟨_, rfl⟩
        have xa : Ext w8 Wh := by rw [hW]; exact (Ext.refl w8).alloc _
        have hba : Wh.heap[w8.heap.size]? = some (Obj.cells #[.slice a8 m8 d8] 24 (0, 0)) := by rw [hW]; exact blk_at rfl
        replace RL := Lib.hid (RL.out.ext xa)
        replace RT := Lib.hid (RT.out.ext xa)
        replace RR_ := Lib.hid (RR_.out.ext xa)
        replace B0 := Lib.hid (xa.cell B0.out)
        replace B1 := Lib.hid (xa.cell B1.out)
        replace B2 := Lib.hid (xa.cell B2.out)
        replace R4 := Lib.hid (R4.out.ext xa)
        replace E0 := Lib.hid (xa.cell E0.out)
        replace R5 := Lib.hid (R5.out.ext xa)
        replace F0 := Lib.hid (xa.cell F0.out)
        replace I1 := Lib.hid (I1.out.ext xa)
        replace I2 := Lib.hid (I2.out.ext xa)
        replace I3 := Lib.hid (I3.out.ext xa)
        replace R7 := Lib.hid (R7.out.ext xa)
        replace G0 := Lib.hid (xa.cell G0.out)
        replace R8 := Lib.hid (R8.out.ext xa)
        have X_14 := Lib.hid (X_13.out.trans xa)
        clear X_13
        have H0 : Hid (Wh.cell? ⟨w8.heap.size, 0, none⟩ = some (.slice a8 m8 d8)) := Lib.hid (by simp [World.cell?, hba])
        have HWh := Lib.hid hW
        clear hW xa hba
        have g0 := G0.out
        rw [HWh.out] at g0
        have h0 := H0.out
        rw [HWh.out] at h0
        go_wp2_with fail
        rw [← HWh.out]
        refine (df_c _ _ _ _ P2 _ R7.out R8.out).mono ?_
        rintro e w9 ⟨rfl, x⟩
        clear g0 h0
        replace RL := Lib.hid (RL.out.ext x)
        replace RT := Lib.hid (RT.out.ext x)
        replace RR_ := Lib.hid (RR_.out.ext x)
        replace B0 := Lib.hid (x.cell B0.out)
        replace B1 := Lib.hid (x.cell B1.out)
        replace B2 := Lib.hid (x.cell B2.out)
        replace R4 := Lib.hid (R4.out.ext x)
        replace E0 := Lib.hid (x.cell E0.out)
        replace R5 := Lib.hid (R5.out.ext x)
        replace F0 := Lib.hid (x.cell F0.out)
        replace I1 := Lib.hid (I1.out.ext x)
        replace I2 := Lib.hid (I2.out.ext x)
        replace I3 := Lib.hid (I3.out.ext x)
        replace R7 := Lib.hid (R7.out.ext x)
        replace G0 := Lib.hid (x.cell G0.out)
        replace R8 := Lib.hid (R8.out.ext x)
        replace H0 := Lib.hid (x.cell H0.out)
        have X_15 := Lib.hid (X_14.out.trans x)
        clear X_14
        clear x
        go_wp2_with fail
        refine (lives15_calls _).mono ?_
        rintro e w10 ⟨rfl, x⟩
        replace RL := Lib.hid (RL.out.ext x)
        replace RT := Lib.hid (RT.out.ext x)
        replace RR_ := Lib.hid (RR_.out.ext x)
        replace B0 := Lib.hid (x.cell B0.out)
        replace B1 := Lib.hid (x.cell B1.out)
        replace B2 := Lib.hid (x.cell B2.out)
        replace R4 := Lib.hid (R4.out.ext x)
        replace E0 := Lib.hid (x.cell E0.out)
        replace R5 := Lib.hid (R5.out.ext x)
        replace F0 := Lib.hid (x.cell F0.out)
        replace I1 := Lib.hid (I1.out.ext x)
        replace I2 := Lib.hid (I2.out.ext x)
        replace I3 := Lib.hid (I3.out.ext x)
        replace R7 := Lib.hid (R7.out.ext x)
        replace G0 := Lib.hid (x.cell G0.out)
        replace R8 := Lib.hid (R8.out.ext x)
        replace H0 := Lib.hid (x.cell H0.out)
        have X_16 := Lib.hid (X_15.out.trans x)
        clear X_15
        clear x
        go_wp2
        go_ret
        exact ⟨rfl, X_16.out⟩
  · skip
    obtain ⟨hNw, v1⟩ := HNW.out
    obtain ⟨hUw, v2⟩ := HUW.out
    have b0 := B0.out
    have b1 := B1.out
    have b2 := B2.out
    go_wp2_with fail
    refine (stack_c _ _ _ _ _ _ L T R N U _ P2 E2 RL.out RT.out RR_.out HE2.out HP2.out).mono ?_
    rintro e w7 ⟨v7, rfl, o7, r7⟩
    have x := o7.1
    clear o7
    clear b0 b1 b2
    replace RL := Lib.hid (RL.out.ext x)
    replace RT := Lib.hid (RT.out.ext x)
    replace RR_ := Lib.hid (RR_.out.ext x)
    replace B0 := Lib.hid (x.cell B0.out)
    replace B1 := Lib.hid (x.cell B1.out)
    replace B2 := Lib.hid (x.cell B2.out)
    replace R4 := Lib.hid (R4.out.ext x)
    replace E0 := Lib.hid (x.cell E0.out)
    replace R5 := Lib.hid (R5.out.ext x)
    replace F0 := Lib.hid (x.cell F0.out)
    have X_9 := Lib.hid (X_8.out.trans x)
    clear X_8
    clear x
    obtain ⟨a7, m7, hv, j1, j2, j3, j4⟩ := r7.open
    subst hv
    have R7 := Lib.hid r7
    clear r7 j1 j2 j3 j4
    obtain ⟨Wg, hW⟩ : ∃ Wg, Wg = w7.alloc (.cells #[.slice a7 m7 P2.length] 24) := ⟨_, rfl⟩
    have xa : Ext w7 Wg := by rw [hW]; exact (Ext.refl w7).alloc _
    have hba : Wg.heap[w7.heap.size]? = some (Obj.cells #[.slice a7 m7 P2.length] 24 (0, 0)) := by rw [hW]; exact blk_at rfl
    replace RL := Lib.hid (RL.out.ext xa)
    replace RT := Lib.hid (RT.out.ext xa)
    replace RR_ := Lib.hid (RR_.out.ext xa)
    replace B0 := Lib.hid (xa.cell B0.out)
    replace B1 := Lib.hid (xa.cell B1.out)
    replace B2 := Lib.hid (xa.cell B2.out)
    replace R4 := Lib.hid (R4.out.ext xa)
    replace E0 := Lib.hid (xa.cell E0.out)
    replace R5 := Lib.hid (R5.out.ext xa)
    replace F0 := Lib.hid (xa.cell F0.out)
    replace R7 := Lib.hid (R7.out.ext xa)
    have X_10 := Lib.hid (X_9.out.trans xa)
    clear X_9
    have G0 : Hid (Wg.cell? ⟨w7.heap.size, 0, none⟩ = some (.slice a7 m7 P2.length)) := Lib.hid (by simp [World.cell?, hba])
    have HWg := Lib.hid hW
    clear hW xa hba
    have b0 := B0.out
    rw [HWg.out] at b0
    have b1 := B1.out
    rw [HWg.out] at b1
    have b2 := B2.out
    rw [HWg.out] at b2
    go_wp2_with fail
    rw [← HWg.out]
    refine (rstack_c _ _ _ _ _ _ L T R N U _ P2 E2 RL.out RT.out RR_.out (by omega) (by omega) HKY.out HS2.out HQ2.out).mono ?_
    rintro e w8 ⟨v8, d8, rfl, r8, x⟩
    clear hNw v1 hUw v2
    clear b0 b1 b2
    replace RL := Lib.hid (RL.out.ext x)
    replace RT := Lib.hid (RT.out.ext x)
    replace RR_ := Lib.hid (RR_.out.ext x)
    replace B0 := Lib.hid (x.cell B0.out)
    replace B1 := Lib.hid (x.cell B1.out)
    replace B2 := Lib.hid (x.cell B2.out)
    replace R4 := Lib.hid (R4.out.ext x)
    replace E0 := Lib.hid (x.cell E0.out)
    replace R5 := Lib.hid (R5.out.ext x)
    replace F0 := Lib.hid (x.cell F0.out)
    replace R7 := Lib.hid (R7.out.ext x)
    replace G0 := Lib.hid (x.cell G0.out)
    have X_11 := Lib.hid (X_10.out.trans x)
    clear X_10
    clear x
    obtain ⟨a8, m8, hv, j1, j2, j3, j4⟩ := r8.open
    subst hv
    have R8 := Lib.hid r8
    clear r8 j1 j2 j3 j4
    obtain ⟨Wh, hW⟩ : ∃ Wh, Wh = w8.alloc (.cells #[.slice a8 m8 d8] 24) := ⟨_, rfl⟩
    have xa : Ext w8 Wh := by rw [hW]; exact (Ext.refl w8).alloc _
    have hba : Wh.heap[w8.heap.size]? = some (Obj.cells #[.slice a8 m8 d8] 24 (0, 0)) := by rw [hW]; exact blk_at rfl
    replace RL := Lib.hid (RL.out.ext xa)
    replace RT := Lib.hid (RT.out.ext xa)
    replace RR_ := Lib.hid (RR_.out.ext xa)
    replace B0 := Lib.hid (xa.cell B0.out)
    replace B1 := Lib.hid (xa.cell B1.out)
    replace B2 := Lib.hid (xa.cell B2.out)
    replace R4 := Lib.hid (R4.out.ext xa)
    replace E0 := Lib.hid (xa.cell E0.out)
    replace R5 := Lib.hid (R5.out.ext xa)
    replace F0 := Lib.hid (xa.cell F0.out)
    replace R7 := Lib.hid (R7.out.ext xa)
    replace G0 := Lib.hid (xa.cell G0.out)
    replace R8 := Lib.hid (R8.out.ext xa)
    have X_12 := Lib.hid (X_11.out.trans xa)
    clear X_11
    have H0 : Hid (Wh.cell? ⟨w8.heap.size, 0, none⟩ = some (.slice a8 m8 d8)) := Lib.hid (by simp [World.cell?, hba])
    have HWh := Lib.hid hW
    clear hW xa hba
    have g0 := G0.out
    rw [HWh.out] at g0
    have h0 := H0.out
    rw [HWh.out] at h0
    go_wp2_with fail
    rw [← HWh.out]
    refine (df_c _ _ _ _ P2 _ R7.out R8.out).mono ?_
    rintro e w9 ⟨rfl, x⟩
    clear g0 h0
    replace RL := Lib.hid (RL.out.ext x)
    replace RT := Lib.hid (RT.out.ext x)
    replace RR_ := Lib.hid (RR_.out.ext x)
    replace B0 := Lib.hid (x.cell B0.out)
    replace B1 := Lib.hid (x.cell B1.out)
    replace B2 := Lib.hid (x.cell B2.out)
    replace R4 := Lib.hid (R4.out.ext x)
    replace E0 := Lib.hid (x.cell E0.out)
    replace R5 := Lib.hid (R5.out.ext x)
    replace F0 := Lib.hid (x.cell F0.out)
    replace R7 := Lib.hid (R7.out.ext x)
    replace G0 := Lib.hid (x.cell G0.out)
    replace R8 := Lib.hid (R8.out.ext x)
    replace H0 := Lib.hid (x.cell H0.out)
    have X_13 := Lib.hid (X_12.out.trans x)
    clear X_12
    clear x
    go_wp2_with fail
    refine (lives15_calls _).mono ?_
    rintro e w10 ⟨rfl, x⟩
    replace RL := Lib.hid (RL.out.ext x)
    replace RT := Lib.hid (RT.out.ext x)
    replace RR_ := Lib.hid (RR_.out.ext x)
    replace B0 := Lib.hid (x.cell B0.out)
    replace B1 := Lib.hid (x.cell B1.out)
    replace B2 := Lib.hid (x.cell B2.out)
    replace R4 := Lib.hid (R4.out.ext x)
    replace E0 := Lib.hid (x.cell E0.out)
    replace R5 := Lib.hid (R5.out.ext x)
    replace F0 := Lib.hid (x.cell F0.out)
    replace R7 := Lib.hid (R7.out.ext x)
    replace G0 := Lib.hid (x.cell G0.out)
    replace R8 := Lib.hid (R8.out.ext x)
    replace H0 := Lib.hid (x.cell H0.out)
    have X_14 := Lib.hid (X_13.out.trans x)
    clear X_13
    clear x
    go_wp2
    go_ret
    exact ⟨rfl, X_14.out⟩
  · skip
    obtain ⟨hNw, v1⟩ := HNW.out
    obtain ⟨hUw, v2⟩ := HUW.out
    have b0 := B0.out
    have b1 := B1.out
    have b2 := B2.out
    go_wp2_with fail
    refine (stack_c _ _ _ _ _ _ L T R N U _ P2 E2 RL.out RT.out RR_.out HE2.out HP2.out).mono ?_
    rintro e w7 ⟨v7, rfl, o7, r7⟩
    have x := o7.1
    clear o7
    clear b0 b1 b2
    replace RL := Lib.hid (RL.out.ext x)
    replace RT := Lib.hid (RT.out.ext x)
    replace RR_ := Lib.hid (RR_.out.ext x)
    replace B0 := Lib.hid (x.cell B0.out)
    replace B1 := Lib.hid (x.cell B1.out)
    replace B2 := Lib.hid (x.cell B2.out)
    replace R4 := Lib.hid (R4.out.ext x)
    replace E0 := Lib.hid (x.cell E0.out)
    replace R5 := Lib.hid (R5.out.ext x)
    replace F0 := Lib.hid (x.cell F0.out)
    have X_9 := Lib.hid (X_8.out.trans x)
    clear X_8
    clear x
    obtain ⟨a7, m7, hv, j1, j2, j3, j4⟩ := r7.open
    subst hv
    have R7 := Lib.hid r7
    clear r7 j1 j2 j3 j4
    obtain ⟨Wg, hW⟩ : ∃ Wg, Wg = w7.alloc (.cells #[.slice a7 m7 P2.length] 24) := ⟨_, rfl⟩
    have xa : Ext w7 Wg := by rw [hW]; exact (Ext.refl w7).alloc _
    have hba : Wg.heap[w7.heap.size]? = some (Obj.cells #[.slice a7 m7 P2.length] 24 (0, 0)) := by rw [hW]; exact blk_at rfl
    replace RL := Lib.hid (RL.out.ext xa)
    replace RT := Lib.hid (RT.out.ext xa)
    replace RR_ := Lib.hid (RR_.out.ext xa)
    replace B0 := Lib.hid (xa.cell B0.out)
    replace B1 := Lib.hid (xa.cell B1.out)
    replace B2 := Lib.hid (xa.cell B2.out)
    replace R4 := Lib.hid (R4.out.ext xa)
    replace E0 := Lib.hid (xa.cell E0.out)
    replace R5 := Lib.hid (R5.out.ext xa)
    replace F0 := Lib.hid (xa.cell F0.out)
    replace R7 := Lib.hid (R7.out.ext xa)
    have X_10 := Lib.hid (X_9.out.trans xa)
    clear X_9
    have G0 : Hid (Wg.cell? ⟨w7.heap.size, 0, none⟩ = some (.slice a7 m7 P2.length)) := Lib.hid (by simp [World.cell?, hba])
    have HWg := Lib.hid hW
    clear hW xa hba
    have b0 := B0.out
    rw [HWg.out] at b0
    have b1 := B1.out
    rw [HWg.out] at b1
    have b2 := B2.out
    rw [HWg.out] at b2
    go_wp2_with fail
    rw [← HWg.out]
    refine (rstack_c _ _ _ _ _ _ L T R N U _ P2 E2 RL.out RT.out RR_.out (by omega) (by omega) HKY.out HS2.out HQ2.out).mono ?_
    rintro e w8 ⟨v8, d8, rfl, r8, x⟩
    clear hNw v1 hUw v2
    clear b0 b1 b2
    replace RL := Lib.hid (RL.out.ext x)
    replace RT := Lib.hid (RT.out.ext x)
    replace RR_ := Lib.hid (RR_.out.ext x)
    replace B0 := Lib.hid (x.cell B0.out)
    replace B1 := Lib.hid (x.cell B1.out)
    replace B2 := Lib.hid (x.cell B2.out)
    replace R4 := Lib.hid (R4.out.ext x)
    replace E0 := Lib.hid (x.cell E0.out)
    replace R5 := Lib.hid (R5.out.ext x)
    replace F0 := Lib.hid (x.cell F0.out)
    replace R7 := Lib.hid (R7.out.ext x)
    replace G0 := Lib.hid (x.cell G0.out)
    have X_11 := Lib.hid (X_10.out.trans x)
    clear X_10
    clear x
    obtain ⟨a8, m8, hv, j1, j2, j3, j4⟩ := r8.open
    subst hv
    have R8 := Lib.hid r8
    clear r8 j1 j2 j3 j4
    obtain ⟨Wh, hW⟩ : ∃ Wh, Wh = w8.alloc (.cells #[.slice a8 m8 d8] 24) := ⟨_, rfl⟩
    have xa : Ext w8 Wh := by rw [hW]; exact (Ext.refl w8).alloc _
    have hba : Wh.heap[w8.heap.size]? = some (Obj.cells #[.slice a8 m8 d8] 24 (0, 0)) := by rw [hW]; exact blk_at rfl
    replace RL := Lib.hid (RL.out.ext xa)
    replace RT := Lib.hid (RT.out.ext xa)
    replace RR_ := Lib.hid (RR_.out.ext xa)
    replace B0 := Lib.hid (xa.cell B0.out)
    replace B1 := Lib.hid (xa.cell B1.out)
    replace B2 := Lib.hid (xa.cell B2.out)
    replace R4 := Lib.hid (R4.out.ext xa)
    replace E0 := Lib.hid (xa.cell E0.out)
    replace R5 := Lib.hid (R5.out.ext xa)
    replace F0 := Lib.hid (xa.cell F0.out)
    replace R7 := Lib.hid (R7.out.ext xa)
    replace G0 := Lib.hid (xa.cell G0.out)
    replace R8 := Lib.hid (R8.out.ext xa)
    have X_12 := Lib.hid (X_11.out.trans xa)
    clear X_11
    have H0 : Hid (Wh.cell? ⟨w8.heap.size, 0, none⟩ = some (.slice a8 m8 d8)) := Lib.hid (by simp [World.cell?, hba])
    have HWh := Lib.hid hW
    clear hW xa hba
    have g0 := G0.out
    rw [HWh.out] at g0
    have h0 := H0.out
    rw [HWh.out] at h0
    go_wp2_with fail
    rw [← HWh.out]
    refine (df_c _ _ _ _ P2 _ R7.out R8.out).mono ?_
    rintro e w9 ⟨rfl, x⟩
    clear g0 h0
    replace RL := Lib.hid (RL.out.ext x)
    replace RT := Lib.hid (RT.out.ext x)
    replace RR_ := Lib.hid (RR_.out.ext x)
    replace B0 := Lib.hid (x.cell B0.out)
    replace B1 := Lib.hid (x.cell B1.out)
    replace B2 := Lib.hid (x.cell B2.out)
    replace R4 := Lib.hid (R4.out.ext x)
    replace E0 := Lib.hid (x.cell E0.out)
    replace R5 := Lib.hid (R5.out.ext x)
    replace F0 := Lib.hid (x.cell F0.out)
    replace R7 := Lib.hid (R7.out.ext x)
    replace G0 := Lib.hid (x.cell G0.out)
    replace R8 := Lib.hid (R8.out.ext x)
    replace H0 := Lib.hid (x.cell H0.out)
    have X_13 := Lib.hid (X_12.out.trans x)
    clear X_12
    clear x
    go_wp2_with fail
    refine (lives15_calls _).mono ?_
    rintro e w10 ⟨rfl, x⟩
    replace RL := Lib.hid (RL.out.ext x)
    replace RT := Lib.hid (RT.out.ext x)
    replace RR_ := Lib.hid (RR_.out.ext x)
    replace B0 := Lib.hid (x.cell B0.out)
    replace B1 := Lib.hid (x.cell B1.out)
    replace B2 := Lib.hid (x.cell B2.out)
    replace R4 := Lib.hid (R4.out.ext x)
    replace E0 := Lib.hid (x.cell E0.out)
    replace R5 := Lib.hid (R5.out.ext x)
    replace F0 := Lib.hid (x.cell F0.out)
    replace R7 := Lib.hid (R7.out.ext x)
    replace G0 := Lib.hid (x.cell G0.out)
    replace R8 := Lib.hid (R8.out.ext x)
    replace H0 := Lib.hid (x.cell H0.out)
    have X_14 := Lib.hid (X_13.out.trans x)
    clear X_13
    clear x
    go_wp2
    go_ret
    exact ⟨rfl, X_14.out⟩
  · skip
    obtain ⟨hNw, v1⟩ := HNW.out
    obtain ⟨hUw, v2⟩ := HUW.out
    have b0 := B0.out
    have b1 := B1.out
    have b2 := B2.out
    go_wp2_with fail
    refine (stack_c _ _ _ _ _ _ L T R N U _ P2 E2 RL.out RT.out RR_.out HE2.out HP2.out).mono ?_
    rintro e w7 ⟨v7, rfl, o7, r7⟩
    have x := o7.1
    clear o7
    clear b0 b1 b2
    replace RL := Lib.hid (RL.out.ext x)
    replace RT := Lib.hid (RT.out.ext x)
    replace RR_ := Lib.hid (RR_.out.ext x)
    replace B0 := Lib.hid (x.cell B0.out)
    replace B1 := Lib.hid (x.cell B1.out)
    replace B2 := Lib.hid (x.cell B2.out)
    replace R4 := Lib.hid (R4.out.ext x)
    replace E0 := Lib.hid (x.cell E0.out)
    replace R5 := Lib.hid (R5.out.ext x)
    replace F0 := Lib.hid (x.cell F0.out)
    have X_9 := Lib.hid (X_8.out.trans x)
    clear X_8
    clear x
    obtain ⟨a7, m7, hv, j1, j2, j3, j4⟩ := r7.open
    subst hv
    have R7 := Lib.hid r7
    clear r7 j1 j2 j3 j4
    obtain ⟨Wg, hW⟩ : ∃ Wg, Wg = w7.alloc (.cells #[.slice a7 m7 P2.length] 24) := ⟨_, rfl⟩
    have xa : Ext w7 Wg := by rw [hW]; exact (Ext.refl w7).alloc _
    have hba : Wg.heap[w7.heap.size]? = some (Obj.cells #[.slice a7 m7 P2.length] 24 (0, 0)) := by rw [hW]; exact blk_at rfl
    replace RL := Lib.hid (RL.out.ext xa)
    replace RT := Lib.hid (RT.out.ext xa)
    replace RR_ := Lib.hid (RR_.out.ext xa)
    replace B0 := Lib.hid (xa.cell B0.out)
    replace B1 := Lib.hid (xa.cell B1.out)
    replace B2 := Lib.hid (xa.cell B2.out)
    replace R4 := Lib.hid (R4.out.ext xa)
    replace E0 := Lib.hid (xa.cell E0.out)
    replace R5 := Lib.hid (R5.out.ext xa)
    replace F0 := Lib.hid (xa.cell F0.out)
    replace R7 := Lib.hid (R7.out.ext xa)
    have X_10 := Lib.hid (X_9.out.trans xa)
    clear X_9
    have G0 : Hid (Wg.cell? ⟨w7.heap.size, 0, none⟩ = some (.slice a7 m7 P2.length)) := Lib.hid (by simp [World.cell?, hba])
    have HWg := Lib.hid hW
    clear hW xa hba
    have b0 := B0.out
    rw [HWg.out] at b0
    have b1 := B1.out
    rw [HWg.out] at b1
    have b2 := B2.out
    rw [HWg.out] at b2
    go_wp2_with fail
    rw [← HWg.out]
    refine (rstack_c _ _ _ _ _ _ L T R N U _ P2 E2 RL.out RT.out RR_.out (by omega) (by omega) HKY.out HS2.out HQ2.out).mono ?_
    rintro e w8 ⟨v8, d8, rfl, r8, x⟩
    clear hNw v1 hUw v2
    clear b0 b1 b2
    replace RL := Lib.hid (RL.out.ext x)
    replace RT := Lib.hid (RT.out.ext x)
    replace RR_ := Lib.hid (RR_.out.ext x)
    replace B0 := Lib.hid (x.cell B0.out)
    replace B1 := Lib.hid (x.cell B1.out)
    replace B2 := Lib.hid (x.cell B2.out)
    replace R4 := Lib.hid (R4.out.ext x)
    replace E0 := Lib.hid (x.cell E0.out)
    replace R5 := Lib.hid (R5.out.ext x)
    replace F0 := Lib.hid (x.cell F0.out)
    replace R7 := Lib.hid (R7.out.ext x)
    replace G0 := Lib.hid (x.cell G0.out)
    have X_11 := Lib.hid (X_10.out.trans x)
    clear X_10
    clear x
    obtain ⟨a8, m8, hv, j1, j2, j3, j4⟩ := r8.open
    subst hv
    have R8 := Lib.hid r8
    clear r8 j1 j2 j3 j4
    obtain ⟨Wh, hW⟩ : ∃ Wh, Wh = w8.alloc (.cells #[.slice a8 m8 d8] 24) := ⟨_, rfl⟩
    have xa : Ext w8 Wh := by rw [hW]; exact (Ext.refl w8).alloc _
    have hba : Wh.heap[w8.heap.size]? = some (Obj.cells #[.slice a8 m8 d8] 24 (0, 0)) := by rw [hW]; exact blk_at rfl
    replace RL := Lib.hid (RL.out.ext xa)
    replace RT := Lib.hid (RT.out.ext xa)
    replace RR_ := Lib.hid (RR_.out.ext xa)
    replace B0 := Lib.hid (xa.cell B0.out)
    replace B1 := Lib.hid (xa.cell B1.out)
    replace B2 := Lib.hid (xa.cell B2.out)
    replace R4 := Lib.hid (R4.out.ext xa)
    replace E0 := Lib.hid (xa.cell E0.out)
    replace R5 := Lib.hid (R5.out.ext xa)
    replace F0 := Lib.hid (xa.cell F0.out)
    replace R7 := Lib.hid (R7.out.ext xa)
    replace G0 := Lib.hid (xa.cell G0.out)
    replace R8 := Lib.hid (R8.out.ext xa)
    have X_12 := Lib.hid (X_11.out.trans xa)
    clear X_11
    have H0 : Hid (Wh.cell? ⟨w8.heap.size, 0, none⟩ = some (.slice a8 m8 d8)) := Lib.hid (by simp [World.cell?, hba])
    have HWh := Lib.hid hW
    clear hW xa hba
    have g0 := G0.out
    rw [HWh.out] at g0
    have h0 := H0.out
    rw [HWh.out] at h0
    go_wp2_with fail
    rw [← HWh.out]
    refine (df_c _ _ _ _ P2 _ R7.out R8.out).mono ?_
    rintro e w9 ⟨rfl, x⟩
    clear g0 h0
    replace RL := Lib.hid (RL.out.ext x)
    replace RT := Lib.hid (RT.out.ext x)
    replace RR_ := Lib.hid (RR_.out.ext x)
    replace B0 := Lib.hid (x.cell B0.out)
    replace B1 := Lib.hid (x.cell B1.out)
    replace B2 := Lib.hid (x.cell B2.out)
    replace R4 := Lib.hid (R4.out.ext x)
    replace E0 := Lib.hid (x.cell E0.out)
    replace R5 := Lib.hid (R5.out.ext x)
    replace F0 := Lib.hid (x.cell F0.out)
    replace R7 := Lib.hid (R7.out.ext x)
    replace G0 := Lib.hid (x.cell G0.out)
    replace R8 := Lib.hid (R8.out.ext x)
    replace H0 := Lib.hid (x.cell H0.out)
    have X_13 := Lib.hid (X_12.out.trans x)
    clear X_12
    clear x
    go_wp2_with fail
    refine (lives15_calls _).mono ?_
    rintro e w10 ⟨rfl, x⟩
    replace RL := Lib.hid (RL.out.ext x)
    replace RT := Lib.hid (RT.out.ext x)
    replace RR_ := Lib.hid (RR_.out.ext x)
    replace B0 := Lib.hid (x.cell B0.out)
    replace B1 := Lib.hid (x.cell B1.out)
    replace B2 := Lib.hid (x.cell B2.out)
    replace R4 := Lib.hid (R4.out.ext x)
    replace E0 := Lib.hid (x.cell E0.out)
    replace R5 := Lib.hid (R5.out.ext x)
    replace F0 := Lib.hid (x.cell F0.out)
    replace R7 := Lib.hid (R7.out.ext x)
    replace G0 := Lib.hid (x.cell G0.out)
    replace R8 := Lib.hid (R8.out.ext x)
    replace H0 := Lib.hid (x.cell H0.out)
    have X_14 := Lib.hid (X_13.out.trans x)
    clear X_13
    clear x
    go_wp2
    go_ret
    exact ⟨rfl, X_14.out⟩
end Go.Proofs.Ytlmkcojimhbmiaa
