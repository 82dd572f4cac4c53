/- loops.check, loops.Check, fabrics.Check. -/
import Derived.Test.YtlhkehfplcclgaaDoorVt
namespace Go.Proofs.YtlhkehfplcclgaaDoor
set_option linter.unusedVariables false
set_option linter.unusedSimpArgs false
set_option maxRecDepth 8000
open Go Go.RowKit

/-- A table that may be valid: each loop is right, nothing is pulled through twice, the loops can be made one by one. -/
structure OKT (t : Tab) : Prop where
  r : RightT t
  nd : (thrT t).Nodup
  ac : ∃ rk, Acyc t rk
  c9 : cntT t ≤ 2048
def lchk (t : Tab) : Int := if t.length = 6 then (if newB t then 0 else 1) else 5
/-- A value, and an error. -/
def RetVE (w : World) (e : Int) (en : Ending) (w' : World) : Prop := ∃ v, en = .returned (.tuple #[v, .int .i64 e]) ∧ Ext w w'
theorem ChkC_calls (tv : Value) (ct : Nat) (t : Tab) (w : World) (h : TB w tv ct t) (hk : t.length = 6 → OKT t) :
    Calls Tryd.prog 63 #[tv] w (RetVE w (lchk t)) := by
  obtain ⟨ta, tn, rfl, htn, htc, ht9, htt⟩ := h.open
  by_cases h6 : t.length = 6
  · have ok := hk h6
    obtain ⟨rk, hac⟩ := ok.ac
    have HC := Lib.hid (fun w' (x : Ext w w') => CountL_calls _ ct t w' (h.ext x) ok.r.n4 ok.r.n5)
    have hHL := (fun w' (x : Ext w w') => ChkL_calls _ ct t w' (h.ext x) ok.r)
    have HT := Lib.hid (fun w' (x : Ext w w') => ChkT_calls _ ct t w' (h.ext x) ok.r ok.nd)
    have HF := Lib.hid (fun w' (x : Ext w w') => First_calls _ ct t rk w' (h.ext x) ok.r hac)
    have hR : lchk t = if newB t then 0 else 1 := if_pos h6
    rw [hR]
    obtain ⟨L, hL⟩ : ∃ L : Int, L = if newB t then 0 else 1 := ⟨_, rfl⟩
    have hL01 : L = 0 ∨ L = 1 := by rw [hL]; split <;> simp
    have HL := Lib.hid (show ∀ w', Ext w w' → Calls Tryd.prog 73 #[.slice ta tn ct] w' fun e w'' => e = .returned (.int .i64 L) ∧ Ext w' w'' by rw [hL]; exact hHL)
    clear hHL
    rw [← hL]
    have c1 : ¬ (2048 : Int) < cntT t := by have := ok.c9; omega
    have c0 := (cntT_bd ok.r.n5).1
    obtain ⟨C, hC⟩ : ∃ C, C = cntT t := ⟨_, rfl⟩
    rw [← hC] at c0 c1
    have hcn : C ≤ 2048 := by omega
    have HCo := Lib.hid (show ∀ w', Ext w w' → Calls Tryd.prog 72 #[.slice ta tn ct] w' fun e w'' => e = .returned (.int .i64 C) ∧ w'' = w' by rw [hC]; exact HC.out)
    have hC2 := Lib.hid hC
    obtain rfl : tn = 6 := by omega
    clear hC HC htt h hk ok hac hR h6 htn hL
    go_enter Tryd.func63, Tryd.ntmps63
    go_wp2_with fail
    refine (HCo.out w (Ext.refl _)).mono ?_
    rintro e w' ⟨rfl, rfl⟩
    go_wp2_with fail
    refine (HL.out w' (Ext.refl _)).mono ?_
    rintro e w1 ⟨rfl, x1⟩
    have X1 := Lib.hid x1
    clear x1
    rcases hL01 with rfl | rfl
    · go_wp2_with fail
      refine (HT.out w1 X1.out).mono ?_
      rintro e w2 ⟨rfl, x2⟩
      have X2 := Lib.hid (X1.out.trans x2)
      clear x2
      go_wp2_with fail
      refine (HF.out w2 X2.out).mono ?_
      rintro e w3 ⟨v, n, rfl, hn, ⟨ns, hns, hown⟩, x3⟩
      have X3 := Lib.hid (X2.out.trans x3)
      obtain ⟨a1, c1', rfl, _⟩ := own_slice hown
      obtain ⟨cc, hck⟩ := CK.of_own hown (Ks.nm ns) (by simp [hns]) (by decide)
      rw [← hC2.out] at hn
      have hns9 : ns.length ≤ 1000000 := by omega
      have HCp := Lib.hid (fun w' (x : Ext w3 w') => LCopN_calls _ cc (ns.map Nm.cs) w' (hck.ext x) (Ks.nm ns) (by simpa using hns9))
      have n1 : ¬ (n : Int) < C := by omega
      clear x3 hown hck hns hn hC2
      go_wp2_with fail
      refine (HCo.out w3 X3.out).mono ?_
      rintro e w4 ⟨rfl, rfl⟩
      go_wp2_with fail
      refine (HCp.out w4 (Ext.refl _)).mono ?_
      rintro e w5 ⟨g, m, hm, rfl, _, _, x5⟩
      have X5 := Lib.hid (X3.out.trans x5)
      clear x5 hm
      go_wp2
      go_ret2
      exact ⟨_, rfl, X5.out⟩
    · go_wp2
      go_ret2
      exact ⟨_, rfl, X1.out⟩
  · have hR : lchk t = 5 := if_neg h6
    rw [hR]
    have c1 : ((tn : Int) != 6) = true := by rw [bne, beq_eq_false_iff_ne.2 (by omega)]; rfl
    clear hR h6 htt hk h htn
    go_enter Tryd.func63, Tryd.ntmps63
    go_wp2
    go_ret2
    exact ⟨_, rfl, Ext.refl _⟩
theorem LCheck_calls (tv : Value) (ct : Nat) (t : Tab) (w : World) (h : TB w tv ct t) (hk : t.length = 6 → OKT t) :
    Calls Tryd.prog 44 #[tv] w fun e w' => e = .returned (.int .i64 (lchk t)) ∧ Ext w w' := by
  have HC := Lib.hid (ChkC_calls tv ct t w h hk)
  clear h hk
  go_enter Tryd.func44, Tryd.ntmps44
  go_wp2_with fail
  refine HC.out.mono ?_
  rintro e w' ⟨v, rfl, x⟩
  have X := Lib.hid x
  clear x
  go_wp2
  go_ret
  exact ⟨rfl, X.out⟩
/-- Check. -/
def fchk (f : Fab) : Int := if lchk f.ys = 0 then (if cchk f.ys f.cr = 0 then pchk f else cchk f.ys f.cr) else lchk f.ys
theorem Check_calls (tv cv hv fv : Value) (f : Fab) (w : World) (h : FB w tv cv hv fv f) (hin : FIn f) (hk : f.ys.length = 6 → OKT f.ys) :
    Calls Tryd.prog 14 #[.agg #[tv, cv, hv, fv]] w fun e w' => e = .returned (.int .i64 (fchk f)) ∧ Ext w w' := by
  obtain ⟨ct, hT⟩ := h.t
  have HL := Lib.hid (fun w' (x : Ext w w') => LCheck_calls tv ct f.ys w' (hT.ext x) hk)
  have HX := Lib.hid (fun w' (x : Ext w w') => ChkX_calls tv cv hv fv f w' (h.ext x) hin.cr (by have := hin.n3; omega))
  have HP := Lib.hid (fun w' (x : Ext w w') => ChkP_calls tv cv hv fv f w' (h.ext x) hin)
  obtain ⟨ta, tn, rfl, o1, _, _, _⟩ := hT.open
  obtain ⟨cc, hC⟩ := h.c
  obtain ⟨ca, cn, rfl, o2, _, _, _⟩ := hC.open
  obtain ⟨ch, hH⟩ := h.h
  obtain ⟨ha, hn, rfl, o3, _, _, _⟩ := hH.open
  obtain ⟨cf, hF⟩ := h.f
  obtain ⟨fa, fn, rfl, o4, _, _, _⟩ := hF.open
  obtain ⟨W, hW⟩ : ∃ W, W = w.alloc (.cells #[.slice ta tn ct, .slice ca cn cc, .slice ha hn ch, .slice fa fn cf] 35) := ⟨_, rfl⟩
  have XW := Lib.hid (show Ext w W by rw [hW]; exact (Ext.refl _).alloc _)
  have HB := Lib.hid (show B4 W w.heap.size (.slice ta tn ct) (.slice ca cn cc) (.slice ha hn ch) (.slice fa fn cf) 35 by rw [hW]; exact B4.new _ _ _ _ _ _)
  have HW := Lib.hid hW
  obtain ⟨R, hR⟩ : ∃ R, R = fchk f := ⟨_, rfl⟩
  have HR := Lib.hid (show R = if lchk f.ys = 0 then (if cchk f.ys f.cr = 0 then pchk f else cchk f.ys f.cr) else lchk f.ys from hR)
  rw [← hR]
  clear hW hR hT h hin hk hC hH hF o1 o2 o3 o4
  go_enter Tryd.func14, Tryd.ntmps14
  go_wp2_with fail
  rw [← HW.out]
  refine (HL.out W XW.out).mono ?_
  rintro e w1 ⟨rfl, x1⟩
  have X1 := Lib.hid (XW.out.trans x1)
  have B1 := HB.out.ext x1
  have p0 := B1.c0; have p1 := B1.c1; have p2 := B1.c2; have p3 := B1.c3
  have HB1 := Lib.hid B1
  clear x1 B1
  obtain ⟨L, hL⟩ : ∃ L, L = lchk f.ys := ⟨_, rfl⟩
  rw [← hL]
  have HL2 := Lib.hid hL
  clear hL
  by_cases hl0 : L = 0
  case neg =>
    have q1 : (L != 0) = true := by rw [bne, beq_eq_false_iff_ne.2 hl0]; rfl
    have HRv := Lib.hid (show R = L by rw [HR.out, ← HL2.out, if_neg hl0])
    go_wp2
    go_ret
    exact ⟨ret_int (by rw [HRv.out]), X1.out⟩
  have q1 : (L != 0) = false := by rw [hl0]; rfl
  have HRv := Lib.hid (show R = if cchk f.ys f.cr = 0 then pchk f else cchk f.ys f.cr by rw [HR.out, ← HL2.out, if_pos hl0])
  clear hl0 HL2 HR
  go_wp2_with fail
  clear p0 p1 p2 p3
  refine (HX.out w1 X1.out).mono ?_
  rintro e w2 ⟨rfl, x2⟩
  have X2 := Lib.hid (X1.out.trans x2)
  have B2 := HB1.out.ext x2
  have p0 := B2.c0; have p1 := B2.c1; have p2 := B2.c2; have p3 := B2.c3
  clear x2 B2
  obtain ⟨C, hC⟩ : ∃ C, C = cchk f.ys f.cr := ⟨_, rfl⟩
  rw [← hC] at HRv ⊢
  clear hC
  by_cases hc0 : C = 0
  case neg =>
    have q2 : (C != 0) = true := by rw [bne, beq_eq_false_iff_ne.2 hc0]; rfl
    have HRv := Lib.hid (show R = C by rw [HRv.out, if_neg hc0])
    go_wp2
    go_ret
    exact ⟨ret_int (by rw [HRv.out]), X2.out⟩
  have q2 : (C != 0) = false := by rw [hc0]; rfl
  have HRw := Lib.hid (show R = pchk f by rw [HRv.out, if_pos hc0])
  clear hc0 HRv
  go_wp2_with fail
  clear p0 p1 p2 p3
  refine (HP.out w2 X2.out).mono ?_
  rintro e w3 ⟨rfl, x3⟩
  have X3 := Lib.hid (X2.out.trans x3)
  clear x3
  rw [← HRw.out]
  go_wp2
  go_ret
  exact ⟨rfl, X3.out⟩
end Go.Proofs.YtlhkehfplcclgaaDoor
