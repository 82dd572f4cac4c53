/- Texts of this claim in one file: libraries and walks. -/
import Derived.BigQuiet
import Derived.Test.YthllbcjglcplhaaDoorL13
import Derived.Test.YthllbcjglcplhaaDoorL16
import Derived.Test.YthllbcjglcplhaaDoorL18
import Derived.Test.YthllbcjglcplhaaDoorL19
/- LacesOf: the plain part. -/
namespace Go.Proofs.YthllbcjglcplhaaDoor
set_option linter.unusedVariables false
set_option linter.unusedSimpArgs false
set_option maxRecDepth 8000

def kOk (y : Int) (s : St) : Bool := (s.y == y) && (s.k == 1 || s.k == 3 || s.k == 4)
def gKl (y : Int) (r : List St) : Bool := r.all (kOk y)
def gRl (W : Nat) (y : Int) (r : List St) : Bool := gKl y r && ((rdL 0 (lineL r)).isSome && decide (r.length = W))
def gAl (W : Nat) (y : Int) (rows : List (List St)) : Bool := rows.all (gRl W y)
def hsR (r : List St) : List Ho := (rdL 0 (lineL r)).getD []
def hsL (rows : List (List St)) : List (List Ho) := rows.map hsR
def wv (b : Bool) : Int := if b then 0 else 7
theorem gAl_succ {W : Nat} {y : Int} {rows : List (List St)} {k : Nat} (h : k < rows.length) : gAl W y (rows.take (k + 1)) = (gAl W y (rows.take k) && gRl W y (sw rows k)) := by
  rw [take_succ_sw h]; unfold gAl; rw [List.all_append]; simp
theorem gKl_succ {y : Int} {r : List St} {k : Nat} (h : k < r.length) : gKl y (r.take (k + 1)) = (gKl y (r.take k) && kOk y (si r k)) := by
  rw [take_succ_si h]; unfold gKl; rw [List.all_append]; simp
theorem hsL_succ {rows : List (List St)} {k : Nat} (h : k < rows.length) : hsL (rows.take (k + 1)) = hsL (rows.take k) ++ [hsR (sw rows k)] := by
  rw [take_succ_sw h]; unfold hsL; rw [List.map_append]; rfl
theorem lineL_succ {r : List St} {k : Nat} (h : k < r.length) : lineL (r.take (k + 1)) = lineL (r.take k) ++ [kSg2 (si r k).k] := by
  rw [take_succ_si h]; unfold lineL; rw [List.map_append]; rfl
theorem hsL_len (rows : List (List St)) : (hsL rows).length = rows.length := by unfold hsL; simp
theorem hsL_ow {rows : List (List St)} {i : Nat} (h : i < rows.length) : ow (hsL rows) i = hsR (sw rows i) := by
  rw [ow_of_lt (by rw [hsL_len]; exact h), sw_of_lt h]; unfold hsL; rw [List.getElem_map]
theorem byt_lineL (r : List St) : Byt (lineL r) := fun x hx => by
  unfold lineL at hx
  obtain ⟨s, _, rfl⟩ := List.mem_map.1 hx
  unfold kSg2
  split
  · omega
  · split <;> omega
theorem lineL_len (r : List St) : (lineL r).length = r.length := by unfold lineL; simp
/-- What the law finds is what the chart is. -/
theorem find_isL {rows : List (List St)} (hc : (cloads rows).1 = 0) (hg : gAl (sw rows 0).length (si (sw rows 0) 0).y rows = true) (hk : lchk ((sw rows 0).length : Int) (hsL rows) = 0) :
    IsL rows (sw rows 0).length (si (sw rows 0) 0).y (hsL rows) ∧ 1 ≤ (si (sw rows 0) 0).y ∧ (si (sw rows 0) 0).y ≤ 6 := by
  obtain ⟨h1, h2, h3, _⟩ := cerr_zero (cerr_of hc)
  have hch : ∀ i, i < rows.length → ∀ s ∈ sw rows i, s.chk = 0 := fun i hi s hs => by
    obtain ⟨j, hj, rfl⟩ := List.mem_iff_getElem.1 hs
    have := (rchk_zero (h3 i hi)).2.2.1 j hj
    rwa [si_of_lt hj] at this
  have h0 := (rchk_zero (h3 0 (by omega))).2.1
  have hyy := St.chk_ok (hch 0 (by omega) _ (si_mem h0))
  unfold gAl at hg
  rw [List.all_eq_true] at hg
  refine ⟨IsL.of hch (hsL_len rows) (fun i hi => ?_) hk, by omega⟩
  have := hg (sw rows i) (by rw [sw_of_lt hi]; exact List.getElem_mem hi)
  unfold gRl gKl at this
  simp only [Bool.and_eq_true, List.all_eq_true, decide_eq_true_eq] at this
  obtain ⟨a, b, d⟩ := this
  refine ⟨?_, d, fun s hs => ?_⟩
  · rw [hsL_ow hi]; unfold hsR
    obtain ⟨x, hx⟩ := Option.isSome_iff_exists.1 b
    rw [hx]; rfl
  · have := a s hs
    unfold kOk at this
    simp only [Bool.and_eq_true, Bool.or_eq_true, beq_iff_eq] at this
    exact ⟨this.1, by omega⟩
theorem isL_find {rows : List (List St)} {W : Nat} {y : Int} {hs : List (List Ho)} (h : IsL rows W y hs) : W = (sw rows 0).length ∧ y = (si (sw rows 0) 0).y ∧ gAl (sw rows 0).length (si (sw rows 0) 0).y rows = true ∧ hsL rows = hs := by
  obtain ⟨a, b⟩ := h.rd
  have h0 : 0 < rows.length := by have := (lchk_zero h.1).2.2.2.1; omega
  have hW := (b 0 h0).2.2.1
  have hy := isL_y h
  rw [hW, ← hy]
  refine ⟨rfl, rfl, ?_, ow_ext (by rw [hsL_len]; exact a) fun i hi => ?_⟩
  · unfold gAl
    rw [List.all_eq_true]
    intro r hr
    obtain ⟨i, hi, rfl⟩ := List.mem_iff_getElem.1 hr
    obtain ⟨b1, b2, b3, b4⟩ := b i hi
    rw [← sw_of_lt hi]
    unfold gRl gKl
    simp only [Bool.and_eq_true, List.all_eq_true, decide_eq_true_eq]
    refine ⟨fun s hs => ?_, by rw [b2]; rfl, b3⟩
    obtain ⟨c1, c2⟩ := b4 s hs
    unfold kOk
    simp only [Bool.and_eq_true, Bool.or_eq_true, beq_iff_eq]
    exact ⟨c1, by omega⟩
  · rw [hsL_len] at hi
    rw [hsL_ow hi]; unfold hsR
    rw [(b i hi).2.1]; rfl
/-- What Of returns, as the law finds it. -/
theorem of_find {w0 : World} {rows : List (List St)} {e : Ending} {w' : World} (h0 : (cloads rows).1 = 0) (h : RetOf w0 rows e w') : Ext w0 w' ∧
    ((¬ (gAl (sw rows 0).length (si (sw rows 0) 0).y rows = true ∧ lchk ((sw rows 0).length : Int) (hsL rows) = 0) ∧ e = .returned (.tuple #[.agg #[.int .i64 0, .slice Option.none 0 0], .int .u8 0, .int .i64 7])) ∨
     ((gAl (sw rows 0).length (si (sw rows 0) 0).y rows = true ∧ lchk ((sw rows 0).length : Int) (hsL rows) = 0) ∧ ∃ v c, e = .returned (.tuple #[.agg #[.int .i64 ((sw rows 0).length : Int), v], .int .u8 (si (sw rows 0) 0).y, .int .i64 0]) ∧ HR w' v c (hsL rows))) := by
  obtain ⟨x, ⟨h1, _⟩ | ⟨_, h2, h3⟩ | ⟨_, W', y', hs, v, c, h3, h4, h5, h6, h7⟩⟩ := h
  · exact absurd h0 h1
  · refine ⟨x, .inl ⟨fun ⟨a, b⟩ => h2 ?_, h3⟩⟩
    obtain ⟨p, q⟩ := find_isL h0 a b
    exact ⟨_, _, _, p, q⟩
  · obtain ⟨p1, p2, p3, p4⟩ := isL_find h3
    refine ⟨x, .inr ⟨⟨p3, ?_⟩, v, c, by rw [h6, ← p1, ← p2], by rw [p4]; exact h7⟩⟩
    rw [p4, ← p1]; exact h3.1
end Go.Proofs.YthllbcjglcplhaaDoor
/- LacesOf. -/
namespace Go.Proofs.YthllbcjglcplhaaDoor
set_option linter.unusedVariables false
set_option linter.unusedSimpArgs false
set_option maxRecDepth 8000
open Go Go.RowKit

/-- The lace that the law makes: its block M holds the rows. -/
def LM (B wr : World) (W : Int) (M : Nat) (vl : Value) (hs : List (List Ho)) : Prop := HC B wr vl hs ∧ B2 wr M (.int .i64 W) vl 24
set_option maxHeartbeats 16000000 in
theorem LacesOf_walk (v : Value) (c : Nat) (rows : List (List St)) (w : World) (h : RR w v c rows) (hIn : ∀ k, k < rows.length → ∀ i, i < (sw rows k).length → (0 ≤ (si (sw rows k) i).k ∧ (si (sw rows k) i).k ≤ 255) ∧ 0 ≤ (si (sw rows k) i).y ∧ (si (sw rows k) i).y ≤ 255) (hy : Sy w) :
    Calls Tryd.prog 4 #[.agg #[v]] w (RetT w) := by
  have hof := fun w' (x : Ext w w') => LOf_calls v c rows w' (h.ext x) (fun i hi j hj => (hIn i hi j hj).2)
  have hld := fun w' (x : Ext w w') => RCLoads_calls v c rows w' (h.ext x) (fun i hi j hj => ⟨(hIn i hi j hj).1.1, (hIn i hi j hj).2.1⟩)
  have hlv := fun w' (x : Ext w w') => lives20_calls w' (hy.ext x)
  obtain ⟨ao, N, rfl, hn, hc, hcm, hat⟩ := h.open
  unfold maxLen at hcm
  obtain ⟨B, hB⟩ : ∃ B, B = w.alloc (.cells #[.slice ao N c] 28) := ⟨_, rfl⟩
  have xB : Ext w B := by rw [hB]; exact (Ext.refl w).alloc _
  have hb0 : B.cell? ⟨w.heap.size, 0, none⟩ = some (.slice ao N c) := by rw [hB, World.cell?_alloc_at (hn := rfl)]; rfl
  have HOf := Lib.hid hof; have HLd := Lib.hid hld; have HLv := Lib.hid hlv; have XB := Lib.hid xB; have HB := Lib.hid hB; have HA := Lib.hid hat; have Hn := Lib.hid hn
  have HB0 := Lib.hid (fun w' (x : Ext B w') => x.cell hb0)
  have e0 := hb0
  rw [hB] at e0
  clear hof hld hlv xB hB hat hn hb0 h hIn hy
  go_enter Tryd.func4, Tryd.ntmps4
  by_cases h40 : 40 < N
  · have t0 : (40 : Int) < N := by omega
    clear h40
    go_wp2
    go_ret
    exact ⟨rfl, (Ext.refl w).alloc _⟩
  have t0 : ¬ (40 : Int) < N := by omega
  go_wp2
  rw [← HB.out]
  clear e0 t0
  go_loopw [3] (fun i wr => ∃ k : Nat, k ≤ N ∧ i = .int .i64 k ∧ Hid (Ext B wr) ∧ Hid (∀ i, i < k → (sw rows i).length ≤ 40)) (fun i _ => N - (intOf i).toNat)
  case atStart => exact ⟨0, Nat.zero_le _, rfl, Lib.hid (Ext.refl _), Lib.hid (fun i hi => by omega)⟩
  case round =>
    obtain ⟨k, hk, rfl, HX, HL⟩ := hrel
    have e0 := HB0.out _ HX.out
    by_cases hlt : k < N
    · have t1 : (k : Int) < N := by omega
      obtain ⟨b, o, a, m, d, rfl, g1, g2⟩ := HA.out k hlt
      replace g1 := (XB.out.trans HX.out).cell g1
      obtain ⟨_, _, e1, e2, e3, e4, e5⟩ := g2.open
      simp only [Value.slice.injEq] at e1; obtain ⟨rfl, rfl, _⟩ := e1
      have Hm := Lib.hid e2
      clear g2 e2 e3 e4 e5
      by_cases h41 : 40 < m
      · have t2 : (40 : Int) < m := by omega
        clear h41
        go_wp2
        go_ret
        exact ⟨rfl, XB.out.trans HX.out⟩
      have t2 : ¬ (40 : Int) < m := by omega
      go_wp2
      go_roundw
      case rel => exact ⟨k + 1, by omega, by go_num, HX, Lib.hid (fun i hi => by
        by_cases e : i = k
        · rw [e, ← Hm.out]; omega
        · exact HL.out i (by omega))⟩
      case measure => simp [intOf]; omega
    · obtain rfl : k = N := by omega
      have t1 : ¬ (k : Int) < k := by omega
      clear hlt
      have HN40 := Lib.hid (show k ≤ 40 by omega)
      go_wp2_with fail
      refine (HOf.out _ (XB.out.trans HX.out)).mono ?_
      intro e w1 hof
      have tE : ((cloads rows).1 != (cloads rows).1) = false := by simp
      by_cases hE : (cloads rows).1 = 0
      case neg =>
        obtain ⟨x1, ⟨_, rfl⟩ | ⟨h0, _⟩ | ⟨h0, _⟩⟩ := hof
        case inr.inl => exact absurd h0 hE
        case inr.inr => exact absurd h0 hE
        have hne : ((cloads rows).1 != 0) = true := by rw [bne, beq_eq_false_iff_ne.2 hE]; rfl
        have hne2 : ((cloads rows).1 == 0) = false := beq_eq_false_iff_ne.2 hE
        obtain ⟨W1, hW1⟩ : ∃ W1, W1 = w1.alloc (.cells #[.int .i64 0, .slice none 0 0] 24) := ⟨_, rfl⟩
        have xW1 : Ext w1 W1 := by rw [hW1]; exact (Ext.refl w1).alloc _
        have hb1 : B2 W1 w1.heap.size (.int .i64 0) (.slice none 0 0) 24 := by rw [hW1]; exact B2.new _ _ _ _
        have HB1 := Lib.hid hb1; have X1 := Lib.hid (XB.out.trans (HX.out.trans (x1.trans xW1))); have HW1 := Lib.hid hW1
        have e1 := HB0.out _ (HX.out.trans (x1.trans xW1))
        rw [hW1] at e1
        obtain ⟨E, hEE⟩ : ∃ E, E = (cloads rows).1 := ⟨_, rfl⟩
        have hld := HLd.out W1 X1.out
        rw [← hEE] at hne hne2 tE hld ⊢
        clear x1 xW1 hb1 hW1 hE hEE e0 h40
        go_wp2_with fail
        rw [← HW1.out]
        refine hld.mono ?_
        rintro e w2 ⟨v2, c2, rfl, _, x2⟩
        have X2 := Lib.hid (X1.out.trans x2)
        have f2 := cell_alloc (HB1.out.ext x2).c1 (.cells #[.int .i64 0, .slice none 0 0] 24)
        have X3 := Lib.hid (X2.out.alloc (.cells #[.int .i64 0, .slice none 0 0] 24))
        clear x2 e1 hld
        go_wp2_with fail
        refine (HLv.out _ X3.out).mono ?_
        rintro e w3 ⟨rfl, x3⟩
        have X4 := Lib.hid (X3.out.trans x3)
        clear x3 f2
        go_wp2
        go_ret
        exact ⟨rfl, X4.out⟩
      obtain ⟨x1, hof2⟩ := of_find hE hof
      obtain ⟨h1, h2, h3, _⟩ := cerr_zero (cerr_of hE)
      have hk0 : 0 < k := by rw [Hn.out]; omega
      have hm0 := (rchk_zero (h3 0 (by omega))).2.1
      clear hof
      obtain ⟨W0, hW0⟩ : ∃ W0, W0 = (sw rows 0).length := ⟨_, rfl⟩
      obtain ⟨y0, hy0⟩ : ∃ y0, y0 = (si (sw rows 0) 0).y := ⟨_, rfl⟩
      rw [← hW0, ← hy0] at hof2
      obtain ⟨gg, hgg⟩ : ∃ gg : Bool, gg = (gAl W0 y0 rows && decide (lchk (W0 : Int) (hsL rows) = 0)) := ⟨_, rfl⟩
      obtain ⟨WW, au, nu, cu, YY, EE, rfl, hres⟩ : ∃ (WW : Int) (au : Option Addr) (nu cu : Nat) (YY EE : Int), e = .returned (.tuple #[.agg #[.int .i64 WW, .slice au nu cu], .int .u8 YY, .int .i64 EE]) ∧ ((gg = false ∧ EE = 7 ∧ nu = 0 ∧ YY = 0) ∨ (gg = true ∧ EE = 0 ∧ WW = (W0 : Int) ∧ YY = y0 ∧ ∃ c', HR w1 (.slice au nu cu) c' (hsL rows))) := by
        rcases hof2 with ⟨h1, h2⟩ | ⟨h1, v, c', h2, h3⟩
        · refine ⟨0, none, 0, 0, 0, 7, h2, .inl ⟨?_, rfl, rfl, rfl⟩⟩
          rw [hgg]
          simpa using h1
        · obtain ⟨au, nu, rfl, _⟩ := h3.open
          exact ⟨_, au, nu, c', _, 0, h2, .inr ⟨by rw [hgg, h1.1, h1.2]; rfl, rfl, rfl, rfl, _, h3⟩⟩
      obtain ⟨W1, hW1⟩ : ∃ W1, W1 = w1.alloc (.cells #[.int .i64 WW, .slice au nu cu] 24) := ⟨_, rfl⟩
      have xW1 : Ext w1 W1 := by rw [hW1]; exact (Ext.refl w1).alloc _
      have hb1 : B2 W1 w1.heap.size (.int .i64 WW) (.slice au nu cu) 24 := by rw [hW1]; exact B2.new _ _ _ _
      have HB1 := Lib.hid hb1; have X1 := Lib.hid (XB.out.trans (HX.out.trans (x1.trans xW1))); have HW1 := Lib.hid hW1; have XW1 := Lib.hid xW1
      have Hres := Lib.hid hres; have Hgg := Lib.hid hgg; have HW0 := Lib.hid hW0; have Hy0 := Lib.hid hy0
      have e1 := HB0.out _ (HX.out.trans (x1.trans xW1))
      have hld := HLd.out W1 X1.out
      rw [hE] at hld
      have Y1 := Lib.hid (HX.out.trans (x1.trans xW1))
      have HE := Lib.hid hE
      rw [hW1] at e1
      obtain ⟨b, o, a0, m0, d0, rfl, g0, r0⟩ := HA.out 0 hk0
      rw [Nat.add_zero] at g0
      obtain ⟨_, _, e1', e2, e3, e4, e5⟩ := r0.open
      simp only [Value.slice.injEq] at e1'; obtain ⟨rfl, rfl, _⟩ := e1'
      obtain ⟨b1, o1, rfl, z⟩ := e5 0 (by omega)
      rw [Nat.zero_mul, Nat.add_zero] at z
      have hy1 := z.2.1
      rw [← hy0] at hy1
      obtain rfl : W0 = m0 := by rw [hW0, e2]
      have HG0 := Lib.hid g0; have HY1 := Lib.hid hy1
      have tk0 : (0 : Int) < k := by omega
      have tm0 : (0 : Int) < W0 := by omega
      clear x1 xW1 hb1 hW1 hE tE hof2 hres hgg hW0 hy0 h1 h2 h3 r0 e2 e3 e4 e5 z hy1 e0 h40 hm0 g0
      go_wp2_with fail
      rw [← HW1.out]
      refine hld.mono ?_
      rintro e w2 ⟨v2, c2, rfl, _, x2⟩
      have X2 := Lib.hid (X1.out.trans x2); have Y2 := Lib.hid (Y1.out.trans x2)
      have HB2 := Lib.hid (fun w' (x : Ext w2 w') => HB1.out.ext (x2.trans x)); have HX2 := Lib.hid (fun w' (x : Ext w2 w') => XW1.out.trans (x2.trans x))
      have e0 := HB0.out _ Y2.out
      have g0 := X2.out.cell HG0.out
      obtain ⟨WL, hWL⟩ : ∃ WL, WL = w2.alloc (.cells #[.int .i64 (W0 : Int), .slice none 0 0] 24) := ⟨_, rfl⟩
      have hLI : LM w2 WL W0 w2.heap.size (.slice none 0 0) [] := by
        rw [hWL]; exact ⟨HC.nil ((Ext.refl _).alloc _), B2.new _ _ _ _⟩
      have HLI := Lib.hid hLI; have HWL := Lib.hid hWL
      have e0a := cell_alloc e0 (.cells #[.int .i64 0, .slice none 0 0] 24); have g0a := cell_alloc g0 (.cells #[.int .i64 0, .slice none 0 0] 24)
      clear x2 e1 hld hLI hWL
      go_wp2
      rw [← HWL.out]
      have HBx := Lib.hid (fun w' (x : Ext w2 w') => HB0.out w' (Y2.out.trans x)); have HXx := Lib.hid (fun w' (x : Ext w2 w') => X2.out.trans x)
      clear e0 g0 e0a g0a
      go_loopw [8, 10, 11, 12, 13, 14, 15, 16] (fun wt i _ _ _ _ _ _ wr => ∃ (r : Nat) (al : Option Addr) (nl cl : Nat), r ≤ k ∧ i = .int .i64 r ∧ wt = .int .i64 (wv (gAl W0 y0 (rows.take r))) ∧ Hid (LM w2 wr W0 w2.heap.size (.slice al nl cl) (hsL (rows.take r)))) (fun _ i _ _ _ _ _ _ _ => k - (intOf i).toNat)
      case atStart => exact ⟨0, none, 0, 0, Nat.zero_le _, rfl, rfl, HLI⟩
      case round =>
        obtain ⟨r, al, nl, cl, hrk, rfl, rfl, HLM⟩ := hrel
        obtain ⟨wo, hwo⟩ : ∃ wo, wo = wr := ⟨_, rfl⟩
        subst hwo
        have XO := Lib.hid HLM.out.1.1
        have e0 := HBx.out _ XO.out
        by_cases hlr : r < k
        · have t3 : (r : Int) < k := by omega
          have t3' : (0 : Int) ≤ r := by omega
          obtain ⟨b', o', a, m, d, hao, g1, g2⟩ := HA.out r hlr
          simp only [Option.some.injEq, Addr.mk.injEq, and_true] at hao
          obtain ⟨rfl, rfl⟩ := hao
          have HG1 := Lib.hid g1
          replace g1 := (HXx.out _ XO.out).cell g1
          obtain ⟨_, _, e1, e2, e3, e4, e5⟩ := g2.open
          simp only [Value.slice.injEq] at e1; obtain ⟨rfl, rfl, _⟩ := e1
          have hrr : r < rows.length := by rw [← Hn.out]; exact hlr
          have hm40 := HL.out r hlr
          rw [← e2] at hm40
          have HNx := Lib.hid (gAl_succ (W := W0) (y := y0) hrr); have HHx := Lib.hid (hsL_succ hrr)
          obtain ⟨R, hR⟩ : ∃ R, R = sw rows r := ⟨_, rfl⟩
          rw [← hR] at e2 e5 HNx HHx
          have Hm := Lib.hid e2; have HE5 := Lib.hid e5
          obtain ⟨G0, hG0⟩ : ∃ G0, G0 = gAl W0 y0 (rows.take r) := ⟨_, rfl⟩
          rw [← hG0] at HNx ⊢
          obtain ⟨hs, hhs⟩ : ∃ hs, hs = hsL (rows.take r) := ⟨_, rfl⟩
          rw [← hhs] at HHx HLM
          have Hhl := Lib.hid (show hs.length ≤ 100000 by rw [hhs, hsL_len, List.length_take]; have := HN40.out; omega)
          clear g2 e2 e3 e4 e5 hR hrr hG0 hhs
          go_wp2
          clear e0 g1
          go_loopw [8, 11, 12, 13, 14] (fun wt sg i _ _ wq => ∃ j : Nat, j ≤ m ∧ i = .int .i64 j ∧ sg = .string (bstr (lineL (R.take j))) ∧ wt = .int .i64 (wv (G0 && gKl y0 (R.take j))) ∧ Hid (Ext wo wq)) (fun _ _ i _ _ _ => m - (intOf i).toNat)
          case atStart => exact ⟨0, Nat.zero_le _, rfl, rfl, by rw [List.take_zero]; simp [gKl], Lib.hid (Ext.refl _)⟩
          case round =>
            obtain ⟨j, hj, rfl, rfl, rfl, HJ⟩ := hrel
            have e0 := HBx.out _ (XO.out.trans HJ.out)
            have g1 := (HXx.out _ (XO.out.trans HJ.out)).cell HG1.out
            obtain ⟨Q, hQ⟩ : ∃ Q, wv (G0 && gKl y0 (R.take j)) = Q := ⟨_, rfl⟩
            rw [hQ]
            have HQ := Lib.hid hQ
            clear hQ
            by_cases hjm : j < m
            · have t5 : (j : Int) < m := by omega
              have t5' : (0 : Int) ≤ j := by omega
              obtain ⟨b7, o7, rfl, e8⟩ := HE5.out j hjm
              obtain ⟨S, hS⟩ : ∃ S, S = si R j := ⟨_, rfl⟩
              rw [← hS] at e8
              have HS := Lib.hid hS
              have tsz : ¬ 9223372036854775807 < (bstr (lineL (R.take j))).size + 1 := by
                rw [← bts_len, bts_bstr (byt_lineL _), lineL_len, List.length_take]; omega
              obtain ⟨s0, s1, s2, s3, s4⟩ := e8.ext (HXx.out _ (XO.out.trans HJ.out))
              obtain ⟨wz, hwz⟩ : ∃ wz, wz = wr.alloc (.cells #[.int .u8 S.k, .int .u8 S.y, .int .i64 S.a, .int .i64 S.b, .bool S.f] 49) := ⟨_, rfl⟩
              have hbz : B5 wz wr.heap.size S 49 := by rw [hwz]; exact B5.new wr S _
              have xz : Ext wr wz := by rw [hwz]; exact (Ext.refl _).alloc _
              have HWz := Lib.hid hwz; have HBz := Lib.hid hbz; have XZ := Lib.hid (HJ.out.trans xz)
              clear e8 hS hwz hbz xz
              rcases (show (S.y = y0 ∧ S.k = 1) ∨ (S.y = y0 ∧ S.k = 3) ∨ (S.y = y0 ∧ S.k = 4) ∨ (S.y = y0 ∧ S.k ≠ 3 ∧ S.k ≠ 4 ∧ S.k ≠ 1) ∨ (S.y ≠ y0 ∧ S.k = 3) ∨ (S.y ≠ y0 ∧ S.k = 4) ∨ (S.y ≠ y0 ∧ S.k ≠ 3 ∧ S.k ≠ 4) by omega) with ⟨hy, hk1⟩ | ⟨hy, hk1⟩ | ⟨hy, hk1⟩ | ⟨hy, hk3, hk4, hk1⟩ | ⟨hy, hk1⟩ | ⟨hy, hk1⟩ | ⟨hy, hk3, hk4⟩
              · have ty : (S.y != y0) = false := by rw [hy]; exact bne_self_eq_false _
                have t1 : (S.k != 1) = false := by rw [hk1]; rfl
                have t3 : (S.k != 3) = true := by rw [hk1]; rfl
                have t4 : (S.k != 4) = true := by rw [hk1]; rfl
                have u3 : (S.k == 3) = false := by rw [hk1]; rfl
                have u4 : (S.k == 4) = false := by rw [hk1]; rfl
                have HLn := Lib.hid (show bstr (lineL (R.take j)) ++ { data := #[46] } = bstr (lineL (R.take (j + 1))) from by
                  rw [lineL_succ (by rw [← Hm.out]; exact hjm), ← HS.out, show kSg2 S.k = 46 from by unfold kSg2; rw [hk1]; rfl, ← bstr_app]; rfl)
                have HQ2 := Lib.hid (show wv (G0 && gKl y0 (R.take (j + 1))) = Q from by
                  rw [gKl_succ (by rw [← Hm.out]; exact hjm), ← HS.out, show kOk y0 S = true from by unfold kOk; rw [hy, hk1]; simp, Bool.and_true, HQ.out])
                clear hy hk1
                go_wp2
                rw [← HWz.out]
                have z0 := HBz.out.at.1; have z1 := HBz.out.at.2.1
                have c0 := HBx.out _ (XO.out.trans XZ.out); have g0 := (HXx.out _ (XO.out.trans XZ.out)).cell HG0.out; have y1 := (HXx.out _ (XO.out.trans XZ.out)).cell HY1.out
                try dsimp only at z0 z1
                clear e0 g1 s0 s1 s2 s3 s4
                go_quiet (fail)
                have z0 := HBz.out.at.1
                try dsimp only at z0
                replace z0 := (Ext.refl wz).drewN nq |>.cell z0
                clear c0 g0 y1
                go_wp2
                go_roundw
                case rel => exact ⟨j + 1, by omega, by go_num, by rw [HLn.out], by rw [HQ2.out], by first | exact XZ | exact Lib.hid (XZ.out.drewN _)⟩
                case measure => simp [intOf]; omega
              · have ty : (S.y != y0) = false := by rw [hy]; exact bne_self_eq_false _
                have t1 : (S.k != 1) = true := by rw [hk1]; rfl
                have t3 : (S.k != 3) = false := by rw [hk1]; rfl
                have t4 : (S.k != 4) = true := by rw [hk1]; rfl
                have u3 : (S.k == 3) = true := by rw [hk1]; rfl
                have u4 : (S.k == 4) = false := by rw [hk1]; rfl
                have HLn := Lib.hid (show bstr (lineL (R.take j)) ++ { data := #[79] } = bstr (lineL (R.take (j + 1))) from by
                  rw [lineL_succ (by rw [← Hm.out]; exact hjm), ← HS.out, show kSg2 S.k = 79 from by unfold kSg2; rw [hk1]; rfl, ← bstr_app]; rfl)
                have HQ2 := Lib.hid (show wv (G0 && gKl y0 (R.take (j + 1))) = Q from by
                  rw [gKl_succ (by rw [← Hm.out]; exact hjm), ← HS.out, show kOk y0 S = true from by unfold kOk; rw [hy, hk1]; simp, Bool.and_true, HQ.out])
                clear hy hk1
                go_wp2
                rw [← HWz.out]
                have z0 := HBz.out.at.1; have z1 := HBz.out.at.2.1
                have c0 := HBx.out _ (XO.out.trans XZ.out); have g0 := (HXx.out _ (XO.out.trans XZ.out)).cell HG0.out; have y1 := (HXx.out _ (XO.out.trans XZ.out)).cell HY1.out
                try dsimp only at z0 z1
                clear e0 g1 s0 s1 s2 s3 s4
                go_quiet (fail)
                have z0 := HBz.out.at.1
                try dsimp only at z0
                replace z0 := (Ext.refl wz).drewN nq |>.cell z0
                clear c0 g0 y1
                go_wp2
                go_roundw
                case rel => exact ⟨j + 1, by omega, by go_num, by rw [HLn.out], by rw [HQ2.out], by first | exact XZ | exact Lib.hid (XZ.out.drewN _)⟩
                case measure => simp [intOf]; omega
              · have ty : (S.y != y0) = false := by rw [hy]; exact bne_self_eq_false _
                have t1 : (S.k != 1) = true := by rw [hk1]; rfl
                have t3 : (S.k != 3) = true := by rw [hk1]; rfl
                have t4 : (S.k != 4) = false := by rw [hk1]; rfl
                have u3 : (S.k == 3) = false := by rw [hk1]; rfl
                have u4 : (S.k == 4) = true := by rw [hk1]; rfl
                have HLn := Lib.hid (show bstr (lineL (R.take j)) ++ { data := #[47] } = bstr (lineL (R.take (j + 1))) from by
                  rw [lineL_succ (by rw [← Hm.out]; exact hjm), ← HS.out, show kSg2 S.k = 47 from by unfold kSg2; rw [hk1]; rfl, ← bstr_app]; rfl)
                have HQ2 := Lib.hid (show wv (G0 && gKl y0 (R.take (j + 1))) = Q from by
                  rw [gKl_succ (by rw [← Hm.out]; exact hjm), ← HS.out, show kOk y0 S = true from by unfold kOk; rw [hy, hk1]; simp, Bool.and_true, HQ.out])
                clear hy hk1
                go_wp2
                rw [← HWz.out]
                have z0 := HBz.out.at.1; have z1 := HBz.out.at.2.1
                have c0 := HBx.out _ (XO.out.trans XZ.out); have g0 := (HXx.out _ (XO.out.trans XZ.out)).cell HG0.out; have y1 := (HXx.out _ (XO.out.trans XZ.out)).cell HY1.out
                try dsimp only at z0 z1
                clear e0 g1 s0 s1 s2 s3 s4
                go_quiet (fail)
                have z0 := HBz.out.at.1
                try dsimp only at z0
                replace z0 := (Ext.refl wz).drewN nq |>.cell z0
                clear c0 g0 y1
                go_wp2
                go_roundw
                case rel => exact ⟨j + 1, by omega, by go_num, by rw [HLn.out], by rw [HQ2.out], by first | exact XZ | exact Lib.hid (XZ.out.drewN _)⟩
                case measure => simp [intOf]; omega
              · have ty : (S.y != y0) = false := by rw [hy]; exact bne_self_eq_false _
                have t1 : (S.k != 1) = true := bne_iff_ne.2 hk1
                have t3 : (S.k != 3) = true := bne_iff_ne.2 hk3
                have t4 : (S.k != 4) = true := bne_iff_ne.2 hk4
                have u3 : (S.k == 3) = false := beq_eq_false_iff_ne.2 hk3
                have u4 : (S.k == 4) = false := beq_eq_false_iff_ne.2 hk4
                have HLn := Lib.hid (show bstr (lineL (R.take j)) ++ { data := #[46] } = bstr (lineL (R.take (j + 1))) from by
                  rw [lineL_succ (by rw [← Hm.out]; exact hjm), ← HS.out, show kSg2 S.k = 46 from by unfold kSg2; rw [if_neg hk4, if_neg hk3], ← bstr_app]; rfl)
                have HQ2 := Lib.hid (show wv (G0 && gKl y0 (R.take (j + 1))) = 7 from by
                  rw [gKl_succ (by rw [← Hm.out]; exact hjm), ← HS.out, show kOk y0 S = false from by unfold kOk; rw [hy]; simp [hk1, hk3, hk4], Bool.and_false, Bool.and_false]; rfl)
                clear hy hk3 hk4 hk1
                go_wp2
                rw [← HWz.out]
                have z0 := HBz.out.at.1; have z1 := HBz.out.at.2.1
                have c0 := HBx.out _ (XO.out.trans XZ.out); have g0 := (HXx.out _ (XO.out.trans XZ.out)).cell HG0.out; have y1 := (HXx.out _ (XO.out.trans XZ.out)).cell HY1.out
                try dsimp only at z0 z1
                clear e0 g1 s0 s1 s2 s3 s4
                go_quiet (fail)
                have z0 := HBz.out.at.1
                try dsimp only at z0
                replace z0 := (Ext.refl wz).drewN nq |>.cell z0
                clear c0 g0 y1
                go_wp2
                go_roundw
                case rel => exact ⟨j + 1, by omega, by go_num, by rw [HLn.out], by rw [HQ2.out], by first | exact XZ | exact Lib.hid (XZ.out.drewN _)⟩
                case measure => simp [intOf]; omega
              · have ty : (S.y != y0) = true := bne_iff_ne.2 hy
                have u3 : (S.k == 3) = true := by rw [hk1]; rfl
                have u4 : (S.k == 4) = false := by rw [hk1]; rfl
                have HLn := Lib.hid (show bstr (lineL (R.take j)) ++ { data := #[79] } = bstr (lineL (R.take (j + 1))) from by
                  rw [lineL_succ (by rw [← Hm.out]; exact hjm), ← HS.out, show kSg2 S.k = 79 from by unfold kSg2; rw [hk1]; rfl, ← bstr_app]; rfl)
                have HQ2 := Lib.hid (show wv (G0 && gKl y0 (R.take (j + 1))) = 7 from by
                  rw [gKl_succ (by rw [← Hm.out]; exact hjm), ← HS.out, show kOk y0 S = false from by unfold kOk; simp [hy], Bool.and_false, Bool.and_false]; rfl)
                clear hy hk1
                go_wp2
                rw [← HWz.out]
                have z0 := HBz.out.at.1; have z1 := HBz.out.at.2.1
                have c0 := HBx.out _ (XO.out.trans XZ.out); have g0 := (HXx.out _ (XO.out.trans XZ.out)).cell HG0.out; have y1 := (HXx.out _ (XO.out.trans XZ.out)).cell HY1.out
                try dsimp only at z0 z1
                clear e0 g1 s0 s1 s2 s3 s4
                go_quiet (fail)
                have z0 := HBz.out.at.1
                try dsimp only at z0
                replace z0 := (Ext.refl wz).drewN nq |>.cell z0
                clear c0 g0 y1
                go_wp2
                go_roundw
                case rel => exact ⟨j + 1, by omega, by go_num, by rw [HLn.out], by rw [HQ2.out], by first | exact XZ | exact Lib.hid (XZ.out.drewN _)⟩
                case measure => simp [intOf]; omega
              · have ty : (S.y != y0) = true := bne_iff_ne.2 hy
                have u3 : (S.k == 3) = false := by rw [hk1]; rfl
                have u4 : (S.k == 4) = true := by rw [hk1]; rfl
                have HLn := Lib.hid (show bstr (lineL (R.take j)) ++ { data := #[47] } = bstr (lineL (R.take (j + 1))) from by
                  rw [lineL_succ (by rw [← Hm.out]; exact hjm), ← HS.out, show kSg2 S.k = 47 from by unfold kSg2; rw [hk1]; rfl, ← bstr_app]; rfl)
                have HQ2 := Lib.hid (show wv (G0 && gKl y0 (R.take (j + 1))) = 7 from by
                  rw [gKl_succ (by rw [← Hm.out]; exact hjm), ← HS.out, show kOk y0 S = false from by unfold kOk; simp [hy], Bool.and_false, Bool.and_false]; rfl)
                clear hy hk1
                go_wp2
                rw [← HWz.out]
                have z0 := HBz.out.at.1; have z1 := HBz.out.at.2.1
                have c0 := HBx.out _ (XO.out.trans XZ.out); have g0 := (HXx.out _ (XO.out.trans XZ.out)).cell HG0.out; have y1 := (HXx.out _ (XO.out.trans XZ.out)).cell HY1.out
                try dsimp only at z0 z1
                clear e0 g1 s0 s1 s2 s3 s4
                go_quiet (fail)
                have z0 := HBz.out.at.1
                try dsimp only at z0
                replace z0 := (Ext.refl wz).drewN nq |>.cell z0
                clear c0 g0 y1
                go_wp2
                go_roundw
                case rel => exact ⟨j + 1, by omega, by go_num, by rw [HLn.out], by rw [HQ2.out], by first | exact XZ | exact Lib.hid (XZ.out.drewN _)⟩
                case measure => simp [intOf]; omega
              · have ty : (S.y != y0) = true := bne_iff_ne.2 hy
                have u3 : (S.k == 3) = false := beq_eq_false_iff_ne.2 hk3
                have u4 : (S.k == 4) = false := beq_eq_false_iff_ne.2 hk4
                have HLn := Lib.hid (show bstr (lineL (R.take j)) ++ { data := #[46] } = bstr (lineL (R.take (j + 1))) from by
                  rw [lineL_succ (by rw [← Hm.out]; exact hjm), ← HS.out, show kSg2 S.k = 46 from by unfold kSg2; rw [if_neg hk4, if_neg hk3], ← bstr_app]; rfl)
                have HQ2 := Lib.hid (show wv (G0 && gKl y0 (R.take (j + 1))) = 7 from by
                  rw [gKl_succ (by rw [← Hm.out]; exact hjm), ← HS.out, show kOk y0 S = false from by unfold kOk; simp [hy], Bool.and_false, Bool.and_false]; rfl)
                clear hy hk3 hk4
                go_wp2
                rw [← HWz.out]
                have z0 := HBz.out.at.1; have z1 := HBz.out.at.2.1
                have c0 := HBx.out _ (XO.out.trans XZ.out); have g0 := (HXx.out _ (XO.out.trans XZ.out)).cell HG0.out; have y1 := (HXx.out _ (XO.out.trans XZ.out)).cell HY1.out
                try dsimp only at z0 z1
                clear e0 g1 s0 s1 s2 s3 s4
                go_quiet (fail)
                have z0 := HBz.out.at.1
                try dsimp only at z0
                replace z0 := (Ext.refl wz).drewN nq |>.cell z0
                clear c0 g0 y1
                go_wp2
                go_roundw
                case rel => exact ⟨j + 1, by omega, by go_num, by rw [HLn.out], by rw [HQ2.out], by first | exact XZ | exact Lib.hid (XZ.out.drewN _)⟩
                case measure => simp [intOf]; omega
            · obtain rfl : j = m := by omega
              have t5 : ¬ (j : Int) < j := by omega
              rw [show R.take j = R by rw [Hm.out, List.take_length]] at HQ ⊢
              have hbs : bts (bstr (lineL R)) = lineL R := bts_bstr (byt_lineL R)
              have hsz : (bstr (lineL R)).size = j := by rw [← bts_len, hbs, lineL_len, Hm.out]
              have hrd := fun w' => RRead_calls (bstr (lineL R)) w' (by rw [hsz]; omega)
              rw [hbs] at hrd
              obtain ⟨SS, hSS⟩ : ∃ SS, SS = bstr (lineL R) := ⟨_, rfl⟩
              rw [← hSS] at hrd hsz ⊢
              have Hsz := Lib.hid hsz
              clear hbs hSS hsz
              go_wp2_with fail
              refine (hrd _).mono ?_
              intro e wp hret
              clear hrd e0 g1
              obtain ⟨xp, hret⟩ := hret
              have XP := Lib.hid (XO.out.trans (HJ.out.trans xp))
              have HCo := Lib.hid (HLM.out.1.later (HJ.out.trans xp)); have HMb := Lib.hid (HLM.out.2.ext (HJ.out.trans xp))
              have q0 := HMb.out.c0; have q1 := HMb.out.c1; have f1 := HMb.out.f1
              have hhl := Hhl.out
              have hrow : ∃ (vr : Value) (ok : Int), e = .returned (.tuple #[vr, .int .i64 ok]) ∧ HV wp vr (hsR R) ∧ ((ok = 0 ∧ wv (gAl W0 y0 (rows.take (r + 1))) = 7) ∨ (ok = 1 ∧ j ≠ W0 ∧ wv (gAl W0 y0 (rows.take (r + 1))) = 7) ∨ (ok = 1 ∧ j = W0 ∧ wv (gAl W0 y0 (rows.take (r + 1))) = Q)) := by
                rw [HNx.out]
                unfold gRl hsR
                rcases hrr : rdL 0 (lineL R) with _ | l
                · rw [hrr] at hret
                  exact ⟨_, 0, hret, .inl ⟨rfl, rfl⟩, .inl ⟨rfl, by simp [wv]⟩⟩
                · rw [hrr] at hret
                  obtain ⟨v, h1, h2⟩ := hret
                  refine ⟨v, 1, h1, h2, .inr ?_⟩
                  by_cases e : j = W0
                  · exact .inr ⟨rfl, e, by rw [← HQ.out]; simp [← Hm.out, e]⟩
                  · exact .inl ⟨rfl, e, by simp [← Hm.out, e, wv]⟩
              obtain ⟨vr, ok, rfl, hvr, hcs⟩ := hrow
              obtain ⟨ar, nr, cr, rfl, hnr⟩ := hvr.form
              clear hnr
              have HVr := Lib.hid hvr
              have hsz := Hsz.out
              clear hret xp hvr
              rcases hcs with ⟨rfl, hq⟩ | ⟨rfl, hne, hq⟩ | ⟨rfl, heq, hq⟩
              all_goals have HQ3 := Lib.hid hq
              all_goals clear hq
              case' inr.inl =>
                have tw : ((SS.size : Int) != (W0 : Int)) = true := bne_iff_ne.2 (by omega)
                clear hne
              case' inr.inr =>
                have tw : ((SS.size : Int) != (W0 : Int)) = false := by rw [hsz, heq]; exact bne_self_eq_false _
                clear heq
              all_goals clear hsz
              all_goals (
                go_wp2_with (at_builtin; go_loud (refine app_how rfl _ _ rfl w2 _ hs rfl HCo.out _ _ HVr.out wp.heap.size rfl rfl hhl ?_))
                intro v' w' hco' hkeep
                have hm' := (by first | exact hkeep _ _ _ _ HMb.out (by decide) | exact hkeep _ _ _ _ _ HMb.out (by decide) : w'.heap[w2.heap.size]? = some (.cells #[.int .i64 (W0 : Int), .slice al nl cl] 24 (0, 0)))
                have hm9 : B2 w' w2.heap.size (.int .i64 (W0 : Int)) (.slice al nl cl) 24 := hm'
                have hc1 := hm9.c1; have hf9 := hm9.f1
                have HN := Lib.hid (show LM w2 (w'.setCell ⟨w2.heap.size, 1, none⟩ v') W0 w2.heap.size v' (hsL (rows.take (r + 1))) from by
                  rw [HHx.out]
                  exact ⟨hco'.setOther (a := ⟨w2.heap.size, 1, none⟩) hm9 (by decide) (by decide) (Nat.le_refl _), hm9.set1⟩)
                obtain ⟨a2, n2, c2', rfl, hn2⟩ := hco'.form
                clear hco' hkeep hm' hm9 hn2
                go_wp2
                go_roundw
                case rel => exact ⟨r + 1, _, _, _, by omega, by go_num, by rw [HQ3.out], HN⟩
                case measure => simp [intOf]; omega)
        · obtain rfl : r = k := by omega
          have t3 : ¬ (r : Int) < r := by omega
          rw [show rows.take r = rows by rw [Hn.out, List.take_length]] at HLM ⊢
          obtain ⟨c', hr'⟩ := HLM.out.1.rr
          have hck := RCheck20_calls W0 _ _ (hsL rows) wo hr'
          have q0 := HLM.out.2.c0; have q1 := HLM.out.2.c1
          obtain ⟨LC, hLC⟩ : ∃ LC, LC = lchk (W0 : Int) (hsL rows) := ⟨_, rfl⟩
          obtain ⟨A, hA⟩ : ∃ A, A = gAl W0 y0 rows := ⟨_, rfl⟩
          rw [← hLC] at hck; rw [← hA]
          have HGg2 := Lib.hid (show gg = (A && decide (LC = 0)) from by rw [hA, hLC]; exact Hgg.out)
          have HRr := Lib.hid hr'; have HCk := Lib.hid hck
          clear hLC hA hr' hck hlr
          go_wp2_with fail
          refine HCk.out.mono ?_
          rintro e w3 ⟨rfl, x3⟩
          have Y3 := Lib.hid (XO.out.trans x3); have X3 := Lib.hid (HXx.out _ (XO.out.trans x3)); have Z3 := Lib.hid x3
          have f2 := (HB2.out _ Y3.out).c0; have f3 := (HB2.out _ Y3.out).c1
          replace q0 := x3.cell q0; replace q1 := x3.cell q1
          clear x3 e0 HCk
          have t77 : ((7 : Int) != 7) = false := rfl
          by_cases hL0 : LC = 0
          · subst hL0
            cases A
            · obtain ⟨rfl, rfl, rfl, rfl⟩ : gg = false ∧ EE = 7 ∧ nu = 0 ∧ YY = 0 := by
                rcases Hres.out with ⟨a, b, c, d⟩ | ⟨a, _⟩
                · exact ⟨a, b, c, d⟩
                · have := HGg2.out; rw [a] at this; simp at this
              simp only [wv, if_false, Bool.false_eq_true]
              go_wp2_with fail
              refine (HLv.out _ X3.out).mono ?_
              rintro e w4 ⟨rfl, x4⟩
              have X4 := Lib.hid (X3.out.trans x4)
              clear x4 f2 f3 q0 q1
              go_wp2
              go_ret
              exact ⟨rfl, X4.out⟩
            · obtain ⟨hgg1, rfl, rfl, rfl, c1', hgot⟩ : gg = true ∧ EE = 0 ∧ WW = (W0 : Int) ∧ YY = y0 ∧ ∃ c', HR w1 (.slice au nu cu) c' (hsL rows) := by
                rcases Hres.out with ⟨a, b, c, d⟩ | h
                · have := HGg2.out; rw [a] at this; simp at this
                · exact h
              simp only [wv, if_true]
              have hdf := HDiffer_calls W0 W0 _ _ _ _ (hsL rows) (hsL rows) w3 (hgot.ext (HX2.out _ Y3.out)) (HRr.out.ext Z3.out)
              rw [hdif_same] at hdf
              have HDf := Lib.hid hdf
              clear hgg1 hgot hdf
              go_wp2_with fail
              refine HDf.out.mono ?_
              rintro e w4 ⟨rfl, x4⟩
              have X4 := Lib.hid (X3.out.trans x4)
              have e0 := HBx.out _ (Y3.out.trans x4)
              have g0 := X4.out.cell HG0.out; have y1 := X4.out.cell HY1.out
              have tyy : (YY == YY) = true := by simp
              clear x4 f2 f3 q0 q1
              go_wp2_with fail
              refine (HLv.out _ X4.out).mono ?_
              rintro e w5 ⟨rfl, x5⟩
              have X5 := Lib.hid (X4.out.trans x5)
              clear x5 e0 g0 y1
              go_wp2
              go_ret
              exact ⟨rfl, X5.out⟩
          · have hne : (LC != 0) = true := bne_iff_ne.2 hL0
            obtain ⟨rfl, rfl, rfl, rfl⟩ : gg = false ∧ EE = 7 ∧ nu = 0 ∧ YY = 0 := by
              rcases Hres.out with ⟨a, b, c, d⟩ | ⟨a, _⟩
              · exact ⟨a, b, c, d⟩
              · have := HGg2.out; rw [a] at this; simp [hL0] at this
            clear hL0
            go_wp2_with fail
            refine (HLv.out _ X3.out).mono ?_
            rintro e w4 ⟨rfl, x4⟩
            have X4 := Lib.hid (X3.out.trans x4)
            clear x4 f2 f3 q0 q1
            go_wp2
            go_ret
            exact ⟨rfl, X4.out⟩
end Go.Proofs.YthllbcjglcplhaaDoor
