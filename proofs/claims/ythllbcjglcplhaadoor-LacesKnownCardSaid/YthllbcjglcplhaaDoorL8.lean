/- Texts of this claim in one file: libraries and walks. -/
import Derived.Test.YthllbcjglcplhaaDoorL4
import Derived.Test.YthllbcjglcplhaaDoorL5
import Derived.Test.YthllbcjglcplhaaDoorL7
/- laces.Shift. -/
namespace Go.Proofs.YthllbcjglcplhaaDoor
set_option linter.unusedVariables false
set_option linter.unusedSimpArgs false
set_option maxRecDepth 8000
open Go Go.RowKit


def nCl (n : Int) : Int := if -16 < (if n < 16 then n else 16) then (if n < 16 then n else 16) else -16
/-- A lace and an error are returned. -/
def RetLE2 (w0 : World) (W : Int) (rows : List (List Ho)) (err : Int) (e : Ending) (w' : World) : Prop := ∃ v, e = .returned (.tuple #[.agg #[.int .i64 W, v], .int .i64 err]) ∧ HR w' v rows.length rows ∧ Ext w0 w'
def shE (W n : Int) (rows : List (List Ho)) : Int := if lchk W rows ≠ 0 then lchk W rows else if lchk W (lsh (nCl n) rows) = 0 then 0 else 1
def shR (W n : Int) (rows : List (List Ho)) : List (List Ho) := if shE W n rows = 0 then lsh (nCl n) rows else []
def shW (W n : Int) (rows : List (List Ho)) : Int := if shE W n rows = 0 then W else 0
theorem nCl_bd (n : Int) : -16 ≤ nCl n ∧ nCl n ≤ 16 := by unfold nCl; split <;> split <;> omega
set_option maxHeartbeats 8000000 in
theorem LShift_calls (W0 n : Int) (v : Value) (c : Nat) (rows : List (List Ho)) (w : World) (h : HR w v c rows) (hlw : ∀ i, i < rows.length → (ow rows i).length ≤ 1000) :
    Calls Tryd.prog 14 #[.agg #[.int .i64 W0, v], .int .i64 n] w (RetLE2 w (shW W0 n rows) (shR W0 n rows) (shE W0 n rows)) := by
  have hck := fun w' (x : Ext w w') => LCheck_calls W0 v c rows w' (h.ext x)
  obtain ⟨ao, N, rfl, hn, hc, hcm, hat⟩ := h.open
  unfold maxLen at hcm
  obtain ⟨B0, hB⟩ : ∃ B0, B0 = (w.alloc (.cells #[.int .i64 W0, .slice ao N c] 24)).alloc (.cells #[.int .i64 0, .slice none 0 0] 24) := ⟨_, rfl⟩
  have xB : Ext w B0 := by rw [hB]; exact ((Ext.refl w).alloc _).alloc _
  have hB1 : B2 B0 w.heap.size (.int .i64 W0) (.slice ao N c) 24 := by rw [hB]; exact (B2.new w _ _ _).alloc _
  have hB4 : B2 B0 (w.heap.size + 1) (.int .i64 0) (.slice none 0 0) 24 := by
    rw [hB]; have := B2.new (w.alloc (.cells #[.int .i64 W0, .slice ao N c] 24)) (.int .i64 0) (.slice none 0 0) 24
    rwa [show (w.alloc (.cells #[.int .i64 W0, .slice ao N c] 24)).heap.size = w.heap.size + 1 by simp] at this
  have e0 := hB1.c0; have e1 := hB1.c1
  have HBe := Lib.hid hB; have Hn := Lib.hid hn; have HA := Lib.hid hat
  have HBs := Lib.hid (show B0.heap.size = w.heap.size + 2 by rw [hB]; simp)
  have HB20 := Lib.hid (fun w' (x : Ext B0 w') => hB1.ext x); have HR40 := Lib.hid (fun w' (x : Ext B0 w') => hB4.ext x)
  have HL := Lib.hid (fun i (hi : i < N) => hlw i (by omega))
  have HCk := Lib.hid (hck B0 xB)
  have XB0 := Lib.hid xB
  rw [hB] at e0 e1
  clear hB hB1 hB4 hn hat h hlw xB hck
  go_enter Tryd.func14, Tryd.ntmps14
  go_wp2_with fail
  rw [← HBe.out]
  refine HCk.out.mono ?_
  rintro e B ⟨rfl, x1⟩
  have X1 := Lib.hid x1
  have XB := Lib.hid (XB0.out.trans x1)
  have HBz := Lib.hid (show w.heap.size + 2 ≤ B.heap.size from by have := x1.size; have := HBs.out; omega)
  have HB2 := Lib.hid (fun w' (x : Ext B w') => HB20.out w' (X1.out.trans x)); have HR4 := Lib.hid (fun w' (x : Ext B w') => HR40.out w' (X1.out.trans x))
  have HZ := Lib.hid (fun (wr : World) (E : Int) (x : Ext B wr) (he : shE W0 n rows = E) (h0 : E ≠ 0) => show RetLE2 w (shW W0 n rows) (shR W0 n rows) (shE W0 n rows) (.returned (.tuple #[.agg #[.int .i64 0, .slice none 0 0], .int .i64 E])) ((wr.setCell ⟨w.heap.size + 1, 0, none⟩ (.int .i64 0)).setCell ⟨w.heap.size + 1, 0 + 1, none⟩ (.slice none 0 0)) from by
    have h1 : shR W0 n rows = [] := by unfold shR; rw [he, if_neg h0]
    have h2 : shW W0 n rows = 0 := by unfold shW; rw [he, if_neg h0]
    rw [h1, h2, he]
    exact ⟨_, rfl, HR.nil _, ((XB.out.trans x).setCell (by simp) _).setCell (by simp) _⟩)
  clear x1 HCk e0 e1 HB20 HR40 X1
  by_cases hE : lchk W0 rows = 0
  case neg =>
    have hne : (lchk W0 rows != 0) = true := by rw [bne, beq_eq_false_iff_ne.2 hE]; rfl
    have HF := Lib.hid (HZ.out B (lchk W0 rows) (Ext.refl _) (if_pos hE) hE)
    have r4 := HR4.out B (Ext.refl _)
    have c4 := r4.c0; have c5 := r4.c1; have f4 := r4.f0; have f5 := r4.f1
    have c6 := (r4.set2 (.int .i64 0) (.slice none 0 0)).c0; have c7 := (r4.set2 (.int .i64 0) (.slice none 0 0)).c1
    obtain ⟨E, hEE⟩ : ∃ E, E = lchk W0 rows := ⟨_, rfl⟩
    rw [← hEE] at hne HF ⊢
    clear hE hEE r4
    go_wp2
    exact bodyPost_ret (v := .tuple #[.agg #[.int .i64 0, .slice none 0 0], .int .i64 E]) (by simp [results, Tryd.results14, go_sem, c6, c7]) rfl HF.out
  rw [hE]
  obtain ⟨z1, z2, z3, z4, z5'⟩ := lchk_zero hE
  obtain ⟨W, rfl⟩ : ∃ W : Nat, W0 = W := ⟨W0.toNat, by omega⟩
  have hW : W ≤ 1000 := by omega
  have hN : N ≤ 1000 := by rw [Hn.out]; omega
  obtain ⟨n2, hn2⟩ : ∃ n2, n2 = nCl n := ⟨_, rfl⟩
  have hnb := nCl_bd n
  obtain ⟨m2, hm1⟩ : ∃ m2, (if n < 16 then n else 16) = m2 := ⟨_, rfl⟩
  have hm2 : (if -16 < m2 then m2 else (-16 : Int)) = n2 := by rw [← hm1, hn2]; rfl
  rw [← hn2] at hnb
  obtain ⟨hnb1, hnb2⟩ := hnb
  have hsh : shE W n rows = if lchk W (lsh n2 rows) = 0 then 0 else 1 := by unfold shE; rw [if_neg (by omega), ← hn2]
  have hsr : shE W n rows = 0 → shR W n rows = lsh n2 rows ∧ shW W n rows = W := fun h => by unfold shR shW; rw [if_pos h, if_pos h, ← hn2]; exact ⟨rfl, rfl⟩
  have HSh := Lib.hid hsh; have HSr := Lib.hid hsr
  have HBd := Lib.hid (show ∀ i, i < rows.length → ∀ h ∈ ow rows i, 0 ≤ h.p ∧ h.p ≤ 1000 from fun i hi h hh => by
    obtain ⟨a, b, _, _⟩ := rowE_all (z5' i hi) h hh
    exact ⟨a, by omega⟩)
  have hmk := fun w' => run_make_lc (P := Tryd.prog) eiHows .i64 .i64 N N (by omega) (by omega) (by omega) w'
  have e0 := (HB2.out B (Ext.refl _)).c0; have e1 := (HB2.out B (Ext.refl _)).c1
  have q0 := fun (o : Obj) => cell_alloc e0 o
  have q1 := fun (o : Obj) => cell_alloc e1 o
  have q2 := fun (o o' : Obj) => cell_alloc (cell_alloc e0 o) o'
  have q3 := fun (o o' : Obj) => cell_alloc (cell_alloc e1 o) o'
  have HN2 := Lib.hid hn2
  clear hsh hsr hn2 hE z1 z4 z5' z2 z3
  go_wp2
  go_region
  · skip
    clear q0 q1 q2 q3 e0 e1 hmk hm1 hm2
    obtain ⟨w2, hw2⟩ : ∃ w2, w2 = ((B.alloc (.cells (madeCells #[.slice none 0 0] N) 37)).alloc (.cells #[.int .i64 (W : Int), .slice (some ⟨B.heap.size, 0, none⟩) N N] 24)).drew := ⟨_, rfl⟩
    have hst : ∃ q cp, LI B w2 W (B.heap.size) N 0 (B.heap.size + 1) (fun i => (ow rows i).map (Ho.sh n2)) q cp := by
      rw [hw2]
      refine ⟨fun _ => 0, fun _ => 0, HK.start (f := fun _ => .slice none 0 0) (((Ext.refl B).alloc _).alloc _).drew (by omega) (by unfold maxLen; omega) (Ext.row (Ext.drew ((Ext.refl _).alloc _)) (World.rowIs_made _ _ _ _)), ?_⟩
      have := B2.new (B.alloc (.cells (madeCells #[.slice none 0 0] N) 37)) (.int .i64 (W : Int)) (.slice (some ⟨B.heap.size, 0, none⟩) N N) 24
      rw [show (B.alloc (.cells (madeCells #[.slice none 0 0] N) 37)).heap.size = B.heap.size + 1 by simp] at this
      exact this.ext (Ext.refl _).drew
    have xw2 : Ext B w2 := by rw [hw2]; exact (((Ext.refl B).alloc _).alloc _).drew
    obtain ⟨R, hR⟩ : ∃ R, R = B.heap.size := ⟨_, rfl⟩
    obtain ⟨M, hM⟩ : ∃ M, M = B.heap.size + 1 := ⟨_, rfl⟩
    rw [← hw2]
    rw [← hM, ← hR] at hst ⊢
    have HRM := Lib.hid (show R ≠ M ∧ B.heap.size ≤ R ∧ B.heap.size ≤ M from by omega)
    have HST := Lib.hid hst
    have X2 := Lib.hid xw2
    have b0 := (HB2.out w2 xw2).c0; have b1 := (HB2.out w2 xw2).c1
    clear hR hM hst hw2 xw2
    go_wp2
    clear b0 b1
    go_loopw [8, 9, 10, 11, 31, 45] (fun _ _ _ _ i _ wr => ∃ k : Nat, k ≤ N ∧ i = .int .i64 k ∧ Hid (∃ q cp, LI B wr W R N k M (fun i => (ow rows i).map (Ho.sh n2)) q cp)) (fun _ _ _ _ i _ _ => N - (intOf i).toNat)
    case atStart => exact ⟨0, Nat.zero_le _, rfl, HST⟩
    case round =>
      obtain ⟨k, hk, rfl, HC⟩ := hrel
      clear HST
      obtain ⟨q, cp, hC⟩ := HC.out
      have HCS := Lib.hid hC
      clear HC
      have b0 := (HB2.out wr hC.1.x).c0; have b1 := (HB2.out wr hC.1.x).c1
      have m1 := hC.2.c1; have m0 := hC.2.c0
      by_cases hlt : k < N
      · skip
        have hlt' : (k : Int) < (N : Int) := by omega
        obtain ⟨b, o, a, m, d, rfl, hc0, hr0⟩ := HA.out k hlt
        have hrB := hr0.ext XB.out
        replace hc0 := (XB.out.trans hC.1.x).cell hc0
        obtain ⟨_, _, e1, e2, e3, e4, e5⟩ := hrB.open
        simp only [Value.slice.injEq] at e1
        obtain ⟨rfl, rfl, _⟩ := e1
        unfold maxLen at e4
        have hm1 : m ≤ 1000 := by rw [e2]; exact HL.out k hlt
        have HE5 := Lib.hid e5; have He2 := Lib.hid e2
        obtain ⟨vk, hvk⟩ := hC.1.ex hlt
        have hfk := hC.1.frozen k
        have hmk := fun w' => run_make_ho .i64 .i64 m (by omega) w'
        have xg : Ext wr (wr.alloc (.cells (madeCells z2 (m * 2)) 39)) := (Ext.refl wr).alloc _
        have hCA := hC.1.later xg
        have m1a := xg.cell m1
        obtain ⟨vk2, hvk2⟩ := hCA.ex hlt
        have hfk2 := hCA.frozen k
        clear hr0 hrB e2 e5 hC hCA xg
        go_wp2
        go_region
        all_goals
          have hC := HCS.out
          have xg : Ext wr (wr.alloc (.cells (madeCells z2 (m * 2)) 39)) := (Ext.refl wr).alloc _
          have hCA := hC.1.later xg
          have hRO := HO.made wr m (by unfold maxLen; omega)
          have hlt3 := hC.1.lt
          have hMlt : M < wr.heap.size := hC.2.lt
          have hql := fun i (hi : i < k) => (hC.1.ro i hi).1.lt
          have hput := hCA.put hlt hRO (by have := hC.1.x.size; exact this) (by omega) (fun i hi => by have := hql i hi; omega)
          rw [List.length_replicate] at hput
          have hMb2 : B2 ((wr.alloc (.cells (madeCells z2 (m * 2)) 39)).setCell ⟨R, k, none⟩ (.slice (some ⟨wr.heap.size, 0, none⟩) m m)) M (.int .i64 (W : Int)) (.slice (some ⟨R, 0, none⟩) N N) 24 := (hC.2.ext xg).setOther (by have := HRM.out; simp only []; omega)
          obtain ⟨g, hg⟩ : ∃ g, g = wr.heap.size := ⟨_, rfl⟩
          have HgM := Lib.hid (show M ≠ g ∧ R ≠ g from ⟨by omega, by omega⟩)
          have HgB := Lib.hid (show B.heap.size ≤ g from by rw [hg]; exact hC.1.x.size)
          obtain ⟨w3, hw3⟩ : ∃ w3, w3 = ((wr.alloc (.cells (madeCells z2 (m * 2)) 39)).setCell ⟨R, k, none⟩ (.slice (some ⟨wr.heap.size, 0, none⟩) m m)).drew := ⟨_, rfl⟩
          have h3 : LI B w3 W R N (k + 1) M (up (fun i => (ow rows i).map (Ho.sh n2)) k (shU n2 (ow rows k) 0)) (up q k g) (up cp k m) := by
            rw [hw3, shU_zero, ← He2.out, hg]
            exact ⟨hput.later (Ext.refl _).drew, hMb2.ext (Ext.refl _).drew⟩
          have H3 := Lib.hid h3
          have Hg := Lib.hid hg
          rw [← hw3, ← hg]
          clear hC xg hCA hRO hlt3 hMlt hql hput hMb2 hg hw3 h3 hvk hfk hvk2 hfk2 m0 m1 m1a hc0 hmk b0 b1
          go_wp2
          go_loopw [10, 11, 45] (fun _ _ i ws => ∃ j : Nat, j ≤ m ∧ i = .int .i64 j ∧ Hid (LI B ws W R N (k + 1) M (up (fun i => (ow rows i).map (Ho.sh n2)) k (shU n2 (ow rows k) j)) (up q k g) (up cp k m))) (fun _ _ i _ => m - (intOf i).toNat)
          case atStart => exact ⟨0, Nat.zero_le _, rfl, H3⟩
          case round =>
            obtain ⟨j, hj, rfl, HJ⟩ := hrel
            clear H3
            obtain ⟨ws, hws⟩ : ∃ ws : World, ws = wr := ⟨_, rfl⟩
            rw [← hws] at HJ ⊢
            clear hws
            by_cases hjl : j < m
            · skip
              have hjl' : (j : Int) < (m : Int) := by omega
              obtain ⟨b2, o2, rfl, e8⟩ := HE5.out j hjl
              obtain ⟨s0, s1⟩ := e8.ext HJ.out.1.x
              have hjr : j < (ow rows k).length := by rw [← He2.out]; exact hjl
              have hbd := HBd.out k (by rw [← Hn.out]; exact hlt) _ (oi_mem hjr)
              have hset := shU_set (n := n2) (l := ow rows k) (j := j) hjr
              rcases hh : oi (ow rows k) j with ⟨P, r⟩
              rw [hh] at s0 s1 hbd hset
              simp only at s0 s1 hbd
              obtain ⟨hb1, hb2⟩ := hbd
              have hpm : j < m := hjl
              have wz4 : IntKind.i64.wrap (P + n2) = P + n2 := IntWalk.i64_in _ ⟨by omega, by omega⟩
              have HSet := Lib.hid hset
              have hml : (shU n2 (ow rows k) j).length = m := by rw [shU_len _ _ (by rw [← He2.out]; omega), He2.out]
              have HMl := Lib.hid hml
              obtain ⟨w6, hw6⟩ : ∃ w6, w6 = ws.alloc (.cells #[.int .i64 P, .bool r] 39) := ⟨_, rfl⟩
              have x6 : Ext ws w6 := by rw [hw6]; exact (Ext.refl ws).alloc _
              have hB6 : B2 w6 ws.heap.size (.int .i64 P) (.bool r) 39 := by rw [hw6]; exact B2.new ws _ _ _
              have k0 := hB6.c0; have k1 := hB6.c1
              have hC6 := HJ.out.1.later x6
              have m1 := (HJ.out.2.ext x6).c1
              have bb0 := (HB2.out w6 hC6.x).c0
              have hM6 := hC6.cell (i := k) (by omega) (by omega)
              rw [up_at, up_at, up_at, hml] at hM6
              have hro := (hC6.ro k (by omega)).1
              rw [up_at, up_at, up_at] at hro
              obtain ⟨z0, g0⟩ := hro.shapeCell (o := j * 2) (by omega)
              obtain ⟨z1, g1⟩ := hro.shapeCell (o := j * 2 + 1) (by omega)
              have f0 := hro.frozen (j * 2); have f1 := hro.frozen (j * 2 + 1)
              have hP9 := hC6.putHo (j := k) (i := j) (by omega) (by rw [up_at, hml]; exact hpm) ⟨P + n2, r⟩
              rw [up_at, up_at] at hP9
              have hD9 := hP9.congr (rows' := up (fun i => (ow rows i).map (Ho.sh n2)) k (shU n2 (ow rows k) (j + 1))) (fun i _ => by
                by_cases e : i = k
                · subst e; rw [up_at, up_at]; exact HSet.out
                · rw [up_ne _ _ e, up_ne _ _ e, up_ne _ _ e])
              have hN := fun w9 (e : w9 = (((w6.setCell ⟨g, j * 2, none⟩ (.int .i64 (P + n2))).setCell ⟨g, j * 2 + 1, none⟩ (.bool (r))).drew)) => show LI B w9 W R N (k + 1) M (up (fun i => (ow rows i).map (Ho.sh n2)) k (shU n2 (ow rows k) (j + 1))) (up q k g) (up cp k m) from by
                rw [e]; exact ⟨hD9.later (Ext.refl _).drew, B2.ext (((HJ.out.2.ext x6).setOther HgM.out.1).setOther HgM.out.1) (Ext.refl _).drew⟩
              have HN := Lib.hid hN; have HW6 := Lib.hid hw6
              rw [hw6] at k0 k1 m1 bb0 hM6 g0 g1 f0 f1
              clear hset hml x6 hw6 hB6 hC6 hro hP9 hD9 hN e8 hh hjr 
              go_wp2
              rw [← HW6.out]
              rw [← HW6.out] at k0 k1 m1 bb0 hM6 g0 g1 f0 f1
              go_region
              all_goals
                have HNx := Lib.hid (HN.out _ rfl)
                clear HN k0 k1 m1 bb0 hM6 g0 g1 f0 f1 s0 s1
                go_wp2
                go_roundw
                case rel => exact ⟨j + 1, by omega, by go_num, HNx⟩
                case measure => simp [intOf]; omega
            · obtain rfl : m = j := by omega
              have hjl' : ¬ (m : Int) < (m : Int) := by omega
              have HD := Lib.hid (show ∃ q cp, LI B ws W R N (k + 1) M (fun i => (ow rows i).map (Ho.sh n2)) q cp from ⟨_, _, HJ.out.1.congr (rows' := (fun i => (ow rows i).map (Ho.sh n2))) (fun i _ => by
                by_cases e : i = k
                · subst e; rw [up_at, He2.out, shU_all]
                · rw [up_ne _ _ e]), HJ.out.2⟩)
              clear HJ
              go_wp2
              go_roundw
              case rel => exact ⟨k + 1, by omega, by go_num, HD⟩
              case measure => simp [intOf]; omega
      · obtain rfl : N = k := by omega
        have hlt' : ¬ (N : Int) < (N : Int) := by omega
        have hbz := HBz.out
        have hrr : HR wr (.slice (some ⟨R, 0, none⟩) N N) N (lsh n2 rows) := by
          have := hC.1.rr
          rwa [ow_range (N := N) (rows := fun i => (ow rows i).map (Ho.sh n2)) (l := lsh n2 rows) (by rw [lsh_len, Hn.out]) (fun i hi => (lsh_ow (by rw [← Hn.out]; exact hi)).symm)] at this
        have HCk := Lib.hid (LCheck_calls W _ _ (lsh n2 rows) wr hrr)
        clear hrr hC b0 b1
        go_wp2_with fail
        refine HCk.out.mono ?_
        rintro e w9 ⟨rfl, x9⟩
        have X9 := Lib.hid x9
        have m1b := x9.cell m1; have m0b := x9.cell m0
        have hx9 : Ext B w9 := HCS.out.1.x.trans x9
        have r4 := HR4.out w9 hx9
        have c4 := r4.c0; have c5 := r4.c1; have f4 := r4.f0; have f5 := r4.f1
        clear x9 HCk m0 m1
        by_cases hz : lchk W (lsh n2 rows) = 0
        case neg =>
          have hne : (lchk W (lsh n2 rows) != 0) = true := by rw [bne, beq_eq_false_iff_ne.2 hz]; rfl
          have HF := Lib.hid (HZ.out w9 1 hx9 (by rw [HSh.out, if_neg hz]) (by decide))
          have c6 := (r4.set2 (.int .i64 0) (.slice none 0 0)).c0; have c7 := (r4.set2 (.int .i64 0) (.slice none 0 0)).c1
          clear hz r4 hx9
          go_wp2
          exact bodyPost_ret (v := .tuple #[.agg #[.int .i64 0, .slice none 0 0], .int .i64 1]) (by simp [results, Tryd.results14, go_sem, c6, c7]) rfl HF.out
        have c6 := (r4.set2 (.int .i64 (W : Int)) (.slice (some ⟨R, 0, none⟩) N N)).c0
        have c7 := (r4.set2 (.int .i64 (W : Int)) (.slice (some ⟨R, 0, none⟩) N N)).c1
        have HF := Lib.hid (show RetLE2 w (shW W n rows) (shR W n rows) (shE W n rows) (.returned (.tuple #[.agg #[.int .i64 (W : Int), .slice (some ⟨R, 0, none⟩) N N], .int .i64 0])) ((w9.setCell ⟨w.heap.size + 1, 0, none⟩ (.int .i64 (W : Int))).setCell ⟨w.heap.size + 1, 0 + 1, none⟩ (.slice (some ⟨R, 0, none⟩) N N)) from by
          have hse : shE W n rows = 0 := by rw [HSh.out, if_pos hz]
          obtain ⟨hs1, hs2⟩ := HSr.out hse
          rw [hs1, hs2, hse]
          have h2 := (HCS.out.1.later X9.out).below (v0 := .int .i64 (W : Int)) (v1 := .slice (some ⟨R, 0, none⟩) N N) XB.out (P := w.heap.size + 1) (by omega) (by omega)
          have e1 := ow_range (N := N) (rows := fun i => (ow rows i).map (Ho.sh n2)) (l := lsh n2 rows) (by rw [lsh_len, Hn.out]) (fun i hi => (lsh_ow (by rw [← Hn.out]; exact hi)).symm)
          have e2 : (lsh n2 rows).length = N := by rw [lsh_len, ← Hn.out]
          refine ⟨_, rfl, ?_, h2.x⟩
          have := h2.rr
          rw [e1] at this
          rw [e2]; exact this)
        rw [hz]
        clear HCS r4 hx9 hz
        go_wp2
        exact bodyPost_ret (v := .tuple #[.agg #[.int .i64 (W : Int), .slice (some ⟨R, 0, none⟩) N N], .int .i64 0]) (by simp [results, Tryd.results14, go_sem, c6, c7]) rfl HF.out
  · skip
    clear q0 q1 q2 q3 e0 e1 hmk hm1 hm2
    obtain ⟨w2, hw2⟩ : ∃ w2, w2 = ((B.alloc (.cells #[.int .i64 (W : Int), .slice (some ⟨B.heap.size + 1, 0, none⟩) N N] 24)).alloc (.cells (madeCells #[.slice none 0 0] N) 37)).drew := ⟨_, rfl⟩
    have hst : ∃ q cp, LI B w2 W (B.heap.size + 1) N 0 (B.heap.size) (fun i => (ow rows i).map (Ho.sh n2)) q cp := by
      rw [hw2]
      have hrow := World.rowIs_made (B.alloc (.cells #[.int .i64 (W : Int), .slice (some ⟨B.heap.size + 1, 0, none⟩) N N] 24)) (.slice none 0 0) N 37
      rw [show (B.alloc (.cells #[.int .i64 (W : Int), .slice (some ⟨B.heap.size + 1, 0, none⟩) N N] 24)).heap.size = B.heap.size + 1 by simp] at hrow
      refine ⟨fun _ => 0, fun _ => 0, HK.start (f := fun _ => .slice none 0 0) (((Ext.refl B).alloc _).alloc _).drew (by omega) (by unfold maxLen; omega) (Ext.row (Ext.refl _).drew hrow), ?_⟩
      exact (B2.new B _ _ _).ext (((Ext.refl _).alloc _).drew)
    have xw2 : Ext B w2 := by rw [hw2]; exact (((Ext.refl B).alloc _).alloc _).drew
    obtain ⟨R, hR⟩ : ∃ R, R = B.heap.size + 1 := ⟨_, rfl⟩
    obtain ⟨M, hM⟩ : ∃ M, M = B.heap.size := ⟨_, rfl⟩
    rw [← hw2]
    rw [← hR, ← hM] at hst ⊢
    have HRM := Lib.hid (show R ≠ M ∧ B.heap.size ≤ R ∧ B.heap.size ≤ M from by omega)
    have HST := Lib.hid hst
    have X2 := Lib.hid xw2
    have b0 := (HB2.out w2 xw2).c0; have b1 := (HB2.out w2 xw2).c1
    clear hR hM hst hw2 xw2
    go_wp2
    clear b0 b1
    go_loopw [8, 9, 10, 11, 31, 45] (fun _ _ _ _ i _ wr => ∃ k : Nat, k ≤ N ∧ i = .int .i64 k ∧ Hid (∃ q cp, LI B wr W R N k M (fun i => (ow rows i).map (Ho.sh n2)) q cp)) (fun _ _ _ _ i _ _ => N - (intOf i).toNat)
    case atStart => exact ⟨0, Nat.zero_le _, rfl, HST⟩
    case round =>
      obtain ⟨k, hk, rfl, HC⟩ := hrel
      clear HST
      obtain ⟨q, cp, hC⟩ := HC.out
      have HCS := Lib.hid hC
      clear HC
      have b0 := (HB2.out wr hC.1.x).c0; have b1 := (HB2.out wr hC.1.x).c1
      have m1 := hC.2.c1; have m0 := hC.2.c0
      by_cases hlt : k < N
      · skip
        have hlt' : (k : Int) < (N : Int) := by omega
        obtain ⟨b, o, a, m, d, rfl, hc0, hr0⟩ := HA.out k hlt
        have hrB := hr0.ext XB.out
        replace hc0 := (XB.out.trans hC.1.x).cell hc0
        obtain ⟨_, _, e1, e2, e3, e4, e5⟩ := hrB.open
        simp only [Value.slice.injEq] at e1
        obtain ⟨rfl, rfl, _⟩ := e1
        unfold maxLen at e4
        have hm1 : m ≤ 1000 := by rw [e2]; exact HL.out k hlt
        have HE5 := Lib.hid e5; have He2 := Lib.hid e2
        obtain ⟨vk, hvk⟩ := hC.1.ex hlt
        have hfk := hC.1.frozen k
        have hmk := fun w' => run_make_ho .i64 .i64 m (by omega) w'
        have xg : Ext wr (wr.alloc (.cells (madeCells z2 (m * 2)) 39)) := (Ext.refl wr).alloc _
        have hCA := hC.1.later xg
        have m1a := xg.cell m1
        obtain ⟨vk2, hvk2⟩ := hCA.ex hlt
        have hfk2 := hCA.frozen k
        clear hr0 hrB e2 e5 hC hCA xg
        go_wp2
        go_region
        all_goals
          have hC := HCS.out
          have xg : Ext wr (wr.alloc (.cells (madeCells z2 (m * 2)) 39)) := (Ext.refl wr).alloc _
          have hCA := hC.1.later xg
          have hRO := HO.made wr m (by unfold maxLen; omega)
          have hlt3 := hC.1.lt
          have hMlt : M < wr.heap.size := hC.2.lt
          have hql := fun i (hi : i < k) => (hC.1.ro i hi).1.lt
          have hput := hCA.put hlt hRO (by have := hC.1.x.size; exact this) (by omega) (fun i hi => by have := hql i hi; omega)
          rw [List.length_replicate] at hput
          have hMb2 : B2 ((wr.alloc (.cells (madeCells z2 (m * 2)) 39)).setCell ⟨R, k, none⟩ (.slice (some ⟨wr.heap.size, 0, none⟩) m m)) M (.int .i64 (W : Int)) (.slice (some ⟨R, 0, none⟩) N N) 24 := (hC.2.ext xg).setOther (by have := HRM.out; simp only []; omega)
          obtain ⟨g, hg⟩ : ∃ g, g = wr.heap.size := ⟨_, rfl⟩
          have HgM := Lib.hid (show M ≠ g ∧ R ≠ g from ⟨by omega, by omega⟩)
          have HgB := Lib.hid (show B.heap.size ≤ g from by rw [hg]; exact hC.1.x.size)
          obtain ⟨w3, hw3⟩ : ∃ w3, w3 = ((wr.alloc (.cells (madeCells z2 (m * 2)) 39)).setCell ⟨R, k, none⟩ (.slice (some ⟨wr.heap.size, 0, none⟩) m m)).drew := ⟨_, rfl⟩
          have h3 : LI B w3 W R N (k + 1) M (up (fun i => (ow rows i).map (Ho.sh n2)) k (shU n2 (ow rows k) 0)) (up q k g) (up cp k m) := by
            rw [hw3, shU_zero, ← He2.out, hg]
            exact ⟨hput.later (Ext.refl _).drew, hMb2.ext (Ext.refl _).drew⟩
          have H3 := Lib.hid h3
          have Hg := Lib.hid hg
          rw [← hw3, ← hg]
          clear hC xg hCA hRO hlt3 hMlt hql hput hMb2 hg hw3 h3 hvk hfk hvk2 hfk2 m0 m1 m1a hc0 hmk b0 b1
          go_wp2
          go_loopw [10, 11, 45] (fun _ _ i ws => ∃ j : Nat, j ≤ m ∧ i = .int .i64 j ∧ Hid (LI B ws W R N (k + 1) M (up (fun i => (ow rows i).map (Ho.sh n2)) k (shU n2 (ow rows k) j)) (up q k g) (up cp k m))) (fun _ _ i _ => m - (intOf i).toNat)
          case atStart => exact ⟨0, Nat.zero_le _, rfl, H3⟩
          case round =>
            obtain ⟨j, hj, rfl, HJ⟩ := hrel
            clear H3
            obtain ⟨ws, hws⟩ : ∃ ws : World, ws = wr := ⟨_, rfl⟩
            rw [← hws] at HJ ⊢
            clear hws
            by_cases hjl : j < m
            · skip
              have hjl' : (j : Int) < (m : Int) := by omega
              obtain ⟨b2, o2, rfl, e8⟩ := HE5.out j hjl
              obtain ⟨s0, s1⟩ := e8.ext HJ.out.1.x
              have hjr : j < (ow rows k).length := by rw [← He2.out]; exact hjl
              have hbd := HBd.out k (by rw [← Hn.out]; exact hlt) _ (oi_mem hjr)
              have hset := shU_set (n := n2) (l := ow rows k) (j := j) hjr
              rcases hh : oi (ow rows k) j with ⟨P, r⟩
              rw [hh] at s0 s1 hbd hset
              simp only at s0 s1 hbd
              obtain ⟨hb1, hb2⟩ := hbd
              have hpm : j < m := hjl
              have wz4 : IntKind.i64.wrap (P + n2) = P + n2 := IntWalk.i64_in _ ⟨by omega, by omega⟩
              have HSet := Lib.hid hset
              have hml : (shU n2 (ow rows k) j).length = m := by rw [shU_len _ _ (by rw [← He2.out]; omega), He2.out]
              have HMl := Lib.hid hml
              obtain ⟨w6, hw6⟩ : ∃ w6, w6 = ws.alloc (.cells #[.int .i64 P, .bool r] 39) := ⟨_, rfl⟩
              have x6 : Ext ws w6 := by rw [hw6]; exact (Ext.refl ws).alloc _
              have hB6 : B2 w6 ws.heap.size (.int .i64 P) (.bool r) 39 := by rw [hw6]; exact B2.new ws _ _ _
              have k0 := hB6.c0; have k1 := hB6.c1
              have hC6 := HJ.out.1.later x6
              have m1 := (HJ.out.2.ext x6).c1
              have bb0 := (HB2.out w6 hC6.x).c0
              have hM6 := hC6.cell (i := k) (by omega) (by omega)
              rw [up_at, up_at, up_at, hml] at hM6
              have hro := (hC6.ro k (by omega)).1
              rw [up_at, up_at, up_at] at hro
              obtain ⟨z0, g0⟩ := hro.shapeCell (o := j * 2) (by omega)
              obtain ⟨z1, g1⟩ := hro.shapeCell (o := j * 2 + 1) (by omega)
              have f0 := hro.frozen (j * 2); have f1 := hro.frozen (j * 2 + 1)
              have hP9 := hC6.putHo (j := k) (i := j) (by omega) (by rw [up_at, hml]; exact hpm) ⟨P + n2, r⟩
              rw [up_at, up_at] at hP9
              have hD9 := hP9.congr (rows' := up (fun i => (ow rows i).map (Ho.sh n2)) k (shU n2 (ow rows k) (j + 1))) (fun i _ => by
                by_cases e : i = k
                · subst e; rw [up_at, up_at]; exact HSet.out
                · rw [up_ne _ _ e, up_ne _ _ e, up_ne _ _ e])
              have hN := fun w9 (e : w9 = (((w6.setCell ⟨g, j * 2, none⟩ (.int .i64 (P + n2))).setCell ⟨g, j * 2 + 1, none⟩ (.bool (r))).drew)) => show LI B w9 W R N (k + 1) M (up (fun i => (ow rows i).map (Ho.sh n2)) k (shU n2 (ow rows k) (j + 1))) (up q k g) (up cp k m) from by
                rw [e]; exact ⟨hD9.later (Ext.refl _).drew, B2.ext (((HJ.out.2.ext x6).setOther HgM.out.1).setOther HgM.out.1) (Ext.refl _).drew⟩
              have HN := Lib.hid hN; have HW6 := Lib.hid hw6
              rw [hw6] at k0 k1 m1 bb0 hM6 g0 g1 f0 f1
              clear hset hml x6 hw6 hB6 hC6 hro hP9 hD9 hN e8 hh hjr 
              go_wp2
              rw [← HW6.out]
              rw [← HW6.out] at k0 k1 m1 bb0 hM6 g0 g1 f0 f1
              go_region
              all_goals
                have HNx := Lib.hid (HN.out _ rfl)
                clear HN k0 k1 m1 bb0 hM6 g0 g1 f0 f1 s0 s1
                go_wp2
                go_roundw
                case rel => exact ⟨j + 1, by omega, by go_num, HNx⟩
                case measure => simp [intOf]; omega
            · obtain rfl : m = j := by omega
              have hjl' : ¬ (m : Int) < (m : Int) := by omega
              have HD := Lib.hid (show ∃ q cp, LI B ws W R N (k + 1) M (fun i => (ow rows i).map (Ho.sh n2)) q cp from ⟨_, _, HJ.out.1.congr (rows' := (fun i => (ow rows i).map (Ho.sh n2))) (fun i _ => by
                by_cases e : i = k
                · subst e; rw [up_at, He2.out, shU_all]
                · rw [up_ne _ _ e]), HJ.out.2⟩)
              clear HJ
              go_wp2
              go_roundw
              case rel => exact ⟨k + 1, by omega, by go_num, HD⟩
              case measure => simp [intOf]; omega
      · obtain rfl : N = k := by omega
        have hlt' : ¬ (N : Int) < (N : Int) := by omega
        have hbz := HBz.out
        have hrr : HR wr (.slice (some ⟨R, 0, none⟩) N N) N (lsh n2 rows) := by
          have := hC.1.rr
          rwa [ow_range (N := N) (rows := fun i => (ow rows i).map (Ho.sh n2)) (l := lsh n2 rows) (by rw [lsh_len, Hn.out]) (fun i hi => (lsh_ow (by rw [← Hn.out]; exact hi)).symm)] at this
        have HCk := Lib.hid (LCheck_calls W _ _ (lsh n2 rows) wr hrr)
        clear hrr hC b0 b1
        go_wp2_with fail
        refine HCk.out.mono ?_
        rintro e w9 ⟨rfl, x9⟩
        have X9 := Lib.hid x9
        have m1b := x9.cell m1; have m0b := x9.cell m0
        have hx9 : Ext B w9 := HCS.out.1.x.trans x9
        have r4 := HR4.out w9 hx9
        have c4 := r4.c0; have c5 := r4.c1; have f4 := r4.f0; have f5 := r4.f1
        clear x9 HCk m0 m1
        by_cases hz : lchk W (lsh n2 rows) = 0
        case neg =>
          have hne : (lchk W (lsh n2 rows) != 0) = true := by rw [bne, beq_eq_false_iff_ne.2 hz]; rfl
          have HF := Lib.hid (HZ.out w9 1 hx9 (by rw [HSh.out, if_neg hz]) (by decide))
          have c6 := (r4.set2 (.int .i64 0) (.slice none 0 0)).c0; have c7 := (r4.set2 (.int .i64 0) (.slice none 0 0)).c1
          clear hz r4 hx9
          go_wp2
          exact bodyPost_ret (v := .tuple #[.agg #[.int .i64 0, .slice none 0 0], .int .i64 1]) (by simp [results, Tryd.results14, go_sem, c6, c7]) rfl HF.out
        have c6 := (r4.set2 (.int .i64 (W : Int)) (.slice (some ⟨R, 0, none⟩) N N)).c0
        have c7 := (r4.set2 (.int .i64 (W : Int)) (.slice (some ⟨R, 0, none⟩) N N)).c1
        have HF := Lib.hid (show RetLE2 w (shW W n rows) (shR W n rows) (shE W n rows) (.returned (.tuple #[.agg #[.int .i64 (W : Int), .slice (some ⟨R, 0, none⟩) N N], .int .i64 0])) ((w9.setCell ⟨w.heap.size + 1, 0, none⟩ (.int .i64 (W : Int))).setCell ⟨w.heap.size + 1, 0 + 1, none⟩ (.slice (some ⟨R, 0, none⟩) N N)) from by
          have hse : shE W n rows = 0 := by rw [HSh.out, if_pos hz]
          obtain ⟨hs1, hs2⟩ := HSr.out hse
          rw [hs1, hs2, hse]
          have h2 := (HCS.out.1.later X9.out).below (v0 := .int .i64 (W : Int)) (v1 := .slice (some ⟨R, 0, none⟩) N N) XB.out (P := w.heap.size + 1) (by omega) (by omega)
          have e1 := ow_range (N := N) (rows := fun i => (ow rows i).map (Ho.sh n2)) (l := lsh n2 rows) (by rw [lsh_len, Hn.out]) (fun i hi => (lsh_ow (by rw [← Hn.out]; exact hi)).symm)
          have e2 : (lsh n2 rows).length = N := by rw [lsh_len, ← Hn.out]
          refine ⟨_, rfl, ?_, h2.x⟩
          have := h2.rr
          rw [e1] at this
          rw [e2]; exact this)
        rw [hz]
        clear HCS r4 hx9 hz
        go_wp2
        exact bodyPost_ret (v := .tuple #[.agg #[.int .i64 (W : Int), .slice (some ⟨R, 0, none⟩) N N], .int .i64 0]) (by simp [results, Tryd.results14, go_sem, c6, c7]) rfl HF.out
end Go.Proofs.YthllbcjglcplhaaDoor
/- ganseyref20.Row. -/
namespace Go.Proofs.YthllbcjglcplhaaDoor
set_option linter.unusedVariables false
set_option linter.unusedSimpArgs false
set_option maxRecDepth 8000
open Go Go.RowKit

/-- A block of bytes. -/
def BK (w : World) (g : Nat) (xs : List Int) : Prop := w.rowIs g 5 xs.length (fun i => .int .u8 (gi xs i))
theorem BK.ext {w w' : World} {g : Nat} {xs : List Int} (h : BK w g xs) (x : Ext w w') : BK w' g xs := x.row h
theorem BK.cell {w : World} {g i : Nat} {xs : List Int} (h : BK w g xs) (hi : i < xs.length) : w.cell? ⟨g, i, none⟩ = some (.int .u8 (gi xs i)) := World.rowIs.cell h hi
theorem BK.frozen {w : World} {g : Nat} {xs : List Int} (h : BK w g xs) (i : Nat) : w.frozen? ⟨g, i, none⟩ = false := World.rowIs.frozen h i
theorem BK.lt {w : World} {g : Nat} {xs : List Int} (h : BK w g xs) : g < w.heap.size := World.rowIs.lt h
theorem BK.of_fun {w : World} {g n : Nat} {f : Nat → Value} {xs : List Int} (h : w.rowIs g 5 n f) (hn : n = xs.length) (hf : ∀ i, i < n → f i = .int .u8 (gi xs i)) : BK w g xs := by
  subst hn
  obtain ⟨cur, h1, h2, h3⟩ := h
  exact ⟨cur, h1, h2, fun i hi => by rw [h3 i hi, hf i (by omega)]⟩
theorem BK.set {w : World} {g i : Nat} {xs : List Int} (h : BK w g xs) (hi : i < xs.length) (x : Int) : BK (w.setCell ⟨g, i, none⟩ (.int .u8 x)) g (xs.set i x) := by
  refine BK.of_fun (World.rowIs.set h i (.int .u8 x)) (by simp) fun j hj => ?_
  rw [gi_set hi]
  by_cases e : j = i
  · subst e; simp
  · simp [e]
theorem BK.is {w : World} {g n : Nat} {xs : List Int} (h : BK w g xs) (hn : n = xs.length) (hm : n ≤ 1000000) : IS .u8 w (.slice (some ⟨g, 0, none⟩) n n) n xs := by
  subst hn
  exact IS.of_row h rfl (by unfold maxLen; omega) fun i hi => rfl
theorem eiU8 : EI Tryd.prog 76 5 (.int .u8 0) 1 := ⟨Tryd.underlying76, by kernel_rfl, rfl⟩
theorem BK.made (w : World) (n : Nat) : BK (w.alloc (.cells (madeCells #[.int .u8 0] n) 5)) w.heap.size (List.replicate n 0) := by
  have hz : ∀ i, i < n → (madeCells #[.int .u8 0] n)[i]? = some (.int .u8 0) := fun i hi => by unfold madeCells; simp [hi, Nat.mod_one]
  have hr := World.rowIs_alloc w (madeCells #[.int .u8 0] n) 5 (fun _ => .int .u8 0) (fun i hi => hz i (by rw [size_madeCells] at hi; exact hi))
  rw [size_madeCells] at hr
  exact BK.of_fun hr (by simp) fun i hi => by rw [gi_rep hi]
/-- Dots, as far as they are laid. -/
def dots (n k : Nat) : List Int := List.replicate k 46 ++ List.replicate (n - k) 0
theorem dots_len {n k : Nat} (h : k ≤ n) : (dots n k).length = n := by unfold dots; simp; omega
theorem dots_set {n k : Nat} (h : k < n) : (dots n k).set k 46 = dots n (k + 1) := by
  unfold dots
  rw [show n - k = (n - (k + 1)) + 1 by omega, List.replicate_succ, List.set_append_right _ _ (by simp)]
  simp [List.replicate_succ']
/-- A string and a number are returned. -/
def RetSN (w0 : World) (s : ByteArray) (n : Int) (e : Ending) (w' : World) : Prop := e = .returned (.tuple #[.string s, .int .i64 n]) ∧ Ext w0 w'
def rowT1 (W : Nat) (l : List Ho) : List Int := if rowE W l 0 = true then sgn W l else []
def rowN (W : Nat) (l : List Ho) : Int := if rowE W l 0 = true then 1 else 0
set_option maxHeartbeats 4000000 in
theorem RRow20_calls (v : Value) (c W : Nat) (l : List Ho) (w : World) (h : HS w v c l) (hW : W ≤ 1000) :
    Calls Tryd.prog 24 #[v, .int .i64 (W : Int)] w (RetSN w (bstr (rowT1 W l)) (rowN W l)) := by
  obtain ⟨ao, n, rfl, hn, hc, hcm, hat⟩ := h.open
  unfold maxLen at hcm
  have hmk := run_make_lc (P := Tryd.prog) eiU8 .i64 .i64 W W (by omega) (by omega) (by omega) w
  have hbad := fun (h : rowE W l 0 = false) => show rowT1 W l = [] ∧ rowN W l = 0 from by unfold rowT1 rowN; rw [h]; exact ⟨rfl, rfl⟩
  have hok := fun (h : rowE W l 0 = true) => show rowT1 W l = sgn W l ∧ rowN W l = 1 from by unfold rowT1 rowN; rw [h]; exact ⟨rfl, rfl⟩
  obtain ⟨S, hS⟩ : ∃ S, S = rowT1 W l := ⟨_, rfl⟩
  obtain ⟨N, hN⟩ : ∃ N, N = rowN W l := ⟨_, rfl⟩
  rw [← hS, ← hN] at hbad hok ⊢
  have HA := Lib.hid hat; have HBad := Lib.hid hbad; have HOk := Lib.hid hok; have Hn := Lib.hid hn
  have HM := Lib.hid (BK.made w W)
  clear hat h hS hN hbad hok hn
  unfold RetSN
  go_enter Tryd.func24, Tryd.ntmps24
  go_wp2
  clear hmk
  go_loopw [7] (fun i wr => ∃ k : Nat, k ≤ W ∧ i = .int .i64 k ∧ Hid (Ext w wr ∧ BK wr w.heap.size (dots W k))) (fun i _ => W - (intOf i).toNat)
  case atStart => exact ⟨0, Nat.zero_le _, rfl, Lib.hid ⟨(Ext.refl w).alloc _, by have := HM.out; simpa [dots] using this⟩⟩
  case round =>
    obtain ⟨k, hk, rfl, H⟩ := hrel
    by_cases hlt : k < W
    · have t1 : (k : Int) < W := by omega
      have hcl := H.out.2.cell (i := k) (by rw [dots_len hk]; exact hlt)
      have hfz := H.out.2.frozen k
      have HN2 := Lib.hid (show Ext w (wr.setCell ⟨w.heap.size, k, none⟩ (.int .u8 46)) ∧ BK (wr.setCell ⟨w.heap.size, k, none⟩ (.int .u8 46)) w.heap.size (dots W (k + 1)) from
        ⟨H.out.1.setCell (Nat.le_refl _) _, by rw [← dots_set hlt]; exact H.out.2.set (by rw [dots_len hk]; exact hlt) 46⟩)
      go_wp2
      go_roundw
      case rel => exact ⟨k + 1, by omega, by go_num, HN2⟩
      case measure => simp [intOf]; omega
    · obtain rfl : k = W := by omega
      have t1 : ¬ (k : Int) < k := by omega
      have HS0 := Lib.hid (show Ext w wr ∧ BK wr w.heap.size (sgn k []) from ⟨H.out.1, by have := H.out.2; simpa [dots, sgn] using this⟩)
      obtain ⟨W, rfl⟩ : ∃ W : Nat, W = k := ⟨_, rfl⟩
      clear hlt hk
      go_wp2
      go_loopw [8, 9, 10] (fun i _ _ wr => ∃ (j f : Nat), j ≤ n ∧ i = .int .i64 j ∧ Hid (j = 0 → f = 0) ∧ Hid (Ext w wr ∧ BK wr w.heap.size (sgn W (l.take j))) ∧ Hid (Pre W l j f)) (fun i _ _ _ => n - (intOf i).toNat)
      case atStart => exact ⟨0, 0, Nat.zero_le _, rfl, Lib.hid (fun _ => rfl), HS0, Lib.hid (Pre.start _ _)⟩
      case round =>
        obtain ⟨j, f, hj, rfl, HZ, H2, HP⟩ := hrel
        by_cases hjn : j < n
        · obtain ⟨b, o, rfl, z⟩ := HA.out j hjn
          obtain ⟨z1, z2⟩ := z.ext H2.out.1
          have t3 : (j : Int) < n := by omega
          have hiff := HP.out.iff HZ.out
          have hbd := fun (h : ¬ Ho.rok W l j (sgn W (l.take j))) => HBad.out (HP.out.go.trans (rowE_bad (k := j) (by rw [← Hn.out]; exact hjn) (fun h' => h (hiff.2 h'))))
          have hstep := fun (h : Ho.rok W l j (sgn W (l.take j))) => HP.out.step (by rw [← Hn.out]; exact hjn) (hiff.1 h)
          have hHz : (1 ≤ j → ∃ p' : Int, (oi l (j - 1)).p = p' ∧ wr.cell? ⟨b, o + (j - 1) * 2, none⟩ = some (.int .i64 p')) := fun h1 => by
            obtain ⟨b', o', e', z'⟩ := HA.out (j - 1) (by omega)
            simp only [Option.some.injEq, Addr.mk.injEq, and_true] at e'
            obtain ⟨rfl, rfl⟩ := e'
            exact ⟨_, rfl, (z'.ext H2.out.1).1⟩
          unfold Ho.rok at hbd hstep
          have hst := take_succ_oi (l := l) (k := j) (by rw [← Hn.out]; exact hjn)
          obtain ⟨SG, hSG⟩ : ∃ SG, SG = sgn W (l.take j) := ⟨_, rfl⟩
          have hsn : sgn W (l.take (j + 1)) = put1 SG (oi l j) := by rw [hst, sgn_snoc, ← hSG]
          have hSl : SG.length = W := by rw [hSG, sgn_len]
          rw [← hSG] at hbd hstep H2
          rcases hh : oi l j with ⟨p, q⟩
          rw [hh] at z1 z2 hbd hstep hsn
          have htl := (⟨p, q⟩ : Ho).two
          obtain ⟨T, hT⟩ : ∃ T, T = (⟨p, q⟩ : Ho).two := ⟨_, rfl⟩
          have hTq : (q = true → T = p - 1) ∧ (q = false → T = p + 1) := by rw [hT]; unfold Ho.two; constructor <;> intro e <;> simp [e]
          rw [← hT] at hbd hstep
          have hput : put1 SG ⟨p, q⟩ = (SG.set p.toNat 79).set T.toNat 47 := by unfold put1; rw [← hT]
          rw [hput] at hsn
          simp only at z1 z2 hbd hstep
          have HBd := Lib.hid hbd; have HSt := Lib.hid hstep; have HTq := Lib.hid hTq; have HSn := Lib.hid hsn; have HSl := Lib.hid hSl; have HHz := Lib.hid hHz
          clear hbd hstep hTq hsn hSl hHz hput hT htl hh hst hSG hiff z
          by_cases c1 : p < 0
          · obtain ⟨rfl, rfl⟩ := HBd.out (fun h => by have := h.1; omega)
            go_wp2
            go_ret2
            exact ⟨rfl, H2.out.1⟩
          by_cases c2 : (W : Int) ≤ p
          · obtain ⟨rfl, rfl⟩ := HBd.out (fun h => by have := h.1; omega)
            go_wp2
            go_ret2
            exact ⟨rfl, H2.out.1⟩
          by_cases c3 : j = 0
          · subst c3
            rw [Nat.zero_mul, Nat.add_zero] at z1
            rw [Nat.zero_mul, Nat.add_zero] at z2
            cases q
            · skip
              have w5 : IntKind.i64.wrap (p + 1) = (p + 1) := IntWalk.i64_in _ ⟨by omega, by omega⟩
              have w6 : IntKind.i64.wrap (p + 1) = p + 1 := IntWalk.i64_in _ ⟨by omega, by omega⟩
              obtain rfl : T = p + 1 := HTq.out.2 rfl
              by_cases c6 : (W : Int) ≤ p + 1
              · obtain ⟨rfl, rfl⟩ := HBd.out (fun h => by have := h.2.2.1; omega)
                go_wp2
                go_ret2
                exact ⟨rfl, H2.out.1⟩
              have c5 : ¬ p + 1 < 0 := by omega
              obtain ⟨P, hP⟩ : ∃ P : Nat, p = P := ⟨p.toNat, by omega⟩
              subst hP
              obtain ⟨R, hR⟩ : ∃ R : Nat, (P : Int) + 1 = R := ⟨((P : Int) + 1).toNat, by omega⟩
              have hPW : P < W := by omega
              have hRW : R < W := by omega
              rw [hR] at HBd HSt HSn c5 c6 w5
              have e1 := H2.out.2.cell (i := P) (by rw [HSl.out]; exact hPW)
              have e2 := H2.out.2.cell (i := R) (by rw [HSl.out]; exact hRW)
              have f1 := H2.out.2.frozen P
              have f2 := H2.out.2.frozen R
              have u1 := HBd.out; have u2 := HSt.out; have u3 := HSn.out
              simp only [Int.toNat_natCast] at u1 u2 u3
              replace HBd := Lib.hid u1
              replace HSt := Lib.hid u2
              replace HSn := Lib.hid u3
              clear u1 u2 u3
              obtain ⟨g1, hg1⟩ : ∃ g1, g1 = gi SG P := ⟨_, rfl⟩
              obtain ⟨g2, hg2⟩ : ∃ g2, g2 = gi SG R := ⟨_, rfl⟩
              rw [← hg1] at e1 HBd HSt
              rw [← hg2] at e2 HBd HSt
              have HR := Lib.hid hR
              have hwr := fun w1 (e : w1 = (wr.setCell ⟨w.heap.size, P, none⟩ (.int .u8 79)).setCell ⟨w.heap.size, R, none⟩ (.int .u8 47)) => show Ext w w1 ∧ BK w1 w.heap.size (sgn W (l.take (0 + 1))) from by
                rw [HSn.out, e]
                exact ⟨(H2.out.1.setCell (Nat.le_refl _) _).setCell (Nat.le_refl _) _, (H2.out.2.set (by rw [HSl.out]; exact hPW) 79).set (by rw [List.length_set, HSl.out]; exact hRW) 47⟩
              have e3 : ∃ v, (wr.setCell ⟨w.heap.size, P, none⟩ (.int .u8 79)).cell? ⟨w.heap.size, R, none⟩ = some v := ⟨_, (H2.out.2.set (by rw [HSl.out]; exact hPW) 79).cell (i := R) (by rw [List.length_set, HSl.out]; exact hRW)⟩
              obtain ⟨v3, e3⟩ := e3
              have f3 := (H2.out.2.set (i := P) (by rw [HSl.out]; exact hPW) 79).frozen R
              have HWr := Lib.hid hwr
              clear hwr hg1 hg2
              by_cases c7 : g1 = 46
              · by_cases c8 : g2 = 46
                · subst c7; subst c8
                  have HPn := Lib.hid (HSt.out ⟨⟨by omega, by omega⟩, fun h => absurd h (by omega), ⟨by omega, by omega⟩, rfl, rfl⟩)
                  clear hR
                  have hR := HR.out
                  go_wp2
                  go_roundw
                  case rel => exact ⟨0 + 1, _, by omega, by go_num, Lib.hid (fun h => by omega), Lib.hid (HWr.out _ rfl), HPn⟩
                  case measure => simp [intOf]; omega
                · obtain ⟨rfl, rfl⟩ := HBd.out (fun h => c8 h.2.2.2.2)
                  have c8b : (g2 == 46) = false := beq_eq_false_iff_ne.2 c8
                  subst c7
                  go_wp2
                  go_ret2
                  exact ⟨rfl, H2.out.1⟩
              · obtain ⟨rfl, rfl⟩ := HBd.out (fun h => c7 h.2.2.2.1)
                have c7b : (g1 == 46) = false := beq_eq_false_iff_ne.2 c7
                go_wp2
                go_ret2
                exact ⟨rfl, H2.out.1⟩
            · skip
              have w5 : IntKind.i64.wrap (p - 1) = (p - 1) := IntWalk.i64_in _ ⟨by omega, by omega⟩
              have w6 : IntKind.i64.wrap (p + 1) = p + 1 := IntWalk.i64_in _ ⟨by omega, by omega⟩
              obtain rfl : T = p - 1 := HTq.out.1 rfl
              by_cases c5 : p - 1 < 0
              · obtain ⟨rfl, rfl⟩ := HBd.out (fun h => by have := h.2.2.1; omega)
                go_wp2
                go_ret2
                exact ⟨rfl, H2.out.1⟩
              have c6 : ¬ (W : Int) ≤ p - 1 := by omega
              obtain ⟨P, hP⟩ : ∃ P : Nat, p = P := ⟨p.toNat, by omega⟩
              subst hP
              obtain ⟨R, hR⟩ : ∃ R : Nat, (P : Int) - 1 = R := ⟨((P : Int) - 1).toNat, by omega⟩
              have hPW : P < W := by omega
              have hRW : R < W := by omega
              rw [hR] at HBd HSt HSn c5 c6 w5
              have e1 := H2.out.2.cell (i := P) (by rw [HSl.out]; exact hPW)
              have e2 := H2.out.2.cell (i := R) (by rw [HSl.out]; exact hRW)
              have f1 := H2.out.2.frozen P
              have f2 := H2.out.2.frozen R
              have u1 := HBd.out; have u2 := HSt.out; have u3 := HSn.out
              simp only [Int.toNat_natCast] at u1 u2 u3
              replace HBd := Lib.hid u1
              replace HSt := Lib.hid u2
              replace HSn := Lib.hid u3
              clear u1 u2 u3
              obtain ⟨g1, hg1⟩ : ∃ g1, g1 = gi SG P := ⟨_, rfl⟩
              obtain ⟨g2, hg2⟩ : ∃ g2, g2 = gi SG R := ⟨_, rfl⟩
              rw [← hg1] at e1 HBd HSt
              rw [← hg2] at e2 HBd HSt
              have HR := Lib.hid hR
              have hwr := fun w1 (e : w1 = (wr.setCell ⟨w.heap.size, P, none⟩ (.int .u8 79)).setCell ⟨w.heap.size, R, none⟩ (.int .u8 47)) => show Ext w w1 ∧ BK w1 w.heap.size (sgn W (l.take (0 + 1))) from by
                rw [HSn.out, e]
                exact ⟨(H2.out.1.setCell (Nat.le_refl _) _).setCell (Nat.le_refl _) _, (H2.out.2.set (by rw [HSl.out]; exact hPW) 79).set (by rw [List.length_set, HSl.out]; exact hRW) 47⟩
              have e3 : ∃ v, (wr.setCell ⟨w.heap.size, P, none⟩ (.int .u8 79)).cell? ⟨w.heap.size, R, none⟩ = some v := ⟨_, (H2.out.2.set (by rw [HSl.out]; exact hPW) 79).cell (i := R) (by rw [List.length_set, HSl.out]; exact hRW)⟩
              obtain ⟨v3, e3⟩ := e3
              have f3 := (H2.out.2.set (i := P) (by rw [HSl.out]; exact hPW) 79).frozen R
              have HWr := Lib.hid hwr
              clear hwr hg1 hg2
              by_cases c7 : g1 = 46
              · by_cases c8 : g2 = 46
                · subst c7; subst c8
                  have HPn := Lib.hid (HSt.out ⟨⟨by omega, by omega⟩, fun h => absurd h (by omega), ⟨by omega, by omega⟩, rfl, rfl⟩)
                  clear hR
                  have hR := HR.out
                  go_wp2
                  go_roundw
                  case rel => exact ⟨0 + 1, _, by omega, by go_num, Lib.hid (fun h => by omega), Lib.hid (HWr.out _ rfl), HPn⟩
                  case measure => simp [intOf]; omega
                · obtain ⟨rfl, rfl⟩ := HBd.out (fun h => c8 h.2.2.2.2)
                  have c8b : (g2 == 46) = false := beq_eq_false_iff_ne.2 c8
                  subst c7
                  go_wp2
                  go_ret2
                  exact ⟨rfl, H2.out.1⟩
              · obtain ⟨rfl, rfl⟩ := HBd.out (fun h => c7 h.2.2.2.1)
                have c7b : (g1 == 46) = false := beq_eq_false_iff_ne.2 c7
                go_wp2
                go_ret2
                exact ⟨rfl, H2.out.1⟩
          · obtain ⟨j0, rfl⟩ : ∃ j0, j = j0 + 1 := ⟨j - 1, by omega⟩
            have t4 : (0 : Int) < ((j0 + 1 : Nat) : Int) := by omega
            have t5 : ((j0 + 1 : Nat) : Int) - 1 = (j0 : Int) := by omega
            have w3 : IntKind.i64.wrap (j0 : Int) = (j0 : Int) := IntWalk.i64_in _ ⟨by omega, by omega⟩
            have t6 : j0 < n := by omega
            have t7 : (j0 : Int) < n := by omega
            obtain ⟨p2, hp2, z3⟩ := HHz.out (by omega)
            rw [Nat.add_sub_cancel] at hp2 z3
            rw [Nat.add_sub_cancel, hp2] at HBd HSt
            clear hp2
            by_cases c4 : p ≤ p2
            · obtain ⟨rfl, rfl⟩ := HBd.out (fun h => by have := h.2.1 (by omega); omega)
              go_wp2
              go_ret2
              exact ⟨rfl, H2.out.1⟩
            cases q
            · skip
              have w5 : IntKind.i64.wrap (p + 1) = (p + 1) := IntWalk.i64_in _ ⟨by omega, by omega⟩
              have w6 : IntKind.i64.wrap (p + 1) = p + 1 := IntWalk.i64_in _ ⟨by omega, by omega⟩
              obtain rfl : T = p + 1 := HTq.out.2 rfl
              by_cases c6 : (W : Int) ≤ p + 1
              · obtain ⟨rfl, rfl⟩ := HBd.out (fun h => by have := h.2.2.1; omega)
                go_wp2
                go_ret2
                exact ⟨rfl, H2.out.1⟩
              have c5 : ¬ p + 1 < 0 := by omega
              obtain ⟨P, hP⟩ : ∃ P : Nat, p = P := ⟨p.toNat, by omega⟩
              subst hP
              obtain ⟨R, hR⟩ : ∃ R : Nat, (P : Int) + 1 = R := ⟨((P : Int) + 1).toNat, by omega⟩
              have hPW : P < W := by omega
              have hRW : R < W := by omega
              rw [hR] at HBd HSt HSn c5 c6 w5
              have e1 := H2.out.2.cell (i := P) (by rw [HSl.out]; exact hPW)
              have e2 := H2.out.2.cell (i := R) (by rw [HSl.out]; exact hRW)
              have f1 := H2.out.2.frozen P
              have f2 := H2.out.2.frozen R
              have u1 := HBd.out; have u2 := HSt.out; have u3 := HSn.out
              simp only [Int.toNat_natCast] at u1 u2 u3
              replace HBd := Lib.hid u1
              replace HSt := Lib.hid u2
              replace HSn := Lib.hid u3
              clear u1 u2 u3
              obtain ⟨g1, hg1⟩ : ∃ g1, g1 = gi SG P := ⟨_, rfl⟩
              obtain ⟨g2, hg2⟩ : ∃ g2, g2 = gi SG R := ⟨_, rfl⟩
              rw [← hg1] at e1 HBd HSt
              rw [← hg2] at e2 HBd HSt
              have HR := Lib.hid hR
              have hwr := fun w1 (e : w1 = (wr.setCell ⟨w.heap.size, P, none⟩ (.int .u8 79)).setCell ⟨w.heap.size, R, none⟩ (.int .u8 47)) => show Ext w w1 ∧ BK w1 w.heap.size (sgn W (l.take (j0 + 1 + 1))) from by
                rw [HSn.out, e]
                exact ⟨(H2.out.1.setCell (Nat.le_refl _) _).setCell (Nat.le_refl _) _, (H2.out.2.set (by rw [HSl.out]; exact hPW) 79).set (by rw [List.length_set, HSl.out]; exact hRW) 47⟩
              have e3 : ∃ v, (wr.setCell ⟨w.heap.size, P, none⟩ (.int .u8 79)).cell? ⟨w.heap.size, R, none⟩ = some v := ⟨_, (H2.out.2.set (by rw [HSl.out]; exact hPW) 79).cell (i := R) (by rw [List.length_set, HSl.out]; exact hRW)⟩
              obtain ⟨v3, e3⟩ := e3
              have f3 := (H2.out.2.set (i := P) (by rw [HSl.out]; exact hPW) 79).frozen R
              have HWr := Lib.hid hwr
              clear hwr hg1 hg2
              by_cases c7 : g1 = 46
              · by_cases c8 : g2 = 46
                · subst c7; subst c8
                  have HPn := Lib.hid (HSt.out ⟨⟨by omega, by omega⟩, fun _ => by omega, ⟨by omega, by omega⟩, rfl, rfl⟩)
                  clear hR
                  have hR := HR.out
                  go_wp2
                  go_roundw
                  case rel => exact ⟨j0 + 1 + 1, _, by omega, by go_num, Lib.hid (fun h => by omega), Lib.hid (HWr.out _ rfl), HPn⟩
                  case measure => simp [intOf]; omega
                · obtain ⟨rfl, rfl⟩ := HBd.out (fun h => c8 h.2.2.2.2)
                  have c8b : (g2 == 46) = false := beq_eq_false_iff_ne.2 c8
                  subst c7
                  go_wp2
                  go_ret2
                  exact ⟨rfl, H2.out.1⟩
              · obtain ⟨rfl, rfl⟩ := HBd.out (fun h => c7 h.2.2.2.1)
                have c7b : (g1 == 46) = false := beq_eq_false_iff_ne.2 c7
                go_wp2
                go_ret2
                exact ⟨rfl, H2.out.1⟩
            · skip
              have w5 : IntKind.i64.wrap (p - 1) = (p - 1) := IntWalk.i64_in _ ⟨by omega, by omega⟩
              have w6 : IntKind.i64.wrap (p + 1) = p + 1 := IntWalk.i64_in _ ⟨by omega, by omega⟩
              obtain rfl : T = p - 1 := HTq.out.1 rfl
              by_cases c5 : p - 1 < 0
              · obtain ⟨rfl, rfl⟩ := HBd.out (fun h => by have := h.2.2.1; omega)
                go_wp2
                go_ret2
                exact ⟨rfl, H2.out.1⟩
              have c6 : ¬ (W : Int) ≤ p - 1 := by omega
              obtain ⟨P, hP⟩ : ∃ P : Nat, p = P := ⟨p.toNat, by omega⟩
              subst hP
              obtain ⟨R, hR⟩ : ∃ R : Nat, (P : Int) - 1 = R := ⟨((P : Int) - 1).toNat, by omega⟩
              have hPW : P < W := by omega
              have hRW : R < W := by omega
              rw [hR] at HBd HSt HSn c5 c6 w5
              have e1 := H2.out.2.cell (i := P) (by rw [HSl.out]; exact hPW)
              have e2 := H2.out.2.cell (i := R) (by rw [HSl.out]; exact hRW)
              have f1 := H2.out.2.frozen P
              have f2 := H2.out.2.frozen R
              have u1 := HBd.out; have u2 := HSt.out; have u3 := HSn.out
              simp only [Int.toNat_natCast] at u1 u2 u3
              replace HBd := Lib.hid u1
              replace HSt := Lib.hid u2
              replace HSn := Lib.hid u3
              clear u1 u2 u3
              obtain ⟨g1, hg1⟩ : ∃ g1, g1 = gi SG P := ⟨_, rfl⟩
              obtain ⟨g2, hg2⟩ : ∃ g2, g2 = gi SG R := ⟨_, rfl⟩
              rw [← hg1] at e1 HBd HSt
              rw [← hg2] at e2 HBd HSt
              have HR := Lib.hid hR
              have hwr := fun w1 (e : w1 = (wr.setCell ⟨w.heap.size, P, none⟩ (.int .u8 79)).setCell ⟨w.heap.size, R, none⟩ (.int .u8 47)) => show Ext w w1 ∧ BK w1 w.heap.size (sgn W (l.take (j0 + 1 + 1))) from by
                rw [HSn.out, e]
                exact ⟨(H2.out.1.setCell (Nat.le_refl _) _).setCell (Nat.le_refl _) _, (H2.out.2.set (by rw [HSl.out]; exact hPW) 79).set (by rw [List.length_set, HSl.out]; exact hRW) 47⟩
              have e3 : ∃ v, (wr.setCell ⟨w.heap.size, P, none⟩ (.int .u8 79)).cell? ⟨w.heap.size, R, none⟩ = some v := ⟨_, (H2.out.2.set (by rw [HSl.out]; exact hPW) 79).cell (i := R) (by rw [List.length_set, HSl.out]; exact hRW)⟩
              obtain ⟨v3, e3⟩ := e3
              have f3 := (H2.out.2.set (i := P) (by rw [HSl.out]; exact hPW) 79).frozen R
              have HWr := Lib.hid hwr
              clear hwr hg1 hg2
              by_cases c7 : g1 = 46
              · by_cases c8 : g2 = 46
                · subst c7; subst c8
                  have HPn := Lib.hid (HSt.out ⟨⟨by omega, by omega⟩, fun _ => by omega, ⟨by omega, by omega⟩, rfl, rfl⟩)
                  clear hR
                  have hR := HR.out
                  go_wp2
                  go_roundw
                  case rel => exact ⟨j0 + 1 + 1, _, by omega, by go_num, Lib.hid (fun h => by omega), Lib.hid (HWr.out _ rfl), HPn⟩
                  case measure => simp [intOf]; omega
                · obtain ⟨rfl, rfl⟩ := HBd.out (fun h => c8 h.2.2.2.2)
                  have c8b : (g2 == 46) = false := beq_eq_false_iff_ne.2 c8
                  subst c7
                  go_wp2
                  go_ret2
                  exact ⟨rfl, H2.out.1⟩
              · obtain ⟨rfl, rfl⟩ := HBd.out (fun h => c7 h.2.2.2.1)
                have c7b : (g1 == 46) = false := beq_eq_false_iff_ne.2 c7
                go_wp2
                go_ret2
                exact ⟨rfl, H2.out.1⟩
        · obtain rfl : j = n := by omega
          have t3 : ¬ (j : Int) < j := by omega
          have hg := HP.out.go
          rw [rowE_end (by rw [← Hn.out]; exact Nat.le_refl _)] at hg
          obtain ⟨hS, hN⟩ := HOk.out hg
          have hb := H2.out.2
          rw [List.take_of_length_le (by rw [← Hn.out]; exact Nat.le_refl _), ← hS] at hb
          have hcv : (convert 76 9 (.slice (some ⟨w.heap.size, 0, none⟩) W W)).run Tryd.prog wr = .ok (.string (bstr S)) wr := run_bstr (hb.is (by rw [hS, sgn_len]) (by omega)) Tryd.underlying76 Tryd.underlying5 Tryd.underlying9
          subst hN
          clear hb hS hg hjn
          go_wp2
          go_ret2
          exact ⟨rfl, H2.out.1⟩
end Go.Proofs.YthllbcjglcplhaaDoor
