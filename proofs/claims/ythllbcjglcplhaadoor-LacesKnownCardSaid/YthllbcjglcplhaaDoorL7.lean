/- Texts of this claim in one file: libraries and walks. -/
import Derived.Test.YthllbcjglcplhaaDoorL5
import Derived.Test.YthllbcjglcplhaaDoorL6
/- laces.Mirror. -/
namespace Go.Proofs.YthllbcjglcplhaaDoor
set_option linter.unusedVariables false
set_option linter.unusedSimpArgs false
set_option maxRecDepth 8000
open Go Go.RowKit

theorem HO.other2 {w : World} {g c b o : Nat} {l : List Ho} (h : HO w g c l) (hb : g ≠ b) (v0 v1 : Value) : HO ((w.setCell ⟨b, o, none⟩ v0).setCell ⟨b, o + 1, none⟩ v1) g c l := (h.setOther hb _).setOther hb _
theorem cell_o2 {w : World} {b o : Nat} {a : Addr} {v : Value} (h : w.cell? a = some v) (hb : a.block ≠ b) (v0 v1 : Value) : ((w.setCell ⟨b, o, none⟩ v0).setCell ⟨b, o + 1, none⟩ v1).cell? a = some v := cell_o1 (cell_o1 h hb _) hb _
theorem blk_other2 {w : World} {g b o : Nat} {x : Obj} (h : w.heap[g]? = some x) (hb : g ≠ b) (v0 v1 : Value) : ((w.setCell ⟨b, o, none⟩ v0).setCell ⟨b, o + 1, none⟩ v1).heap[g]? = some x := by
  rw [Deep.blk_setCell_other _ _ _ _ hb, Deep.blk_setCell_other _ _ _ _ hb]; exact h
theorem HK.putHo {w wr : World} {R N k j i : Nat} {rows : Nat → List Ho} {q cp : Nat → Nat} (h : HK w wr R N k rows q cp) (hj : j < k) (hi : i < (rows j).length) (s : Ho) :
    HK w ((wr.setCell ⟨q j, i * 2, none⟩ (.int .i64 s.p)).setCell ⟨q j, i * 2 + 1, none⟩ (.bool s.l)) R N k (up rows j ((rows j).set i s)) q cp := by
  obtain ⟨h1, h2, h3, ⟨f, h4, h5⟩, h6, h7⟩ := h
  have hb := (h6 j hj).2.1
  have hR : R ≠ q j := fun e => (h6 j hj).2.2 e.symm
  refine ⟨(h1.setCell hb _).setCell hb _, h2, h3, ⟨f, (h4.setOther hR _).setOther hR _, fun i' hi' => ?_⟩, fun i' hi' => ?_, h7⟩
  · by_cases e : i' = j
    · subst e; rw [up_at, List.length_set]; exact h5 i' hi'
    · rw [up_ne _ _ e]; exact h5 i' hi'
  · by_cases e : i' = j
    · subst e; rw [up_at]; exact ⟨(h6 i' hi').1.put2 hi s, (h6 i' hi').2⟩
    · rw [up_ne _ _ e]
      exact ⟨(h6 i' hi').1.other2 (fun c => e (h7 i' j hi' hj c)) _ _, (h6 i' hi').2⟩
theorem HK.below {w W1 wr : World} {M N P : Nat} {rows : Nat → List Ho} {q cp : Nat → Nat} {v0 v1 : Value} (h : HK W1 wr M N N rows q cp) (x : Ext w W1) (hP : P < W1.heap.size) (hw : w.heap.size ≤ P) : HK w ((wr.setCell ⟨P, 0, none⟩ v0).setCell ⟨P, 0 + 1, none⟩ v1) M N N rows q cp := by
  obtain ⟨p1, p2, p3, ⟨f, p4, p5⟩, p6, p7⟩ := h
  have hs := x.size
  refine ⟨((x.trans p1).setCell hw _).setCell hw _, by omega, p3, ⟨f, (p4.setOther (by simp only []; omega) _).setOther (by simp only []; omega) _, p5⟩, fun i hi => ?_, p7⟩
  obtain ⟨r1, r2, r3⟩ := p6 i hi
  exact ⟨r1.other2 (by omega) _ _, by omega, r3⟩
/-- A lace is returned. -/
def RetL (w0 : World) (W : Int) (rows : List (List Ho)) (e : Ending) (w' : World) : Prop := ∃ v, e = .returned (.agg #[.int .i64 W, v]) ∧ HR w' v rows.length rows ∧ Ext w0 w'
/-- A lace being filled: its block M, its rows in block R. -/
def LI (B wr : World) (W : Int) (R N k M : Nat) (rows : Nat → List Ho) (q cp : Nat → Nat) : Prop := HK B wr R N k rows q cp ∧ B2 wr M (.int .i64 W) (.slice (some ⟨R, 0, none⟩) N N) 24
def hmU (W : Int) (l : List Ho) (j : Nat) : List Ho := List.replicate (l.length - j) Ho.none ++ (hmir W l).drop (l.length - j)
theorem hmU_len (W : Int) (l : List Ho) {j : Nat} (h : j ≤ l.length) : (hmU W l j).length = l.length := by unfold hmU; simp [hmir_len]; try omega
theorem hmU_zero (W : Int) (l : List Ho) : hmU W l 0 = List.replicate l.length Ho.none := by
  unfold hmU; rw [List.drop_eq_nil_of_le (by rw [hmir_len]; omega)]; simp
theorem hmU_all (W : Int) (l : List Ho) : hmU W l l.length = hmir W l := by unfold hmU; simp
theorem hmU_set {W : Int} {l : List Ho} {j : Nat} (h : j < l.length) : (hmU W l j).set (l.length - 1 - j) ((oi l j).mir W) = hmU W l (j + 1) := by
  unfold hmU
  obtain ⟨p, hp⟩ : ∃ p, p = l.length - 1 - j := ⟨_, rfl⟩
  have e1 : l.length - j = p + 1 := by omega
  have e2 : l.length - (j + 1) = p := by omega
  rw [← hp, e1, e2]
  have hd : (hmir W l).drop p = (oi l j).mir W :: (hmir W l).drop (p + 1) := by
    have hpl : p < (hmir W l).length := by rw [hmir_len]; omega
    rw [List.drop_eq_getElem_cons hpl, ← oi_of_lt hpl]
    congr 1
    rw [hp]; exact hmir_oi h
  rw [hd, List.replicate_succ', List.append_assoc, List.set_append_right _ _ (by simp)]
  simp
def shU (n : Int) (l : List Ho) (j : Nat) : List Ho := (l.map (Ho.sh n)).take j ++ List.replicate (l.length - j) Ho.none
theorem shU_len (n : Int) (l : List Ho) {j : Nat} (h : j ≤ l.length) : (shU n l j).length = l.length := by unfold shU; simp; omega
theorem shU_zero (n : Int) (l : List Ho) : shU n l 0 = List.replicate l.length Ho.none := by unfold shU; simp
theorem shU_all (n : Int) (l : List Ho) : shU n l l.length = l.map (Ho.sh n) := by unfold shU; rw [Nat.sub_self, List.replicate_zero, List.append_nil, List.take_of_length_le (by simp)]
theorem shU_set {n : Int} {l : List Ho} {j : Nat} (h : j < l.length) : (shU n l j).set j ((oi l j).sh n) = shU n l (j + 1) := by
  unfold shU
  rw [take_succ_oi (by simpa using h), sh_oi h, show l.length - j = (l.length - (j + 1)) + 1 by omega, List.replicate_succ, List.set_append_right _ _ (by simp; omega)]
  simp [Nat.min_eq_left (Nat.le_of_lt h)]

set_option maxHeartbeats 8000000 in
theorem LMirror_calls (W : Nat) (v : Value) (c : Nat) (rows : List (List Ho)) (w : World) (h : HR w v c rows) (hl : rows.length ≤ 1000) (hlw : ∀ i, i < rows.length → (ow rows i).length ≤ 1000) (hW : W ≤ 1000) (hb : ∀ i, i < rows.length → ∀ h ∈ ow rows i, 0 ≤ h.p ∧ h.p ≤ 1000) :
    Calls Tryd.prog 29 #[.agg #[.int .i64 (W : Int), v]] w (RetL w W (lmir W rows)) := by
  obtain ⟨ao, N, rfl, hn, hc, hcm, hat⟩ := h.open
  unfold maxLen at hcm
  obtain ⟨B, hB⟩ : ∃ B, B = (w.alloc (.cells #[.int .i64 (W : Int), .slice ao N c] 24)).alloc (.cells #[.int .i64 0, .slice none 0 0] 24) := ⟨_, rfl⟩
  have xB : Ext w B := by rw [hB]; exact ((Ext.refl w).alloc _).alloc _
  have hB1 : B2 B w.heap.size (.int .i64 (W : Int)) (.slice ao N c) 24 := by rw [hB]; exact (B2.new w _ _ _).alloc _
  have hB4 : B2 B (w.heap.size + 1) (.int .i64 0) (.slice none 0 0) 24 := by
    rw [hB]; have := B2.new (w.alloc (.cells #[.int .i64 (W : Int), .slice ao N c] 24)) (.int .i64 0) (.slice none 0 0) 24
    rwa [show (w.alloc (.cells #[.int .i64 (W : Int), .slice ao N c] 24)).heap.size = w.heap.size + 1 by simp] at this
  have e0 := hB1.c0; have e1 := hB1.c1
  have hmk := fun w' => run_make_lc (P := Tryd.prog) eiHows .i64 .i64 N N (by omega) (by omega) (by omega) w'
  have HBe := Lib.hid hB; have Hn := Lib.hid hn; have HA := Lib.hid hat; have XB := Lib.hid xB; have HBd := Lib.hid hb
  have HBs := Lib.hid (show B.heap.size = w.heap.size + 2 by rw [hB]; simp)
  have HB2 := Lib.hid (fun w' (x : Ext B w') => hB1.ext x); have HR4 := Lib.hid (fun w' (x : Ext B w') => hB4.ext x)
  have HL := Lib.hid (fun i (hi : i < N) => hlw i (by omega))
  have hN : N ≤ 1000 := by omega
  have q0 := fun (o : Obj) => cell_alloc e0 o
  have q1 := fun (o : Obj) => cell_alloc e1 o
  have q2 := fun (o o' : Obj) => cell_alloc (cell_alloc e0 o) o'
  have q3 := fun (o o' : Obj) => cell_alloc (cell_alloc e1 o) o'
  rw [hB] at e0 e1
  clear hB hB1 hB4 hn hat h hl hlw hb xB
  go_enter Tryd.func29, Tryd.ntmps29
  go_wp2
  rw [← HBe.out]
  rw [← HBe.out] at e0 e1
  go_region
  · skip
    clear q0 q1 q2 q3 e0 e1 hmk
    obtain ⟨w2, hw2⟩ : ∃ w2, w2 = ((B.alloc (.cells (madeCells #[.slice none 0 0] N) 37)).alloc (.cells #[.int .i64 (W : Int), .slice (some ⟨B.heap.size, 0, none⟩) N N] 24)).drew := ⟨_, rfl⟩
    have hst : ∃ q cp, LI B w2 W (B.heap.size) N 0 (B.heap.size + 1) (fun i => hmir (W : Int) (ow rows i)) q cp := by
      rw [hw2]
      refine ⟨fun _ => 0, fun _ => 0, HK.start (f := fun _ => .slice none 0 0) (((Ext.refl B).alloc _).alloc _).drew (by omega) (by unfold maxLen; omega) (Ext.row (Ext.drew ((Ext.refl _).alloc _)) (World.rowIs_made _ _ _ _)), ?_⟩
      have := B2.new (B.alloc (.cells (madeCells #[.slice none 0 0] N) 37)) (.int .i64 (W : Int)) (.slice (some ⟨B.heap.size, 0, none⟩) N N) 24
      rw [show (B.alloc (.cells (madeCells #[.slice none 0 0] N) 37)).heap.size = B.heap.size + 1 by simp] at this
      exact this.ext (Ext.refl _).drew
    have xw2 : Ext B w2 := by rw [hw2]; exact (((Ext.refl B).alloc _).alloc _).drew
    obtain ⟨R, hR⟩ : ∃ R, R = B.heap.size := ⟨_, rfl⟩
    obtain ⟨M, hM⟩ : ∃ M, M = B.heap.size + 1 := ⟨_, rfl⟩
    rw [← hw2]
    rw [← hM, ← hR] at hst ⊢
    have HRM := Lib.hid (show R ≠ M ∧ B.heap.size ≤ R ∧ B.heap.size ≤ M from by omega)
    have HST := Lib.hid hst
    have X2 := Lib.hid xw2
    have b0 := (HB2.out w2 xw2).c0; have b1 := (HB2.out w2 xw2).c1
    clear hR hM hst hw2 xw2
    go_wp2
    clear b0 b1
    go_loopw [4, 5, 6, 7, 18, 32] (fun _ _ _ _ i _ wr => ∃ k : Nat, k ≤ N ∧ i = .int .i64 k ∧ Hid (∃ q cp, LI B wr W R N k M (fun i => hmir (W : Int) (ow rows i)) q cp)) (fun _ _ _ _ i _ _ => N - (intOf i).toNat)
    case atStart => exact ⟨0, Nat.zero_le _, rfl, HST⟩
    case round =>
      obtain ⟨k, hk, rfl, HC⟩ := hrel
      clear HST
      obtain ⟨q, cp, hC⟩ := HC.out
      have HCS := Lib.hid hC
      clear HC
      have b0 := (HB2.out wr hC.1.x).c0; have b1 := (HB2.out wr hC.1.x).c1
      have m1 := hC.2.c1; have m0 := hC.2.c0
      by_cases hlt : k < N
      · skip
        have hlt' : (k : Int) < (N : Int) := by omega
        obtain ⟨b, o, a, m, d, rfl, hc0, hr0⟩ := HA.out k hlt
        have hrB := hr0.ext XB.out
        replace hc0 := (XB.out.trans hC.1.x).cell hc0
        obtain ⟨_, _, e1, e2, e3, e4, e5⟩ := hrB.open
        simp only [Value.slice.injEq] at e1
        obtain ⟨rfl, rfl, _⟩ := e1
        unfold maxLen at e4
        have hm1 : m ≤ 1000 := by rw [e2]; exact HL.out k hlt
        have HE5 := Lib.hid e5; have He2 := Lib.hid e2
        obtain ⟨vk, hvk⟩ := hC.1.ex hlt
        have hfk := hC.1.frozen k
        have hmk := fun w' => run_make_ho .i64 .i64 m (by omega) w'
        have xg : Ext wr (wr.alloc (.cells (madeCells z2 (m * 2)) 39)) := (Ext.refl wr).alloc _
        have hCA := hC.1.later xg
        have m1a := xg.cell m1
        obtain ⟨vk2, hvk2⟩ := hCA.ex hlt
        have hfk2 := hCA.frozen k
        clear hr0 hrB e2 e5 hC hCA xg
        go_wp2
        go_region
        all_goals
          have hC := HCS.out
          have xg : Ext wr (wr.alloc (.cells (madeCells z2 (m * 2)) 39)) := (Ext.refl wr).alloc _
          have hCA := hC.1.later xg
          have hRO := HO.made wr m (by unfold maxLen; omega)
          have hlt3 := hC.1.lt
          have hMlt : M < wr.heap.size := hC.2.lt
          have hql := fun i (hi : i < k) => (hC.1.ro i hi).1.lt
          have hput := hCA.put hlt hRO (by have := hC.1.x.size; exact this) (by omega) (fun i hi => by have := hql i hi; omega)
          rw [List.length_replicate] at hput
          have hMb2 : B2 ((wr.alloc (.cells (madeCells z2 (m * 2)) 39)).setCell ⟨R, k, none⟩ (.slice (some ⟨wr.heap.size, 0, none⟩) m m)) M (.int .i64 (W : Int)) (.slice (some ⟨R, 0, none⟩) N N) 24 := (hC.2.ext xg).setOther (by have := HRM.out; simp only []; omega)
          obtain ⟨g, hg⟩ : ∃ g, g = wr.heap.size := ⟨_, rfl⟩
          have HgM := Lib.hid (show M ≠ g ∧ R ≠ g from ⟨by omega, by omega⟩)
          have HgB := Lib.hid (show B.heap.size ≤ g from by rw [hg]; exact hC.1.x.size)
          obtain ⟨w3, hw3⟩ : ∃ w3, w3 = ((wr.alloc (.cells (madeCells z2 (m * 2)) 39)).setCell ⟨R, k, none⟩ (.slice (some ⟨wr.heap.size, 0, none⟩) m m)).drew := ⟨_, rfl⟩
          have h3 : LI B w3 W R N (k + 1) M (up (fun i => hmir (W : Int) (ow rows i)) k (hmU (W : Int) (ow rows k) 0)) (up q k g) (up cp k m) := by
            rw [hw3, hmU_zero, ← He2.out, hg]
            exact ⟨hput.later (Ext.refl _).drew, hMb2.ext (Ext.refl _).drew⟩
          have H3 := Lib.hid h3
          have Hg := Lib.hid hg
          rw [← hw3, ← hg]
          clear hC xg hCA hRO hlt3 hMlt hql hput hMb2 hg hw3 h3 hvk hfk hvk2 hfk2 m0 m1 m1a hc0 hmk b0 b1
          go_wp2
          go_loopw [6, 7, 32] (fun _ _ i ws => ∃ j : Nat, j ≤ m ∧ i = .int .i64 j ∧ Hid (LI B ws W R N (k + 1) M (up (fun i => hmir (W : Int) (ow rows i)) k (hmU (W : Int) (ow rows k) j)) (up q k g) (up cp k m))) (fun _ _ i _ => m - (intOf i).toNat)
          case atStart => exact ⟨0, Nat.zero_le _, rfl, H3⟩
          case round =>
            obtain ⟨j, hj, rfl, HJ⟩ := hrel
            clear H3
            obtain ⟨ws, hws⟩ : ∃ ws : World, ws = wr := ⟨_, rfl⟩
            rw [← hws] at HJ ⊢
            clear hws
            by_cases hjl : j < m
            · skip
              have hjl' : (j : Int) < (m : Int) := by omega
              obtain ⟨b2, o2, rfl, e8⟩ := HE5.out j hjl
              obtain ⟨s0, s1⟩ := e8.ext HJ.out.1.x
              have hjr : j < (ow rows k).length := by rw [← He2.out]; exact hjl
              have hbd := HBd.out k (by rw [← Hn.out]; exact hlt) _ (oi_mem hjr)
              have hset := hmU_set (W := (W : Int)) (l := ow rows k) (j := j) hjr
              rcases hh : oi (ow rows k) j with ⟨P, r⟩
              rw [hh] at s0 s1 hbd hset
              simp only at s0 s1 hbd
              obtain ⟨hb1, hb2⟩ := hbd
              obtain ⟨p, hp⟩ : ∃ p, p = m - 1 - j := ⟨_, rfl⟩
              have hpm : p < m := by omega
              have wz1 : IntKind.i64.wrap ((m : Int) - 1) = (m : Int) - 1 := IntWalk.i64_in _ ⟨by omega, by omega⟩
              have wz2 : IntKind.i64.wrap ((m : Int) - 1 - (j : Int)) = (p : Int) := by rw [show (m : Int) - 1 - (j : Int) = (p : Int) by omega]; exact IntWalk.i64_in _ ⟨by omega, by omega⟩
              have hpi : (p : Int) < (m : Int) := by omega
              rw [← He2.out, ← hp] at hset
              have wz3 : IntKind.i64.wrap ((W : Int) - 1) = (W : Int) - 1 := IntWalk.i64_in _ ⟨by omega, by omega⟩
              have wz4 : IntKind.i64.wrap ((W : Int) - 1 - P) = (W : Int) - 1 - P := IntWalk.i64_in _ ⟨by omega, by omega⟩
              have HSet := Lib.hid hset
              have hml : (hmU (W : Int) (ow rows k) j).length = m := by rw [hmU_len _ _ (by rw [← He2.out]; omega), He2.out]
              have HMl := Lib.hid hml
              obtain ⟨w6, hw6⟩ : ∃ w6, w6 = ws.alloc (.cells #[.int .i64 P, .bool r] 39) := ⟨_, rfl⟩
              have x6 : Ext ws w6 := by rw [hw6]; exact (Ext.refl ws).alloc _
              have hB6 : B2 w6 ws.heap.size (.int .i64 P) (.bool r) 39 := by rw [hw6]; exact B2.new ws _ _ _
              have k0 := hB6.c0; have k1 := hB6.c1
              have hC6 := HJ.out.1.later x6
              have m1 := (HJ.out.2.ext x6).c1
              have bb0 := (HB2.out w6 hC6.x).c0
              have hM6 := hC6.cell (i := k) (by omega) (by omega)
              rw [up_at, up_at, up_at, hml] at hM6
              have hro := (hC6.ro k (by omega)).1
              rw [up_at, up_at, up_at] at hro
              obtain ⟨z0, g0⟩ := hro.shapeCell (o := p * 2) (by omega)
              obtain ⟨z1, g1⟩ := hro.shapeCell (o := p * 2 + 1) (by omega)
              have f0 := hro.frozen (p * 2); have f1 := hro.frozen (p * 2 + 1)
              have hP9 := hC6.putHo (j := k) (i := p) (by omega) (by rw [up_at, hml]; exact hpm) ⟨(W : Int) - 1 - P, !r⟩
              rw [up_at, up_at] at hP9
              have hD9 := hP9.congr (rows' := up (fun i => hmir (W : Int) (ow rows i)) k (hmU (W : Int) (ow rows k) (j + 1))) (fun i _ => by
                by_cases e : i = k
                · subst e; rw [up_at, up_at]; exact HSet.out
                · rw [up_ne _ _ e, up_ne _ _ e, up_ne _ _ e])
              have hN := fun w9 (e : w9 = (((w6.setCell ⟨g, p * 2, none⟩ (.int .i64 ((W : Int) - 1 - P))).setCell ⟨g, p * 2 + 1, none⟩ (.bool (!r))).drew)) => show LI B w9 W R N (k + 1) M (up (fun i => hmir (W : Int) (ow rows i)) k (hmU (W : Int) (ow rows k) (j + 1))) (up q k g) (up cp k m) from by
                rw [e]; exact ⟨hD9.later (Ext.refl _).drew, B2.ext (((HJ.out.2.ext x6).setOther HgM.out.1).setOther HgM.out.1) (Ext.refl _).drew⟩
              have HN := Lib.hid hN; have HW6 := Lib.hid hw6
              rw [hw6] at k0 k1 m1 bb0 hM6 g0 g1 f0 f1
              clear hset hml x6 hw6 hB6 hC6 hro hP9 hD9 hN e8 hh hjr hp
              go_wp2
              rw [← HW6.out]
              rw [← HW6.out] at k0 k1 m1 bb0 hM6 g0 g1 f0 f1
              go_region
              all_goals
                have HNx := Lib.hid (HN.out _ rfl)
                clear HN k0 k1 m1 bb0 hM6 g0 g1 f0 f1 s0 s1
                go_wp2
                go_roundw
                case rel => exact ⟨j + 1, by omega, by go_num, HNx⟩
                case measure => simp [intOf]; omega
            · obtain rfl : m = j := by omega
              have hjl' : ¬ (m : Int) < (m : Int) := by omega
              have HD := Lib.hid (show ∃ q cp, LI B ws W R N (k + 1) M (fun i => hmir (W : Int) (ow rows i)) q cp from ⟨_, _, HJ.out.1.congr (rows' := (fun i => hmir (W : Int) (ow rows i))) (fun i _ => by
                by_cases e : i = k
                · subst e; rw [up_at, He2.out, hmU_all]
                · rw [up_ne _ _ e]), HJ.out.2⟩)
              clear HJ
              go_wp2
              go_roundw
              case rel => exact ⟨k + 1, by omega, by go_num, HD⟩
              case measure => simp [intOf]; omega
      · obtain rfl : N = k := by omega
        have hlt' : ¬ (N : Int) < (N : Int) := by omega
        have r4 := HR4.out wr hC.1.x
        have c4 := r4.c0; have c5 := r4.c1; have f4 := r4.f0; have f5 := r4.f1
        have hbs := HBs.out
        have c6 := (r4.set2 (.int .i64 (W : Int)) (.slice (some ⟨R, 0, none⟩) N N)).c0
        have c7 := (r4.set2 (.int .i64 (W : Int)) (.slice (some ⟨R, 0, none⟩) N N)).c1
        have HF := Lib.hid (show RetL w W (lmir W rows) (.returned (.agg #[.int .i64 (W : Int), .slice (some ⟨R, 0, none⟩) N N])) ((wr.setCell ⟨w.heap.size + 1, 0, none⟩ (.int .i64 (W : Int))).setCell ⟨w.heap.size + 1, 0 + 1, none⟩ (.slice (some ⟨R, 0, none⟩) N N)) from by
          have h2 := hC.1.below (v0 := .int .i64 (W : Int)) (v1 := .slice (some ⟨R, 0, none⟩) N N) XB.out (P := w.heap.size + 1) (by omega) (by omega)
          have e1 := ow_range (N := N) (rows := fun i => hmir (W : Int) (ow rows i)) (l := lmir W rows) (by rw [lmir_len, Hn.out]) (fun i hi => (lmir_ow (by rw [← Hn.out]; exact hi)).symm)
          have e2 : (lmir W rows).length = N := by rw [lmir_len, ← Hn.out]
          refine ⟨_, rfl, ?_, h2.x⟩
          have := h2.rr
          rw [e1] at this
          rw [e2]; exact this)
        clear hC HCS r4 b0 b1
        go_wp2
        exact bodyPost_ret (v := .agg #[.int .i64 (W : Int), .slice (some ⟨R, 0, none⟩) N N]) (by simp [results, Tryd.results29, go_sem, c6, c7]) rfl HF.out
  · skip
    clear q0 q1 q2 q3 e0 e1 hmk
    obtain ⟨w2, hw2⟩ : ∃ w2, w2 = ((B.alloc (.cells #[.int .i64 (W : Int), .slice (some ⟨B.heap.size + 1, 0, none⟩) N N] 24)).alloc (.cells (madeCells #[.slice none 0 0] N) 37)).drew := ⟨_, rfl⟩
    have hst : ∃ q cp, LI B w2 W (B.heap.size + 1) N 0 (B.heap.size) (fun i => hmir (W : Int) (ow rows i)) q cp := by
      rw [hw2]
      have hrow := World.rowIs_made (B.alloc (.cells #[.int .i64 (W : Int), .slice (some ⟨B.heap.size + 1, 0, none⟩) N N] 24)) (.slice none 0 0) N 37
      rw [show (B.alloc (.cells #[.int .i64 (W : Int), .slice (some ⟨B.heap.size + 1, 0, none⟩) N N] 24)).heap.size = B.heap.size + 1 by simp] at hrow
      refine ⟨fun _ => 0, fun _ => 0, HK.start (f := fun _ => .slice none 0 0) (((Ext.refl B).alloc _).alloc _).drew (by omega) (by unfold maxLen; omega) (Ext.row (Ext.refl _).drew hrow), ?_⟩
      exact (B2.new B _ _ _).ext (((Ext.refl _).alloc _).drew)
    have xw2 : Ext B w2 := by rw [hw2]; exact (((Ext.refl B).alloc _).alloc _).drew
    obtain ⟨R, hR⟩ : ∃ R, R = B.heap.size + 1 := ⟨_, rfl⟩
    obtain ⟨M, hM⟩ : ∃ M, M = B.heap.size := ⟨_, rfl⟩
    rw [← hw2]
    rw [← hR, ← hM] at hst ⊢
    have HRM := Lib.hid (show R ≠ M ∧ B.heap.size ≤ R ∧ B.heap.size ≤ M from by omega)
    have HST := Lib.hid hst
    have X2 := Lib.hid xw2
    have b0 := (HB2.out w2 xw2).c0; have b1 := (HB2.out w2 xw2).c1
    clear hR hM hst hw2 xw2
    go_wp2
    clear b0 b1
    go_loopw [4, 5, 6, 7, 18, 32] (fun _ _ _ _ i _ wr => ∃ k : Nat, k ≤ N ∧ i = .int .i64 k ∧ Hid (∃ q cp, LI B wr W R N k M (fun i => hmir (W : Int) (ow rows i)) q cp)) (fun _ _ _ _ i _ _ => N - (intOf i).toNat)
    case atStart => exact ⟨0, Nat.zero_le _, rfl, HST⟩
    case round =>
      obtain ⟨k, hk, rfl, HC⟩ := hrel
      clear HST
      obtain ⟨q, cp, hC⟩ := HC.out
      have HCS := Lib.hid hC
      clear HC
      have b0 := (HB2.out wr hC.1.x).c0; have b1 := (HB2.out wr hC.1.x).c1
      have m1 := hC.2.c1; have m0 := hC.2.c0
      by_cases hlt : k < N
      · skip
        have hlt' : (k : Int) < (N : Int) := by omega
        obtain ⟨b, o, a, m, d, rfl, hc0, hr0⟩ := HA.out k hlt
        have hrB := hr0.ext XB.out
        replace hc0 := (XB.out.trans hC.1.x).cell hc0
        obtain ⟨_, _, e1, e2, e3, e4, e5⟩ := hrB.open
        simp only [Value.slice.injEq] at e1
        obtain ⟨rfl, rfl, _⟩ := e1
        unfold maxLen at e4
        have hm1 : m ≤ 1000 := by rw [e2]; exact HL.out k hlt
        have HE5 := Lib.hid e5; have He2 := Lib.hid e2
        obtain ⟨vk, hvk⟩ := hC.1.ex hlt
        have hfk := hC.1.frozen k
        have hmk := fun w' => run_make_ho .i64 .i64 m (by omega) w'
        have xg : Ext wr (wr.alloc (.cells (madeCells z2 (m * 2)) 39)) := (Ext.refl wr).alloc _
        have hCA := hC.1.later xg
        have m1a := xg.cell m1
        obtain ⟨vk2, hvk2⟩ := hCA.ex hlt
        have hfk2 := hCA.frozen k
        clear hr0 hrB e2 e5 hC hCA xg
        go_wp2
        go_region
        all_goals
          have hC := HCS.out
          have xg : Ext wr (wr.alloc (.cells (madeCells z2 (m * 2)) 39)) := (Ext.refl wr).alloc _
          have hCA := hC.1.later xg
          have hRO := HO.made wr m (by unfold maxLen; omega)
          have hlt3 := hC.1.lt
          have hMlt : M < wr.heap.size := hC.2.lt
          have hql := fun i (hi : i < k) => (hC.1.ro i hi).1.lt
          have hput := hCA.put hlt hRO (by have := hC.1.x.size; exact this) (by omega) (fun i hi => by have := hql i hi; omega)
          rw [List.length_replicate] at hput
          have hMb2 : B2 ((wr.alloc (.cells (madeCells z2 (m * 2)) 39)).setCell ⟨R, k, none⟩ (.slice (some ⟨wr.heap.size, 0, none⟩) m m)) M (.int .i64 (W : Int)) (.slice (some ⟨R, 0, none⟩) N N) 24 := (hC.2.ext xg).setOther (by have := HRM.out; simp only []; omega)
          obtain ⟨g, hg⟩ : ∃ g, g = wr.heap.size := ⟨_, rfl⟩
          have HgM := Lib.hid (show M ≠ g ∧ R ≠ g from ⟨by omega, by omega⟩)
          have HgB := Lib.hid (show B.heap.size ≤ g from by rw [hg]; exact hC.1.x.size)
          obtain ⟨w3, hw3⟩ : ∃ w3, w3 = ((wr.alloc (.cells (madeCells z2 (m * 2)) 39)).setCell ⟨R, k, none⟩ (.slice (some ⟨wr.heap.size, 0, none⟩) m m)).drew := ⟨_, rfl⟩
          have h3 : LI B w3 W R N (k + 1) M (up (fun i => hmir (W : Int) (ow rows i)) k (hmU (W : Int) (ow rows k) 0)) (up q k g) (up cp k m) := by
            rw [hw3, hmU_zero, ← He2.out, hg]
            exact ⟨hput.later (Ext.refl _).drew, hMb2.ext (Ext.refl _).drew⟩
          have H3 := Lib.hid h3
          have Hg := Lib.hid hg
          rw [← hw3, ← hg]
          clear hC xg hCA hRO hlt3 hMlt hql hput hMb2 hg hw3 h3 hvk hfk hvk2 hfk2 m0 m1 m1a hc0 hmk b0 b1
          go_wp2
          go_loopw [6, 7, 32] (fun _ _ i ws => ∃ j : Nat, j ≤ m ∧ i = .int .i64 j ∧ Hid (LI B ws W R N (k + 1) M (up (fun i => hmir (W : Int) (ow rows i)) k (hmU (W : Int) (ow rows k) j)) (up q k g) (up cp k m))) (fun _ _ i _ => m - (intOf i).toNat)
          case atStart => exact ⟨0, Nat.zero_le _, rfl, H3⟩
          case round =>
            obtain ⟨j, hj, rfl, HJ⟩ := hrel
            clear H3
            obtain ⟨ws, hws⟩ : ∃ ws : World, ws = wr := ⟨_, rfl⟩
            rw [← hws] at HJ ⊢
            clear hws
            by_cases hjl : j < m
            · skip
              have hjl' : (j : Int) < (m : Int) := by omega
              obtain ⟨b2, o2, rfl, e8⟩ := HE5.out j hjl
              obtain ⟨s0, s1⟩ := e8.ext HJ.out.1.x
              have hjr : j < (ow rows k).length := by rw [← He2.out]; exact hjl
              have hbd := HBd.out k (by rw [← Hn.out]; exact hlt) _ (oi_mem hjr)
              have hset := hmU_set (W := (W : Int)) (l := ow rows k) (j := j) hjr
              rcases hh : oi (ow rows k) j with ⟨P, r⟩
              rw [hh] at s0 s1 hbd hset
              simp only at s0 s1 hbd
              obtain ⟨hb1, hb2⟩ := hbd
              obtain ⟨p, hp⟩ : ∃ p, p = m - 1 - j := ⟨_, rfl⟩
              have hpm : p < m := by omega
              have wz1 : IntKind.i64.wrap ((m : Int) - 1) = (m : Int) - 1 := IntWalk.i64_in _ ⟨by omega, by omega⟩
              have wz2 : IntKind.i64.wrap ((m : Int) - 1 - (j : Int)) = (p : Int) := by rw [show (m : Int) - 1 - (j : Int) = (p : Int) by omega]; exact IntWalk.i64_in _ ⟨by omega, by omega⟩
              have hpi : (p : Int) < (m : Int) := by omega
              rw [← He2.out, ← hp] at hset
              have wz3 : IntKind.i64.wrap ((W : Int) - 1) = (W : Int) - 1 := IntWalk.i64_in _ ⟨by omega, by omega⟩
              have wz4 : IntKind.i64.wrap ((W : Int) - 1 - P) = (W : Int) - 1 - P := IntWalk.i64_in _ ⟨by omega, by omega⟩
              have HSet := Lib.hid hset
              have hml : (hmU (W : Int) (ow rows k) j).length = m := by rw [hmU_len _ _ (by rw [← He2.out]; omega), He2.out]
              have HMl := Lib.hid hml
              obtain ⟨w6, hw6⟩ : ∃ w6, w6 = ws.alloc (.cells #[.int .i64 P, .bool r] 39) := ⟨_, rfl⟩
              have x6 : Ext ws w6 := by rw [hw6]; exact (Ext.refl ws).alloc _
              have hB6 : B2 w6 ws.heap.size (.int .i64 P) (.bool r) 39 := by rw [hw6]; exact B2.new ws _ _ _
              have k0 := hB6.c0; have k1 := hB6.c1
              have hC6 := HJ.out.1.later x6
              have m1 := (HJ.out.2.ext x6).c1
              have bb0 := (HB2.out w6 hC6.x).c0
              have hM6 := hC6.cell (i := k) (by omega) (by omega)
              rw [up_at, up_at, up_at, hml] at hM6
              have hro := (hC6.ro k (by omega)).1
              rw [up_at, up_at, up_at] at hro
              obtain ⟨z0, g0⟩ := hro.shapeCell (o := p * 2) (by omega)
              obtain ⟨z1, g1⟩ := hro.shapeCell (o := p * 2 + 1) (by omega)
              have f0 := hro.frozen (p * 2); have f1 := hro.frozen (p * 2 + 1)
              have hP9 := hC6.putHo (j := k) (i := p) (by omega) (by rw [up_at, hml]; exact hpm) ⟨(W : Int) - 1 - P, !r⟩
              rw [up_at, up_at] at hP9
              have hD9 := hP9.congr (rows' := up (fun i => hmir (W : Int) (ow rows i)) k (hmU (W : Int) (ow rows k) (j + 1))) (fun i _ => by
                by_cases e : i = k
                · subst e; rw [up_at, up_at]; exact HSet.out
                · rw [up_ne _ _ e, up_ne _ _ e, up_ne _ _ e])
              have hN := fun w9 (e : w9 = (((w6.setCell ⟨g, p * 2, none⟩ (.int .i64 ((W : Int) - 1 - P))).setCell ⟨g, p * 2 + 1, none⟩ (.bool (!r))).drew)) => show LI B w9 W R N (k + 1) M (up (fun i => hmir (W : Int) (ow rows i)) k (hmU (W : Int) (ow rows k) (j + 1))) (up q k g) (up cp k m) from by
                rw [e]; exact ⟨hD9.later (Ext.refl _).drew, B2.ext (((HJ.out.2.ext x6).setOther HgM.out.1).setOther HgM.out.1) (Ext.refl _).drew⟩
              have HN := Lib.hid hN; have HW6 := Lib.hid hw6
              rw [hw6] at k0 k1 m1 bb0 hM6 g0 g1 f0 f1
              clear hset hml x6 hw6 hB6 hC6 hro hP9 hD9 hN e8 hh hjr hp
              go_wp2
              rw [← HW6.out]
              rw [← HW6.out] at k0 k1 m1 bb0 hM6 g0 g1 f0 f1
              go_region
              all_goals
                have HNx := Lib.hid (HN.out _ rfl)
                clear HN k0 k1 m1 bb0 hM6 g0 g1 f0 f1 s0 s1
                go_wp2
                go_roundw
                case rel => exact ⟨j + 1, by omega, by go_num, HNx⟩
                case measure => simp [intOf]; omega
            · obtain rfl : m = j := by omega
              have hjl' : ¬ (m : Int) < (m : Int) := by omega
              have HD := Lib.hid (show ∃ q cp, LI B ws W R N (k + 1) M (fun i => hmir (W : Int) (ow rows i)) q cp from ⟨_, _, HJ.out.1.congr (rows' := (fun i => hmir (W : Int) (ow rows i))) (fun i _ => by
                by_cases e : i = k
                · subst e; rw [up_at, He2.out, hmU_all]
                · rw [up_ne _ _ e]), HJ.out.2⟩)
              clear HJ
              go_wp2
              go_roundw
              case rel => exact ⟨k + 1, by omega, by go_num, HD⟩
              case measure => simp [intOf]; omega
      · obtain rfl : N = k := by omega
        have hlt' : ¬ (N : Int) < (N : Int) := by omega
        have r4 := HR4.out wr hC.1.x
        have c4 := r4.c0; have c5 := r4.c1; have f4 := r4.f0; have f5 := r4.f1
        have hbs := HBs.out
        have c6 := (r4.set2 (.int .i64 (W : Int)) (.slice (some ⟨R, 0, none⟩) N N)).c0
        have c7 := (r4.set2 (.int .i64 (W : Int)) (.slice (some ⟨R, 0, none⟩) N N)).c1
        have HF := Lib.hid (show RetL w W (lmir W rows) (.returned (.agg #[.int .i64 (W : Int), .slice (some ⟨R, 0, none⟩) N N])) ((wr.setCell ⟨w.heap.size + 1, 0, none⟩ (.int .i64 (W : Int))).setCell ⟨w.heap.size + 1, 0 + 1, none⟩ (.slice (some ⟨R, 0, none⟩) N N)) from by
          have h2 := hC.1.below (v0 := .int .i64 (W : Int)) (v1 := .slice (some ⟨R, 0, none⟩) N N) XB.out (P := w.heap.size + 1) (by omega) (by omega)
          have e1 := ow_range (N := N) (rows := fun i => hmir (W : Int) (ow rows i)) (l := lmir W rows) (by rw [lmir_len, Hn.out]) (fun i hi => (lmir_ow (by rw [← Hn.out]; exact hi)).symm)
          have e2 : (lmir W rows).length = N := by rw [lmir_len, ← Hn.out]
          refine ⟨_, rfl, ?_, h2.x⟩
          have := h2.rr
          rw [e1] at this
          rw [e2]; exact this)
        clear hC HCS r4 b0 b1
        go_wp2
        exact bodyPost_ret (v := .agg #[.int .i64 (W : Int), .slice (some ⟨R, 0, none⟩) N N]) (by simp [results, Tryd.results29, go_sem, c6, c7]) rfl HF.out
end Go.Proofs.YthllbcjglcplhaaDoor
