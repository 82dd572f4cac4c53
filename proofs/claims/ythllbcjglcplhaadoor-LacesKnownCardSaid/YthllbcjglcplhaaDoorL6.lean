/- Texts of this claim in one file: libraries and walks. -/
import Derived.Test.YthllbcjglcplhaaDoorL4
import Derived.Test.YthllbcjglcplhaaDoorL5
/- charts.Mirror. -/
namespace Go.Proofs.YthllbcjglcplhaaDoor
set_option linter.unusedVariables false
set_option linter.unusedSimpArgs false
set_option maxRecDepth 8000
open Go Go.RowKit

theorem RO.put5 {w : World} {g c : Nat} {l : List St} (h : RO w g c l) {i : Nat} (hi : i < l.length) (s : St) :
    RO (((((w.setCell ⟨g, i * 5, none⟩ (.int .u8 s.k)).setCell ⟨g, i * 5 + 1, none⟩ (.int .u8 s.y)).setCell ⟨g, i * 5 + 2, none⟩ (.int .i64 s.a)).setCell ⟨g, i * 5 + 3, none⟩ (.int .i64 s.b)).setCell ⟨g, i * 5 + 4, none⟩ (.bool s.f)) g c (l.set i s) := by
  obtain ⟨h1, h2, f, h3, h4⟩ := h
  refine ⟨by simpa using h1, h2, _, ((((h3.set (i * 5) _).set (i * 5 + 1) _).set (i * 5 + 2) _).set (i * 5 + 3) _).set (i * 5 + 4) _, fun j hj => ?_⟩
  rw [List.length_set] at hj
  rw [si_set hi]
  obtain ⟨a, b, c', d, e⟩ := h4 j hj
  by_cases hji : j = i
  · subst hji
    rw [if_pos rfl]
    refine ⟨?_, ?_, ?_, ?_, ?_⟩ <;> simp
  · rw [if_neg hji]
    refine ⟨?_, ?_, ?_, ?_, ?_⟩ <;> (simp only []; rw [if_neg (by omega), if_neg (by omega), if_neg (by omega), if_neg (by omega), if_neg (by omega)]; assumption)
theorem RO.other5 {w : World} {g c b o : Nat} {l : List St} (h : RO w g c l) (hb : g ≠ b) (v0 v1 v2 v3 v4 : Value) :
    RO (((((w.setCell ⟨b, o, none⟩ v0).setCell ⟨b, o + 1, none⟩ v1).setCell ⟨b, o + 2, none⟩ v2).setCell ⟨b, o + 3, none⟩ v3).setCell ⟨b, o + 4, none⟩ v4) g c l :=
  ((((h.setOther hb _).setOther hb _).setOther hb _).setOther hb _).setOther hb _
theorem blk_other5 {w : World} {g b o : Nat} {x : Obj} (h : w.heap[g]? = some x) (hb : g ≠ b) (v0 v1 v2 v3 v4 : Value) :
    (((((w.setCell ⟨b, o, none⟩ v0).setCell ⟨b, o + 1, none⟩ v1).setCell ⟨b, o + 2, none⟩ v2).setCell ⟨b, o + 3, none⟩ v3).setCell ⟨b, o + 4, none⟩ v4).heap[g]? = some x := by
  rw [Deep.blk_setCell_other _ _ _ _ hb, Deep.blk_setCell_other _ _ _ _ hb, Deep.blk_setCell_other _ _ _ _ hb, Deep.blk_setCell_other _ _ _ _ hb, Deep.blk_setCell_other _ _ _ _ hb]; exact h
theorem cell_o5 {w : World} {b o : Nat} {a : Addr} {v : Value} (h : w.cell? a = some v) (hb : a.block ≠ b) (v0 v1 v2 v3 v4 : Value) :
    (((((w.setCell ⟨b, o, none⟩ v0).setCell ⟨b, o + 1, none⟩ v1).setCell ⟨b, o + 2, none⟩ v2).setCell ⟨b, o + 3, none⟩ v3).setCell ⟨b, o + 4, none⟩ v4).cell? a = some v := by
  have hx : ∀ (u : World) (p : Addr) (x : Value), a.block ≠ p.block → (u.setCell p x).cell? a = u.cell? a := fun u p x hp => World.cell?_of_block (Deep.blk_setCell_other _ _ _ _ hp)
  rw [hx _ _ _ hb, hx _ _ _ hb, hx _ _ _ hb, hx _ _ _ hb, hx _ _ _ hb]; exact h
/-- A stitch of row j is written. -/
theorem CS.putSt {w wr : World} {R N k j i : Nat} {rows : Nat → List St} {q cp : Nat → Nat} (h : CS w wr R N k rows q cp) (hj : j < k) (hi : i < (rows j).length) (s : St) :
    CS w (((((wr.setCell ⟨q j, i * 5, none⟩ (.int .u8 s.k)).setCell ⟨q j, i * 5 + 1, none⟩ (.int .u8 s.y)).setCell ⟨q j, i * 5 + 2, none⟩ (.int .i64 s.a)).setCell ⟨q j, i * 5 + 3, none⟩ (.int .i64 s.b)).setCell ⟨q j, i * 5 + 4, none⟩ (.bool s.f)) R N k (up rows j ((rows j).set i s)) q cp := by
  obtain ⟨h1, h2, h3, ⟨f, h4, h5⟩, h6, h7⟩ := h
  have hb := (h6 j hj).2.1
  have hR : R ≠ q j := fun e => (h6 j hj).2.2 e.symm
  refine ⟨((((h1.setCell hb _).setCell hb _).setCell hb _).setCell hb _).setCell hb _, h2, h3, ⟨f, ((((h4.setOther hR _).setOther hR _).setOther hR _).setOther hR _).setOther hR _, fun i' hi' => ?_⟩, fun i' hi' => ?_, h7⟩
  · by_cases e : i' = j
    · subst e; rw [up_at, List.length_set]; exact h5 i' hi'
    · rw [up_ne _ _ e]; exact h5 i' hi'
  · by_cases e : i' = j
    · subst e; rw [up_at]; exact ⟨(h6 i' hi').1.put5 hi s, (h6 i' hi').2⟩
    · rw [up_ne _ _ e]
      exact ⟨(h6 i' hi').1.other5 (fun c => e (h7 i' j hi' hj c)) _ _ _ _ _, (h6 i' hi').2⟩
/-- A chart is returned, its rows without spare capacity. -/
def RetCN (w0 : World) (rows : List (List St)) (e : Ending) (w' : World) : Prop := ∃ v, e = .returned (.agg #[v]) ∧ RR w' v rows.length rows ∧ Ext w0 w' ∧ ∀ w2 : World, (∀ b, w0.heap.size ≤ b → b < w'.heap.size → w2.heap[b]? = w'.heap[b]?) → RR w2 v rows.length rows
theorem CS.rr2 {w wr w2 : World} {R N : Nat} {rows : Nat → List St} {q cp : Nat → Nat} (h : CS w wr R N N rows q cp) (hb : ∀ b, w.heap.size ≤ b → b < wr.heap.size → w2.heap[b]? = wr.heap[b]?) : RR w2 (.slice (some ⟨R, 0, none⟩) N N) N ((List.range N).map rows) := by
  have hl : ((List.range N).map rows).length = N := by simp
  have hs : ∀ i, i < N → sw ((List.range N).map rows) i = rows i := fun i hi => by rw [sw_of_lt (by rw [hl]; exact hi)]; simp
  obtain ⟨p1, p2, p3, ⟨f, p4, p5⟩, p6, p7⟩ := h
  have e := hb R p2 p4.lt
  refine ⟨_, fun i => .slice (some ⟨q i, 0, none⟩) (rows i).length (cp i), cp, by rw [hl], by omega, p3, .inr ⟨R, 0, rfl, fun i hi => ?_⟩, fun i hi => ?_⟩
  · rw [hl] at hi
    rw [Nat.zero_add]
    have := (p4.of_block e).cell hi
    rw [p5 i hi] at this
    exact this
  · rw [hl] at hi
    rw [hs i hi]
    obtain ⟨r1, r2, r3⟩ := p6 i hi
    exact (r1.of_block (hb _ r2 r1.lt)).rs
def RetCM (w0 : World) (rows : List (List St)) (e : Ending) (w' : World) : Prop := ∃ v, e = .returned (.agg #[v]) ∧ RR w' v rows.length rows ∧ Ext w0 w'
/-- The image so far, and where it lies. -/
def MI (B wr : World) (R N k M : Nat) (rows : Nat → List St) (q cp : Nat → Nat) : Prop := CS B wr R N k rows q cp ∧ wr.heap[M]? = some (.cells #[.slice (some ⟨R, 0, none⟩) N N] 28 (0, 0))

set_option maxHeartbeats 8000000 in
theorem CMirror2_calls (v : Value) (c : Nat) (rows : List (List St)) (w : World) (h : RR w v c rows) (hl : rows.length ≤ 1000) (hb : ∀ i, i < rows.length → (sw rows i).length ≤ 1000) :
    Calls Tryd.prog 31 #[.agg #[v]] w (RetCN w (mirC rows)) := by
  obtain ⟨ao, N, rfl, hn, hc, hcm, hat⟩ := h.open
  unfold maxLen at hcm
  obtain ⟨B, hB⟩ : ∃ B, B = (w.alloc (.cells #[.slice ao N c] 28)).alloc (.cells #[.slice none 0 0] 28) := ⟨_, rfl⟩
  have xB : Ext w B := by rw [hB]; exact ((Ext.refl w).alloc _).alloc _
  have b0 : B.heap[w.heap.size]? = some (.cells #[.slice ao N c] 28 (0, 0)) := by rw [hB]; exact blk_old (blk_at rfl)
  have b1 : B.heap[w.heap.size + 1]? = some (.cells #[.slice none 0 0] 28 (0, 0)) := by rw [hB]; exact blk_at (by simp)
  have d0 : B.cell? ⟨w.heap.size, 0, none⟩ = some (.slice ao N c) := by simp [World.cell?, b0]
  have hmk := fun w' => run_make_lc (P := Tryd.prog) eiRows .i64 .i64 N N (by omega) (by omega) (by omega) w'
  have XB := Lib.hid xB; have HB1 := Lib.hid (fun w' (x : Ext B w') => x.block b1); have HA := Lib.hid hat; have Hn := Lib.hid hn; have HL := Lib.hid (fun i (hi : i < N) => hb i (by omega)); have HBs := Lib.hid (show B.heap.size = w.heap.size + 2 by rw [hB]; simp)
  have HD0 := Lib.hid (fun w' (x : Ext B w') => x.cell d0)
  have HBe := Lib.hid hB
  have HMs := Lib.hid (fun i (hi : i < N) => mirC_sw (rows := rows) (i := i) (by omega))
  have hN : N ≤ 1000 := by omega
  rw [hB] at d0
  clear hat h hn hb hl xB b0 b1 hB
  go_enter Tryd.func31, Tryd.ntmps31
  go_wp2
  clear d0 hmk
  rw [← HBe.out]
  obtain ⟨R, hR⟩ : ∃ R, R = w.heap.size + 1 + 1 := ⟨_, rfl⟩
  obtain ⟨M, hM⟩ : ∃ M, M = w.heap.size + 1 + 1 + 1 := ⟨_, rfl⟩
  have hst : ∃ q cp, MI B ((B.alloc (.cells (madeCells #[.slice none 0 0] N) 41)).alloc (.cells #[.slice (some ⟨R, 0, none⟩) N N] 28)) R N 0 M (fun i => mirR (sw rows i)) q cp := by
    have hbs := HBs.out
    have hRB : R = B.heap.size := by omega
    refine ⟨fun _ => 0, fun _ => 0, CS.start (((Ext.refl B).alloc _).alloc _) (by omega) (by unfold maxLen; omega) (((Ext.refl _).alloc _).row (f := fun _ => .slice none 0 0) (by rw [hRB]; exact World.rowIs_made _ _ _ _)), blk_at (by simp; omega)⟩
  have HST := Lib.hid hst
  rw [← hM, ← hR]
  have HRM := Lib.hid (And.intro hR hM)
  clear hst hR hM
  go_loopw [4, 5, 6, 7, 16, 30] (fun _ _ _ _ i _ wr => ∃ k : Nat, k ≤ N ∧ i = .int .i64 k ∧ Hid (∃ q cp, MI B wr R N k M (fun i => mirR (sw rows i)) q cp)) (fun _ _ _ _ i _ _ => N - (intOf i).toNat)
  case atStart => exact ⟨0, Nat.zero_le _, rfl, HST⟩
  case round =>
    obtain ⟨k, hk, rfl, HC⟩ := hrel
    clear HST
    obtain ⟨q, cp, hCM⟩ := HC.out
    have HCM := Lib.hid hCM
    have hm0 : wr.cell? ⟨M, 0, none⟩ = some (.slice (some ⟨R, 0, none⟩) N N) := by simp [World.cell?, hCM.2]
    by_cases hlt : k < N
    · have hlt' : (k : Int) < (N : Int) := by omega
      obtain ⟨b, o, a, m, d, rfl, hc0, hr0⟩ := HA.out k hlt
      have hrB := hr0.ext (XB.out)
      replace hc0 := (XB.out.trans hCM.1.x).cell hc0
      obtain ⟨_, _, e1, e2, _, _, e5⟩ := hrB.open
      simp only [Value.slice.injEq] at e1
      obtain ⟨rfl, rfl, _⟩ := e1
      have hm1 : m ≤ 1000 := by rw [e2]; exact HL.out k hlt
      have HE5 := Lib.hid e5; have He2 := Lib.hid e2
      obtain ⟨vk, hvk⟩ := hCM.1.ex hlt
      have hfk := hCM.1.frozen k
      have hmk := fun w' => run_make_st .i64 .i64 m (by omega) w'
      have xg : Ext wr (wr.alloc (.cells (madeCells z5 (m * 5)) 49)) := (Ext.refl wr).alloc _
      have hCA := hCM.1.later xg
      have hm0a := xg.cell hm0
      obtain ⟨vk2, hvk2⟩ := hCA.ex hlt
      have hfk2 := hCA.frozen k
      clear hr0 hrB e2 e5 hCM HC hCA xg
      go_wp2
      go_region
      all_goals
        have hCM := HCM.out
        have xg : Ext wr (wr.alloc (.cells (madeCells z5 (m * 5)) 49)) := (Ext.refl wr).alloc _
        have hCA := hCM.1.later xg
        have hRO := RO.made wr m (by unfold maxLen; omega)
        have hlt3 := hCM.1.lt
        have hMlt : M < wr.heap.size := (Array.getElem?_eq_some_iff.1 hCM.2).1
        have hql := fun i (hi : i < k) => (hCM.1.ro i hi).1.lt
        have hput := hCA.put hlt hRO (by have := hCM.1.x.size; exact this) (by omega) (fun i hi => by have := hql i hi; omega)
        rw [List.length_replicate] at hput
        have hMb2 : ((wr.alloc (.cells (madeCells z5 (m * 5)) 49)).setCell ⟨R, k, none⟩ (.slice (some ⟨wr.heap.size, 0, none⟩) m m)).heap[M]? = some (.cells #[.slice (some ⟨R, 0, none⟩) N N] 28 (0, 0)) := by
          rw [Deep.blk_setCell_other _ _ _ _ (by have := HRM.out; simp only []; omega)]; exact xg.block hCM.2
        obtain ⟨g, hg⟩ : ∃ g, g = wr.heap.size := ⟨_, rfl⟩
        have HgM := Lib.hid (show M ≠ g ∧ R ≠ g from ⟨by omega, by omega⟩)
        obtain ⟨w3, hw3⟩ : ∃ w3, w3 = ((wr.alloc (.cells (madeCells z5 (m * 5)) 49)).setCell ⟨R, k, none⟩ (.slice (some ⟨wr.heap.size, 0, none⟩) m m)).drew := ⟨_, rfl⟩
        have h3 : MI B w3 R N (k + 1) M (up (fun i => mirR (sw rows i)) k (mrU (sw rows k) 0)) (up q k g) (up cp k m) := by
          rw [hw3, mrU_zero, ← He2.out, hg]
          exact ⟨hput.later (Ext.refl _).drew, hMb2⟩
        have H3 := Lib.hid h3
        rw [← hw3, ← hg]
        clear hCM xg hCA hRO hlt3 hMlt hql hput hMb2 hg hw3 h3 hvk hfk hvk2 hfk2 hm0 hm0a hc0 hmk
        go_wp2
        go_loopw [6, 7, 30] (fun _ _ i ws => ∃ j : Nat, j ≤ m ∧ i = .int .i64 j ∧ Hid (MI B ws R N (k + 1) M (up (fun i => mirR (sw rows i)) k (mrU (sw rows k) j)) (up q k g) (up cp k m))) (fun _ _ i _ => m - (intOf i).toNat)
        case atStart => exact ⟨0, Nat.zero_le _, rfl, H3⟩
        case round =>
          obtain ⟨j, hj, rfl, HJ⟩ := hrel
          clear H3
          obtain ⟨ws, hws⟩ : ∃ ws : World, ws = wr := ⟨_, rfl⟩
          rw [← hws] at HJ ⊢
          clear hws
          by_cases hjl : j < m
          · have hjl' : (j : Int) < (m : Int) := by omega
            obtain ⟨b2, o2, rfl, e8⟩ := HE5.out j hjl
            obtain ⟨u0, u1, u2, u3, u4⟩ := e8.ext HJ.out.1.x
            obtain ⟨S, hS⟩ : ∃ S, S = si (sw rows k) j := ⟨_, rfl⟩
            rw [← hS] at u0 u1 u2 u3 u4
            have hcl := fun w' => SMirror_calls S w'
            obtain ⟨T, hT⟩ : ∃ T, T = S.mir := ⟨_, rfl⟩
            rw [← hT] at hcl
            obtain ⟨tk, ty, ta, tb, tf⟩ := T
            unfold St.val at hcl
            simp only [] at hcl
            have HTe := Lib.hid hT
            clear hT
            have HCl := Lib.hid hcl; have HSe := Lib.hid hS
            obtain ⟨p, hp⟩ : ∃ p, p = m - 1 - j := ⟨_, rfl⟩
            have hpm : p < m := by omega
            have wz1 : IntKind.i64.wrap ((m : Int) - 1) = (m : Int) - 1 := IntWalk.i64_in _ ⟨by omega, by omega⟩
            have wz2 : IntKind.i64.wrap ((m : Int) - 1 - (j : Int)) = (p : Int) := by rw [show (m : Int) - 1 - (j : Int) = (p : Int) by omega]; exact IntWalk.i64_in _ ⟨by omega, by omega⟩
            have hpi : (p : Int) < (m : Int) := by omega
            have hset := mrU_set (l := sw rows k) (j := j) (by rw [← He2.out]; exact hjl)
            rw [← He2.out, ← hp, ← hS] at hset
            have HSet := Lib.hid hset; have Hp := Lib.hid hp
            have hml : (mrU (sw rows k) j).length = m := by rw [mrU_len _ (by rw [← He2.out]; omega), He2.out]
            have HMl := Lib.hid hml
            have x6 : Ext ws (ws.alloc (.cells #[.int .u8 S.k, .int .u8 S.y, .int .i64 S.a, .int .i64 S.b, .bool S.f] 49)) := (Ext.refl ws).alloc _
            have hro := (HJ.out.1.ro k (by omega)).1
            rw [up_at, up_at, up_at] at hro
            have htg : ws.heap.size ≠ g := by have := hro.lt; omega
            obtain ⟨w6, hw6⟩ : ∃ w6, w6 = ws.alloc (.cells #[.int .u8 S.k, .int .u8 S.y, .int .i64 S.a, .int .i64 S.b, .bool S.f] 49) := ⟨_, rfl⟩
            rw [← hw6] at x6
            have hB6 : B5 w6 ws.heap.size S 49 := by rw [hw6]; exact B5.new ws S _
            obtain ⟨q0_3, q0_4, q0_5, q0_6, q0_7⟩ := B5c hB6
            have hMb := x6.block HJ.out.2
            have q0_1 : w6.cell? ⟨M, 0, none⟩ = some (.slice (some ⟨R, 0, none⟩) N N) := by simp [World.cell?, hMb]
            have q0_2 : w6.cell? ⟨R, k, none⟩ = some (.slice (some ⟨g, 0, none⟩) m m) := by
              have := (HJ.out.1.later x6).cell (i := k) (by omega) (by omega)
              rwa [up_at, up_at, up_at, hml] at this
            have HRO := Lib.hid (hro.ext x6); have X6 := Lib.hid x6; have HW6 := Lib.hid hw6
            have p0 : p * 5 < m * 5 := by omega
            have p1 : p * 5 + 1 < m * 5 := by omega
            have p2 : p * 5 + 2 < m * 5 := by omega
            have p3 : p * 5 + 3 < m * 5 := by omega
            have p4 : p * 5 + 4 < m * 5 := by omega
            obtain ⟨hMg, hRg⟩ := HgM.out
            clear e8 hS hcl hset hp hml x6 hro hw6 hB6 hMb
            go_wp2
            rw [← HW6.out]
            clear u0 u1 u2 u3 u4 HCM
            go_region_held3 (fun w' => w'.cell? ⟨M, 0, Option.none⟩ = some (.slice (some ⟨R, 0, Option.none⟩) N N) ∧ w'.cell? ⟨R, k, Option.none⟩ = some (.slice (some ⟨g, 0, Option.none⟩) m m) ∧ w'.cell? ⟨ws.heap.size, 0, Option.none⟩ = some (.int .u8 S.k) ∧ w'.cell? ⟨ws.heap.size, 1, Option.none⟩ = some (.int .u8 S.y) ∧ w'.cell? ⟨ws.heap.size, 2, Option.none⟩ = some (.int .i64 S.a) ∧ w'.cell? ⟨ws.heap.size, 3, Option.none⟩ = some (.int .i64 S.b) ∧ w'.cell? ⟨ws.heap.size, 4, Option.none⟩ = some (.bool S.f)) (first | (with_reducible exact ⟨q0_1, q0_2, q0_3, q0_4, q0_5, q0_6, q0_7⟩) | (with_reducible exact ⟨q1_1, q1_2, q1_3, q1_4, q1_5, q1_6, q1_7⟩) | with_reducible exact ⟨cell_o5 q1_1 hMg _ _ _ _ _, cell_o5 q1_2 hRg _ _ _ _ _, cell_o5 q1_3 htg _ _ _ _ _, cell_o5 q1_4 htg _ _ _ _ _, cell_o5 q1_5 htg _ _ _ _ _, cell_o5 q1_6 htg _ _ _ _ _, cell_o5 q1_7 htg _ _ _ _ _⟩ | go_keep) (first
              | (go_at_call 50; (refine (HCl.out _).mono ?_); intro e wc hh; obtain ⟨rfl, x⟩ := hh; have Xc : Hid (Ext w6 wc) := Lib.hid (Ext.trans (by (repeat (first | (with_reducible exact Ext.refl _) | (with_reducible apply Ext.drew) | (with_reducible apply Ext.drewN) | (with_reducible apply Ext.alloc)))) x); have q1_1 := Xc.out.cell q0_1; have q1_2 := Xc.out.cell q0_2; have q1_3 := Xc.out.cell q0_3; have q1_4 := Xc.out.cell q0_4; have q1_5 := Xc.out.cell q0_5; have q1_6 := Xc.out.cell q0_6; have q1_7 := Xc.out.cell q0_7; have hro := HRO.out.ext Xc.out; obtain ⟨z0, g0⟩ := hro.shapeCell p0; obtain ⟨z1, g1⟩ := hro.shapeCell p1; obtain ⟨z2, g2⟩ := hro.shapeCell p2; obtain ⟨z3, g3⟩ := hro.shapeCell p3; obtain ⟨z4, g4⟩ := hro.shapeCell p4; have f0 := hro.frozen (p * 5); have f1 := hro.frozen (p * 5 + 1); have f2 := hro.frozen (p * 5 + 2); have f3 := hro.frozen (p * 5 + 3); have f4 := hro.frozen (p * 5 + 4); clear hro; clear x))
            have hC9 := HJ.out.1.later (X6.out.trans Xc.out)
            have hq9 : (up q k g) k = g := up_at _ _ _
            have hP9 := hC9.putSt (j := k) (i := p) (by omega) (by rw [up_at, HMl.out]; exact hpm) ⟨tk, ty, ta, tb, tf⟩
            rw [hq9] at hP9
            have hD9 := hP9.congr (rows' := up (fun i => mirR (sw rows i)) k (mrU (sw rows k) (j + 1))) (fun i _ => by
              by_cases e : i = k
              · subst e; rw [up_at, up_at, up_at, HTe.out]; exact HSet.out
              · rw [up_ne _ _ e, up_ne _ _ e, up_ne _ _ e])
            have HN := Lib.hid (show MI B _ R N (k + 1) M (up (fun i => mirR (sw rows i)) k (mrU (sw rows k) (j + 1))) (up q k g) (up cp k m) from ⟨hD9, blk_other5 (Xc.out.block (X6.out.block HJ.out.2)) hMg _ _ _ _ _⟩)
            clear hC9 hq9 hP9 hD9 q0_1 q0_2 q0_3 q0_4 q0_5 q0_6 q0_7 q1_1 q1_2 q1_3 q1_4 q1_5 q1_6 q1_7 g0 g1 g2 g3 g4 f0 f1 f2 f3 f4
            go_wp2
            go_roundw
            case rel => exact ⟨j + 1, by omega, by go_num, HN⟩
            case measure => simp [intOf]; omega
          · obtain rfl : m = j := by omega
            have hjl' : ¬ (m : Int) < (m : Int) := by omega
            have HD := Lib.hid (show ∃ q cp, MI B ws R N (k + 1) M (fun i => mirR (sw rows i)) q cp from ⟨_, _, HJ.out.1.congr (rows' := fun i => mirR (sw rows i)) (fun i _ => by
              by_cases e : i = k
              · subst e; rw [up_at, He2.out, mrU_all]
              · rw [up_ne _ _ e]), HJ.out.2⟩)
            clear HJ
            go_wp2
            go_roundw
            case rel => exact ⟨k + 1, by omega, by go_num, HD⟩
            case measure => simp [intOf]; omega
    · obtain rfl : N = k := by omega
      have hlt' : ¬ (N : Int) < (N : Int) := by omega
      have b1 := HB1.out wr hCM.1.x
      have c1 : wr.cell? ⟨w.heap.size + 1, 0, none⟩ = some (.slice none 0 0) := by simp [World.cell?, b1]
      have f1 : wr.frozen? ⟨w.heap.size + 1, 0, none⟩ = false := by simp [World.frozen?, b1]
      have hP1 : w.heap.size + 1 < B.heap.size := by have := HBs.out; omega
      have HF := Lib.hid (show RetCN w (mirC rows) (.returned (.agg #[.slice (some ⟨R, 0, none⟩) N N])) (wr.setCell ⟨w.heap.size + 1, 0, none⟩ (.slice (some ⟨R, 0, none⟩) N N)) from by
        have hc := hCM.1
        have h2 : CS w (wr.setCell ⟨w.heap.size + 1, 0, none⟩ (.slice (some ⟨R, 0, none⟩) N N)) R N N (fun i => mirR (sw rows i)) q cp := by
          obtain ⟨p1, p2, p3, ⟨f, p4, p5⟩, p6, p7⟩ := hc
          refine ⟨(XB.out.trans p1).setCell (by simp) _, by omega, p3, ⟨f, p4.setOther (by simp only []; omega) _, p5⟩, fun i hi => ?_, p7⟩
          obtain ⟨r1, r2, r3⟩ := p6 i hi
          exact ⟨r1.setOther (by simp only []; omega) _, by omega, r3⟩
        have e1 := sw_range (l := mirC rows) (by rw [mirC_len, Hn.out]) (fun i hi => (HMs.out i hi).symm)
        have e2 : (mirC rows).length = N := by rw [mirC_len, ← Hn.out]
        refine ⟨_, rfl, ?_, (XB.out.trans hc.x).setCell (by simp) _, fun w2 hb => ?_⟩
        · have := h2.rr
          rw [e1] at this
          rw [e2]; exact this
        · have := h2.rr2 hb
          rw [e1] at this
          rw [e2]; exact this)
      clear hCM HCM HC b1 hP1
      go_wp2
      exact bodyPost_ret (v := .agg #[.slice (some ⟨R, 0, none⟩) N N]) (by simp [results, Tryd.results31, go_sem, World.cell?_setCell_same, *]) rfl HF.out
theorem CMirror_calls (v : Value) (c : Nat) (rows : List (List St)) (w : World) (h : RR w v c rows) (hl : rows.length ≤ 1000) (hb : ∀ i, i < rows.length → (sw rows i).length ≤ 1000) :
    Calls Tryd.prog 31 #[.agg #[v]] w (RetCM w (mirC rows)) := by
  refine (CMirror2_calls v c rows w h hl hb).mono ?_
  rintro e w' ⟨v, e1, e2, e3, _⟩
  exact ⟨v, e1, e2, e3⟩
end Go.Proofs.YthllbcjglcplhaaDoor
/- laces.Chart. -/
namespace Go.Proofs.YthllbcjglcplhaaDoor
set_option linter.unusedVariables false
set_option linter.unusedSimpArgs false
set_option maxRecDepth 8000
open Go Go.RowKit

def lcE (W y : Int) (rows : List (List Ho)) : Int := if lchk W rows ≠ 0 then lchk W rows else if y < 1 ∨ 6 < y then 1 else 0
def lcR (W y : Int) (rows : List (List Ho)) : List (List St) := if lcE W y rows = 0 then lch W.toNat y rows else []
/-- Knits, as far as they are laid. -/
def knU (W : Nat) (y : Int) (j : Nat) : List St := List.replicate j ⟨1, y, 0, 0, false⟩ ++ List.replicate (W - j) St.none
theorem knU_len {W : Nat} {y : Int} {j : Nat} (h : j ≤ W) : (knU W y j).length = W := by unfold knU; simp; omega
theorem knU_set {W : Nat} {y : Int} {j : Nat} (h : j < W) : (knU W y j).set j ⟨1, y, 0, 0, false⟩ = knU W y (j + 1) := by
  unfold knU
  rw [show W - j = (W - (j + 1)) + 1 by omega, List.replicate_succ, List.set_append_right _ _ (by simp)]
  simp [List.replicate_succ']
theorem knU_zero (W : Nat) (y : Int) : knU W y 0 = List.replicate W St.none := by unfold knU; simp
theorem knU_all (W : Nat) (y : Int) : knU W y W = lrow W y [] := by rw [lrow_zero]; unfold knU; simp
theorem CS.setK {w wr : World} {R N k j i : Nat} {rows : Nat → List St} {q cp : Nat → Nat} (h : CS w wr R N k rows q cp) (hj : j < k) (hi : i < (rows j).length) (x : Int) :
    CS w (wr.setCell ⟨q j, i * 5, none⟩ (.int .u8 x)) R N k (up rows j ((rows j).set i { si (rows j) i with k := x })) q cp :=
  h.set hj ((h.ro j hj).1.setk hi x) (by simp)
theorem lrow_si' {W : Nat} {y : Int} {r : List Ho} {i : Nat} (h : i < W) (x : Int) : { si (lrow W y r) i with k := x } = (⟨x, y, 0, 0, false⟩ : St) := by
  unfold lrow
  rw [si_of_lt (by rw [List.length_map, sgn_len]; exact h), List.getElem_map]
  rfl
theorem cell_o1 {w : World} {b o : Nat} {a : Addr} {v : Value} (h : w.cell? a = some v) (hb : a.block ≠ b) (u : Value) : (w.setCell ⟨b, o, none⟩ u).cell? a = some v := by
  have hx : (w.setCell ⟨b, o, none⟩ u).cell? a = w.cell? a := World.cell?_of_block (Deep.blk_setCell_other _ _ _ _ hb)
  rw [hx]; exact h
theorem blk_1 {w : World} {b : Nat} {x : Value} {t : TypeId} (h : w.heap[b]? = some (.cells #[x] t (0, 0))) (u : Value) : (w.setCell ⟨b, 0, none⟩ u).heap[b]? = some (.cells #[u] t (0, 0)) := by
  have hlt := lt_of_block h
  have h' : w.heap[b] = .cells #[x] t (0, 0) := by simpa [Array.getElem?_eq_getElem hlt] using h
  show (w.heap.modify b _)[b]? = _
  rw [Array.getElem?_eq_getElem (by simpa using hlt), Array.getElem_modify_self, h']
  rfl
/-- A chart with a result block below. -/
theorem CS.below {w W1 wr : World} {M N P : Nat} {rows : Nat → List St} {q cp : Nat → Nat} {v : Value} (h : CS W1 wr M N N rows q cp) (x : Ext w W1) (hP : P < W1.heap.size) (hw : w.heap.size ≤ P) : CS w (wr.setCell ⟨P, 0, none⟩ v) M N N rows q cp := by
  obtain ⟨p1, p2, p3, ⟨f, p4, p5⟩, p6, p7⟩ := h
  have hs := x.size
  refine ⟨(x.trans p1).setCell hw _, by omega, p3, ⟨f, p4.setOther (by simp only []; omega) _, p5⟩, fun i hi => ?_, p7⟩
  obtain ⟨r1, r2, r3⟩ := p6 i hi
  exact ⟨r1.setOther (by simp only []; omega) _, by omega, r3⟩
set_option maxHeartbeats 8000000 in
theorem LChart_calls (W y : Int) (v : Value) (c : Nat) (rows : List (List Ho)) (w : World) (h : HR w v c rows) (hy : 0 ≤ y ∧ y ≤ 255) :
    Calls Tryd.prog 13 #[.agg #[.int .i64 W, v], .int .u8 y] w (RetCE w (lcR W y rows) (lcE W y rows)) := by
  have hck := fun w' (x : Ext w w') => LCheck_calls W v c rows w' (h.ext x)
  obtain ⟨ao, N, rfl, hn, hc, hcm, hat⟩ := h.open
  unfold maxLen at hcm
  obtain ⟨B, hB⟩ : ∃ B, B = (w.alloc (.cells #[.int .i64 W, .slice ao N c] 24)).alloc (.cells #[.slice none 0 0] 28) := ⟨_, rfl⟩
  have xB : Ext w B := by rw [hB]; exact ((Ext.refl w).alloc _).alloc _
  have hB1 : B2 B w.heap.size (.int .i64 W) (.slice ao N c) 24 := by rw [hB]; exact (B2.new w _ _ _).alloc _
  have b1 : B.heap[w.heap.size + 1]? = some (.cells #[.slice none 0 0] 28 (0, 0)) := by rw [hB]; exact blk_at (by simp)
  have HBs := Lib.hid (show B.heap.size = w.heap.size + 2 by rw [hB]; simp)
  have e0 := hB1.c0; have e1 := hB1.c1
  have HCk := Lib.hid (hck B xB)
  have XB := Lib.hid xB; have HB2 := Lib.hid (fun w' (x : Ext B w') => hB1.ext x); have HR4 := Lib.hid (fun w' (x : Ext B w') => x.block b1); have HA := Lib.hid hat; have Hn := Lib.hid hn; have HBe := Lib.hid hB
  have hbadR := fun (E : Int) (wr : World) (x : Ext B wr) (he : lcE W y rows = E) (h0 : E ≠ 0) => show RetCE w (lcR W y rows) (lcE W y rows) (.returned (.tuple #[.agg #[.slice none 0 0], .int .i64 E])) (wr.setCell ⟨w.heap.size + 1, 0, none⟩ (.slice none 0 0)) from by
    rw [he]
    have : lcR W y rows = [] := by unfold lcR; rw [he, if_neg h0]
    rw [this]
    exact ⟨_, rfl, RR.nil _, (xB.trans x).setCell (by simp) _⟩
  have HBad := Lib.hid hbadR
  rw [hB] at e0 e1
  clear hat h hn xB hB1 b1 hB hck hbadR
  go_enter Tryd.func13, Tryd.ntmps13
  go_wp2_with fail
  rw [← HBe.out]
  refine HCk.out.mono ?_
  rintro e w1 ⟨rfl, x1⟩
  have X1 := Lib.hid x1
  clear x1 HCk e0 e1
  have r4 := HR4.out w1 X1.out
  have c4 : w1.cell? ⟨w.heap.size + 1, 0, none⟩ = some (.slice none 0 0) := by simp [World.cell?, r4]
  have f4 : w1.frozen? ⟨w.heap.size + 1, 0, none⟩ = false := by simp [World.frozen?, r4]
  have c4' : ∀ u, (w1.setCell ⟨w.heap.size + 1, 0, none⟩ u).cell? ⟨w.heap.size + 1, 0, none⟩ = some u := fun u => by simp [World.cell?, blk_1 r4 _]
  by_cases hE : lchk W rows = 0
  case neg =>
    have hne : (lchk W rows != 0) = true := by rw [bne, beq_eq_false_iff_ne.2 hE]; rfl
    have HF := Lib.hid (HBad.out _ w1 X1.out (show lcE W y rows = lchk W rows from if_pos hE) hE)
    obtain ⟨E, hEE⟩ : ∃ E, E = lchk W rows := ⟨_, rfl⟩
    rw [← hEE] at hne HF ⊢
    clear hE hEE r4
    go_wp2
    exact bodyPost_ret (v := .tuple #[.agg #[.slice none 0 0], .int .i64 E]) (by simp [results, Tryd.results13, go_sem, c4']) rfl HF.out
  rw [hE]
  by_cases hy1 : y < 1 ∨ 6 < y
  case pos =>
    have HF := Lib.hid (HBad.out 1 w1 X1.out (show lcE W y rows = 1 by unfold lcE; rw [if_neg (by omega), if_pos hy1]) (by decide))
    clear r4 hE
    rcases hy1 with hy1 | hy1
    · go_wp2
      exact bodyPost_ret (v := .tuple #[.agg #[.slice none 0 0], .int .i64 1]) (by simp [results, Tryd.results13, go_sem, c4']) rfl HF.out
    · have t0 : ¬ y < 1 := by omega
      go_wp2
      exact bodyPost_ret (v := .tuple #[.agg #[.slice none 0 0], .int .i64 1]) (by simp [results, Tryd.results13, go_sem, c4']) rfl HF.out
  have hz := lchk_zero hE
  have hle : lcE W y rows = 0 := by unfold lcE; rw [if_neg (by omega), if_neg hy1]
  obtain ⟨z1, z2, z3, z4, z5'⟩ := hz
  obtain ⟨V, rfl⟩ : ∃ V : Nat, W = V := ⟨W.toNat, by omega⟩
  have hlr : lcR V y rows = lch V y rows := by unfold lcR; rw [if_pos hle, Int.toNat_natCast]
  have Hle := Lib.hid hle; have Hlr := Lib.hid hlr; have HRow := Lib.hid z5'
  have hN : N ≤ 31 := by rw [Hn.out]; exact z1
  have hmk := run_make_lc (P := Tryd.prog) eiRows .i64 .i64 N N (by omega) (by omega) (by omega) w1
  have q0 := (HB2.out w1 X1.out).c0; have q1 := (HB2.out w1 X1.out).c1
  have q0a := cell_alloc q0 (.cells (madeCells #[.slice none 0 0] N) 41)
  have q1a := cell_alloc q1 (.cells (madeCells #[.slice none 0 0] N) 41)
  have u1 : ¬ y < 1 := by omega
  have u2 : ¬ 6 < y := by omega
  have hst : ∃ q cp, CS w1 (w1.alloc (.cells (madeCells #[.slice none 0 0] N) 41)) w1.heap.size N 0 (fun i => lrow V y (ow rows i)) q cp :=
    ⟨fun _ => 0, fun _ => 0, CS.start ((Ext.refl _).alloc _) (Nat.le_refl _) (by unfold maxLen; omega) (World.rowIs_made _ _ _ _)⟩
  have HST := Lib.hid hst
  have hsz1 : w.heap.size + 2 ≤ w1.heap.size := by have := X1.out.size; have := HBs.out; omega
  clear hst hE hle hlr z5' z1 z4 hy1 c4 f4 c4' r4
  go_wp2
  clear hmk q0 q1 q0a q1a
  obtain ⟨M, hM⟩ : ∃ M, M = w1.heap.size := ⟨_, rfl⟩
  rw [← hM] at HST ⊢
  have HM := Lib.hid hM
  clear hM
  go_loopw [8, 9, 10, 12, 33, 49, 63] (fun _ _ _ _ i _ _ wr => ∃ k : Nat, k ≤ N ∧ i = .int .i64 k ∧ Hid (∃ q cp, CS w1 wr M N k (fun i => lrow V y (ow rows i)) q cp)) (fun _ _ _ _ i _ _ _ => N - (intOf i).toNat)
  case atStart => exact ⟨0, Nat.zero_le _, rfl, HST⟩
  case round =>
    obtain ⟨k, hk, rfl, HC⟩ := hrel
    clear HST
    obtain ⟨q, cp, hC⟩ := HC.out
    have HCS := Lib.hid hC
    clear HC
    have q0 := (HB2.out wr (X1.out.trans hC.x)).c0; have q1 := (HB2.out wr (X1.out.trans hC.x)).c1
    by_cases hlt : k < N
    · have hlt' : (k : Int) < (N : Int) := by omega
      obtain ⟨b, o, a, m, d, rfl, hc0, hr0⟩ := HA.out k hlt
      have hrB := hr0.ext XB.out
      have XQ := Lib.hid (XB.out.trans (X1.out.trans hC.x))
      replace hc0 := XQ.out.cell hc0
      obtain ⟨_, _, e1, e2, e3, e4, e5⟩ := hrB.open
      simp only [Value.slice.injEq] at e1
      obtain ⟨rfl, rfl, _⟩ := e1
      unfold maxLen at e4
      have HE5 := Lib.hid e5; have He2 := Lib.hid e2
      have hvl := HRow.out k (by rw [← Hn.out]; exact hlt)
      have HVl := Lib.hid hvl
      have hmk := run_make_st .i64 .i64 V (by omega) wr
      have xg : Ext wr (wr.alloc (.cells (madeCells Go.Proofs.YthllbcjglcplhaaDoor.z5 (V * 5)) 49)) := (Ext.refl wr).alloc _
      have hCA := hC.later xg
      obtain ⟨vk2, hvk2⟩ := hCA.ex hlt
      have hfk2 := hCA.frozen k
      have hRO := RO.made wr V (by unfold maxLen; omega)
      have hlt3 := hC.lt
      have hql := fun i (hi : i < k) => (hC.ro i hi).1.lt
      have hput := hCA.put hlt hRO (by have := hC.x.size; omega) (by omega) (fun i hi => by have := hql i hi; omega)
      rw [List.length_replicate] at hput
      have hcM := hput.cell (i := k) (by omega) (by omega)
      rw [up_at, up_at, up_at, List.length_replicate] at hcM
      have q0b := xg.cell q0
      have HM1 := Lib.hid (show M ≠ wr.heap.size ∧ M < wr.heap.size from ⟨by omega, hlt3⟩)
      have HG1 := Lib.hid (show w1.heap.size ≤ wr.heap.size from hC.x.size)
      obtain ⟨w3, hw3⟩ : ∃ w3, w3 = (wr.alloc (.cells (madeCells Go.Proofs.YthllbcjglcplhaaDoor.z5 (V * 5)) 49)).setCell ⟨M, k, none⟩ (.slice (some ⟨wr.heap.size, 0, none⟩) V V) := ⟨_, rfl⟩
      rw [← hw3] at hput
      rw [← knU_zero V y] at hput
      have HP := Lib.hid hput; have HW3 := Lib.hid hw3
      clear hput hw3 hrB e2 e5 hC hCA xg hRO hlt3 hql hr0 hvl
      go_wp2
      rw [← HW3.out]
      clear hmk hvk2 hfk2 hcM q0 q1 q0b hc0
      obtain ⟨g, hg⟩ : ∃ g, g = wr.heap.size := ⟨_, rfl⟩
      rw [← hg] at HP ⊢
      have Hg := Lib.hid hg
      clear hg
      go_loopw [10, 49] (fun _ i ws => ∃ j : Nat, j ≤ V ∧ i = .int .i64 j ∧ Hid (CS w1 ws M N (k + 1) (up (fun i => lrow V y (ow rows i)) k (knU V y j)) (up q k g) (up cp k V))) (fun _ i _ => V - (intOf i).toNat)
      case atStart => exact ⟨0, Nat.zero_le _, rfl, HP⟩
      case round =>
        obtain ⟨j, hj, rfl, HJ⟩ := hrel
        clear HP
        obtain ⟨ws, hws⟩ : ∃ ws : World, ws = wr := ⟨_, rfl⟩
        rw [← hws] at HJ ⊢
        clear hws
        have hcM := HJ.out.cell (i := k) (by omega) (by omega)
        rw [up_at, up_at, up_at, knU_len hj] at hcM
        by_cases hjl : j < V
        · have hjl' : (j : Int) < (V : Int) := by omega
          have hro := (HJ.out.ro k (by omega)).1
          rw [up_at, up_at, up_at] at hro
          obtain ⟨z0, g0⟩ := hro.shapeCell (o := j * 5) (by omega)
          obtain ⟨z1, g1⟩ := hro.shapeCell (o := j * 5 + 1) (by omega)
          obtain ⟨z2, g2⟩ := hro.shapeCell (o := j * 5 + 2) (by omega)
          obtain ⟨z3, g3⟩ := hro.shapeCell (o := j * 5 + 3) (by omega)
          obtain ⟨z4, g4⟩ := hro.shapeCell (o := j * 5 + 4) (by omega)
          have f0 := hro.frozen (j * 5); have f1 := hro.frozen (j * 5 + 1); have f2 := hro.frozen (j * 5 + 2); have f3 := hro.frozen (j * 5 + 3); have f4 := hro.frozen (j * 5 + 4)
          have hP9 := HJ.out.putSt (j := k) (i := j) (by omega) (by rw [up_at, knU_len hj]; exact hjl) ⟨1, y, 0, 0, false⟩
          rw [up_at, up_at, knU_set hjl] at hP9
          have hD9 := hP9.congr (rows' := up (fun i => lrow V y (ow rows i)) k (knU V y (j + 1))) (fun i _ => by
            by_cases e : i = k
            · subst e; rw [up_at, up_at]
            · rw [up_ne _ _ e, up_ne _ _ e, up_ne _ _ e])
          have HN := Lib.hid hD9
          clear hP9 hD9 hro
          go_wp2
          go_roundw
          case rel => exact ⟨j + 1, by omega, by go_num, HN⟩
          case measure => simp [intOf]; omega
        · obtain rfl : j = V := by omega
          have hjl' : ¬ (j : Int) < (j : Int) := by omega
          have HP2 := Lib.hid (show CS w1 ws M N (k + 1) (up (fun i => lrow j y (ow rows i)) k (lrow j y ((ow rows k).take 0))) (up q k g) (up cp k j) from by rw [List.take_zero, ← knU_all]; exact HJ.out)
          obtain ⟨V, rfl⟩ : ∃ V : Nat, V = j := ⟨_, rfl⟩
          clear HJ hcM hj hjl
          go_wp2
          go_loopw [12, 63] (fun _ i wt => ∃ j : Nat, j ≤ m ∧ i = .int .i64 j ∧ Hid (CS w1 wt M N (k + 1) (up (fun i => lrow V y (ow rows i)) k (lrow V y ((ow rows k).take j))) (up q k g) (up cp k V))) (fun _ i _ => m - (intOf i).toNat)
          case atStart => exact ⟨0, Nat.zero_le _, rfl, HP2⟩
          case round =>
            obtain ⟨j, hj, rfl, HJ⟩ := hrel
            clear HP2
            obtain ⟨wt, hwt⟩ : ∃ wt : World, wt = wr := ⟨_, rfl⟩
            rw [← hwt] at HJ ⊢
            clear hwt
            by_cases hjl : j < m
            · have hjl' : (j : Int) < (m : Int) := by omega
              obtain ⟨b2, o2, rfl, e8⟩ := HE5.out j hjl
              obtain ⟨s0, s1⟩ := e8.ext (X1.out.trans HJ.out.x)
              have hjr : j < (ow rows k).length := by rw [← He2.out]; exact hjl
              obtain ⟨i1, i2, i3, i4⟩ := rowE_all HVl.out _ (oi_mem hjr)
              have htw := (oi (ow rows k) j).two_lst
              have hTC := fun w' => two_calls (oi (ow rows k) j) w' ⟨i1, by omega⟩
              have hsn := lrow_snoc V y ((ow rows k).take j) (oi (ow rows k) j)
              rw [← take_succ_oi hjr] at hsn
              obtain ⟨L, hL⟩ : ∃ L, L = lrow V y ((ow rows k).take j) := ⟨_, rfl⟩
              have hLl : L.length = V := by rw [hL, lrow_len]
              have hLs := fun i (hi : i < V) (x : Int) => lrow_si' (y := y) (r := (ow rows k).take j) hi x
              rw [← hL] at hsn HJ hLs
              rcases hh : oi (ow rows k) j with ⟨p, r⟩
              rw [hh] at s0 s1 i1 i2 i3 i4 htw hTC hsn
              simp only at s0 s1 i1 i2
              obtain ⟨T, hT⟩ : ∃ T, T = (⟨p, r⟩ : Ho).two := ⟨_, rfl⟩
              rw [← hT] at htw hTC hsn
              unfold Ho.lst at i4
              have hTb : (0 ≤ T ∧ T < V) ∧ p ≠ T := by
                rcases Bool.eq_false_or_eq_true r with e | e
                · have := htw.1 e; simp only at this; omega
                · have := htw.2 e; simp only at this; omega
              obtain ⟨P, rfl⟩ : ∃ P : Nat, p = P := ⟨p.toNat, by omega⟩
              obtain ⟨Q, rfl⟩ : ∃ Q : Nat, T = Q := ⟨T.toNat, by omega⟩
              have hPV : P < V := by omega
              have hQV : Q < V := by omega
              have hPV' : (P : Int) < (V : Int) := by omega
              have hQV' : (Q : Int) < (V : Int) := by omega
              have hPQ : P ≠ Q := by omega
              simp only [Int.toNat_natCast] at hsn
              unfold Ho.val at hTC
              simp only at hTC
              have HTC := Lib.hid hTC; have HSn := Lib.hid hsn; have HLl := Lib.hid hLl; have HLs := Lib.hid hLs
              clear hTC hsn hLl hLs hL hT hTb htw i1 i2 i3 i4 e8 hh hjr
              -- the box
              obtain ⟨w6, hw6⟩ : ∃ w6, w6 = wt.alloc (.cells #[.int .i64 (P : Int), .bool r] 39) := ⟨_, rfl⟩
              have x6 : Ext wt w6 := by rw [hw6]; exact (Ext.refl wt).alloc _
              have hB6 : B2 w6 wt.heap.size (.int .i64 (P : Int)) (.bool r) 39 := by rw [hw6]; exact B2.new wt _ _ _
              have hC6 := HJ.out.later x6
              have hM6 := hC6.cell (i := k) (by omega) (by omega)
              rw [up_at, up_at, up_at, HLl.out] at hM6
              have k0 := hB6.c0; have k1 := hB6.c1
              have hro := (hC6.ro k (by omega)).1
              rw [up_at, up_at, up_at] at hro
              obtain ⟨z0, g0⟩ := hro.shapeCell (o := P * 5) (by omega)
              have f0 := hro.frozen (P * 5)
              have hgt : g ≠ wt.heap.size := by have := (HJ.out.ro k (by omega)).1.lt; rw [up_at] at this; omega
              have hS1 := hC6.setK (j := k) (i := P) (by omega) (by rw [up_at, HLl.out]; exact hPV) 3
              rw [up_at, up_at, HLs.out P hPV 3] at hS1
              have HS1 := Lib.hid hS1; have HX6 := Lib.hid x6; have HW6 := Lib.hid hw6; have Hgt := Lib.hid hgt
              have hMg : M ≠ g := by have := HM1.out.1; have := Hg.out; omega
              have HMg := Lib.hid hMg
              have HB6 := Lib.hid hB6
              rw [hw6] at k0 k1 hM6 g0 f0
              clear hS1 x6 hw6 hgt hMg hB6 hC6 hro
              go_wp2
              rw [← HW6.out]
              rw [← HW6.out] at k0 k1 hM6 g0 f0
              go_region
              obtain ⟨w7, hw7⟩ : ∃ w7, w7 = (w6.setCell ⟨g, P * 5, none⟩ (.int .u8 3)).drew := ⟨_, rfl⟩
              rw [← hw7]
              have h7 : CS w1 w7 M N (k + 1) (up (up (fun i => lrow V y (ow rows i)) k L) k (L.set P ⟨3, y, 0, 0, false⟩)) (up q k g) (up cp k V) := by
                rw [hw7]; exact HS1.out.later (Ext.refl _).drew
              have hgt := Hgt.out
              have hMg := HMg.out
              have q0_2 : w7.cell? ⟨wt.heap.size, 0, none⟩ = some (.int .i64 (P : Int)) := by rw [hw7]; exact cell_o1 HB6.out.c0 hgt.symm _
              have q0_3 : w7.cell? ⟨wt.heap.size, 1, none⟩ = some (.bool r) := by rw [hw7]; exact cell_o1 HB6.out.c1 hgt.symm _
              have q0_1 : w7.cell? ⟨M, k, none⟩ = some (.slice (some ⟨g, 0, Option.none⟩) V V) := by
                have := h7.cell (i := k) (by omega) (by omega)
                rwa [up_at, up_at, up_at, List.length_set, HLl.out] at this
              have H7 := Lib.hid h7; have HW7 := Lib.hid hw7
              have htg : wt.heap.size ≠ g := hgt.symm
              have hQm : Q * 5 < V * 5 := by omega
              clear k0 k1 hM6 g0 f0 s0 s1 h7 hw7 HS1
              go_wp2
              go_region_held3 (fun w' => w'.cell? ⟨M, k, Option.none⟩ = some (.slice (some ⟨g, 0, Option.none⟩) V V) ∧ w'.cell? ⟨wt.heap.size, 0, Option.none⟩ = some (.int .i64 (P : Int)) ∧ w'.cell? ⟨wt.heap.size, 1, Option.none⟩ = some (.bool r)) (first | (with_reducible exact ⟨q0_1, q0_2, q0_3⟩) | (with_reducible exact ⟨q1_1, q1_2, q1_3⟩) | with_reducible exact ⟨cell_o1 q1_1 hMg _, cell_o1 q1_2 htg _, cell_o1 q1_3 htg _⟩ | go_keep) (first
                | (go_at_call 34; (refine (HTC.out _).mono ?_); intro e wc hh; obtain ⟨rfl, x⟩ := hh; have Xc : Hid (Ext w7 wc) := Lib.hid (Ext.trans (by ((repeat (first | (with_reducible exact Ext.refl _) | (with_reducible apply Ext.drew) | (with_reducible apply Ext.drewN) | (with_reducible apply Ext.alloc))); done)) x); have q1_1 := Xc.out.cell q0_1; have q1_2 := Xc.out.cell q0_2; have q1_3 := Xc.out.cell q0_3; have hro := ((H7.out.later Xc.out).ro k (by omega)).1; rw [up_at, up_at, up_at] at hro; obtain ⟨z0, g0⟩ := hro.shapeCell hQm; have f0 := hro.frozen (Q * 5); clear hro; clear x))
              have hS2 := (H7.out.later Xc.out).setK (j := k) (i := Q) (by omega) (by rw [up_at, List.length_set, HLl.out]; exact hQV) 4
              rw [up_at, up_at] at hS2
              have hsq : { si (L.set P ⟨3, y, 0, 0, false⟩) Q with k := 4 } = (⟨4, y, 0, 0, false⟩ : St) := by
                rw [si_set (by rw [HLl.out]; exact hPV), if_neg (by omega)]; exact HLs.out Q hQV 4
              rw [hsq, ← HSn.out] at hS2
              have hD2 := hS2.congr (rows' := up (fun i => lrow V y (ow rows i)) k (lrow V y ((ow rows k).take (j + 1)))) (fun i _ => by
                by_cases e : i = k
                · subst e; rw [up_at, up_at]
                · rw [up_ne _ _ e, up_ne _ _ e, up_ne _ _ e, up_ne _ _ e])
              have HN := Lib.hid hD2
              clear hS2 hsq hD2 q0_1 q0_2 q0_3 q1_1 q1_2 q1_3 g0 f0
              try go_wp2
              go_roundw
              case rel => exact ⟨j + 1, by omega, by go_num, HN⟩
              case measure => simp [intOf]; omega
            · obtain rfl : m = j := by omega
              have hjl' : ¬ (m : Int) < (m : Int) := by omega
              have HD := Lib.hid (show ∃ q cp, CS w1 wt M N (k + 1) (fun i => lrow V y (ow rows i)) q cp from ⟨_, _, HJ.out.congr (rows' := fun i => lrow V y (ow rows i)) (fun i _ => by
                by_cases e : i = k
                · subst e; rw [up_at, List.take_of_length_le (by rw [← He2.out]; exact Nat.le_refl _)]
                · rw [up_ne _ _ e])⟩)
              clear HJ
              go_wp2
              go_roundw
              case rel => exact ⟨k + 1, by omega, by go_num, HD⟩
              case measure => simp [intOf]; omega
    · obtain rfl : N = k := by omega
      have hlt' : ¬ (N : Int) < (N : Int) := by omega
      have r4 := HR4.out wr (X1.out.trans hC.x)
      have c4 : wr.cell? ⟨w.heap.size + 1, 0, none⟩ = some (.slice none 0 0) := by simp [World.cell?, r4]
      have f4 : wr.frozen? ⟨w.heap.size + 1, 0, none⟩ = false := by simp [World.frozen?, r4]
      have c4' : ∀ u, (wr.setCell ⟨w.heap.size + 1, 0, none⟩ u).cell? ⟨w.heap.size + 1, 0, none⟩ = some u := fun u => by simp [World.cell?, blk_1 r4 _]
      have HF := Lib.hid (show RetCE w (lcR V y rows) (lcE V y rows) (.returned (.tuple #[.agg #[.slice (some ⟨M, 0, none⟩) N N], .int .i64 0])) (wr.setCell ⟨w.heap.size + 1, 0, none⟩ (.slice (some ⟨M, 0, none⟩) N N)) from by
        have h2 := hC.below (v := .slice (some ⟨M, 0, none⟩) N N) (XB.out.trans X1.out) (P := w.heap.size + 1) (by omega) (by omega)
        have e1 := sw_range (N := N) (rows := fun i => lrow V y (ow rows i)) (l := lch V y rows) (by rw [lch_len, Hn.out]) (fun i hi => (lch_sw (by rw [← Hn.out]; exact hi)).symm)
        have e2 : (lch V y rows).length = N := by rw [lch_len, ← Hn.out]
        rw [Hle.out, Hlr.out]
        refine ⟨_, rfl, ?_, h2.x⟩
        have := h2.rr
        rw [e1] at this
        rw [e2]; exact this)
      clear hC HCS r4
      go_wp2
      exact bodyPost_ret (v := .tuple #[.agg #[.slice (some ⟨M, 0, none⟩) N N], .int .i64 0]) (by simp [results, Tryd.results13, go_sem, c4']) rfl HF.out
end Go.Proofs.YthllbcjglcplhaaDoor
