/- Texts of this claim in one file: libraries and walks. -/
import Derived.Deep.RegionHeld3
import Derived.Test.YthllbcjglcplhaaDoorL6
import Derived.Test.YthllbcjglcplhaaDoorL11
import Derived.Test.YthllbcjglcplhaaDoorL12
/- laces.Of. -/
namespace Go.Proofs.YthllbcjglcplhaaDoor
set_option linter.unusedVariables false
set_option linter.unusedSimpArgs false
set_option maxRecDepth 8000
open Go Go.RowKit

/-- What Of returns. -/
def RetOf (w0 : World) (rows : List (List St)) (e : Ending) (w' : World) : Prop := Ext w0 w' ∧
  (((cloads rows).1 ≠ 0 ∧ e = .returned (.tuple #[.agg #[.int .i64 0, .slice Option.none 0 0], .int .u8 0, .int .i64 (cloads rows).1])) ∨
   ((cloads rows).1 = 0 ∧ (¬ ∃ (W : Nat) (y : Int) (hs : List (List Ho)), IsL rows W y hs ∧ 1 ≤ y ∧ y ≤ 6) ∧ e = .returned (.tuple #[.agg #[.int .i64 0, .slice Option.none 0 0], .int .u8 0, .int .i64 7])) ∨
   ((cloads rows).1 = 0 ∧ ∃ (W : Nat) (y : Int) (hs : List (List Ho)) (v : Value) (c : Nat), IsL rows W y hs ∧ (1 ≤ y ∧ y ≤ 6) ∧ y = (si (sw rows 0) 0).y ∧ e = .returned (.tuple #[.agg #[.int .i64 (W : Int), v], .int .u8 y, .int .i64 0]) ∧ HR w' v c hs))
theorem cerr_of {rows : List (List St)} (h : (cloads rows).1 = 0) : cerr rows = 0 := by
  by_cases e : cerr rows = 0
  · exact e
  · unfold cloads at h; rw [if_pos e] at h; exact absurd h e
theorem byt_lineP (r : List St) : Byt (lineP r) := fun x hx => by
  unfold lineP at hx
  obtain ⟨s, _, rfl⟩ := List.mem_map.1 hx
  unfold kSg
  split
  · omega
  · split
    · omega
    · split <;> omega
theorem lineP_len (r : List St) : (lineP r).length = r.length := by unfold lineP; simp
/-- The line, as far as it is written. -/
def lnU (r : List St) (j : Nat) : List Int := (lineP r).take j ++ List.replicate (r.length - j) 0
theorem lnU_len (r : List St) {j : Nat} (h : j ≤ r.length) : (lnU r j).length = r.length := by unfold lnU; simp [lineP_len]; omega
theorem lnU_zero (r : List St) : lnU r 0 = List.replicate r.length 0 := by unfold lnU; simp
theorem lnU_all (r : List St) : lnU r r.length = lineP r := by unfold lnU; rw [Nat.sub_self, List.replicate_zero, List.append_nil, List.take_of_length_le (by rw [lineP_len]; exact Nat.le_refl _)]
theorem lnU_set {r : List St} {j : Nat} (h : j < r.length) : (lnU r j).set j (kSg (si r j).k) = lnU r (j + 1) := by
  unfold lnU
  have hg : gi (lineP r) j = kSg (si r j).k := by
    rw [gi_of_lt (by rw [lineP_len]; exact h), si_of_lt h]; unfold lineP; rw [List.getElem_map]
  rw [take_succ_gi (by rw [lineP_len]; exact h), hg, show r.length - j = (r.length - (j + 1)) + 1 by omega, List.replicate_succ, List.set_append_right _ _ (by simp [lineP_len]; omega)]
  simp [lineP_len, Nat.min_eq_left (Nat.le_of_lt h)]
theorem region_mid {P : Program} {c : Code} {Q : Exit → Act → World → Prop} {a : Act} {w : World} (Mid : Act → Act → World → Prop) (h1 : c.wp P (fun e a' w' => e = .normal ∧ Mid a a' w') a w) (h2 : ∀ a' w', Mid a a' w' → Q .normal a' w') : c.wp P Q a w :=
  Code.wp_mono (fun e a' w' h => by obtain ⟨rfl, h⟩ := h; exact h2 a' w' h) h1
/-- A lace being filled with rows that are values: its block M, its rows in block R. -/
def LJ (w wr : World) (W : Int) (R N k M : Nat) (rows : Nat → List Ho) : Prop := HW w wr R N k rows ∧ B2 wr M (.int .i64 W) (.slice (some ⟨R, 0, none⟩) N N) 24 ∧ R ≠ M ∧ w.heap.size ≤ M
theorem LJ_set {w Y : World} {W : Int} {R N M : Nat} {f : Nat → Value} {u v : Value} (x : Ext w Y) (hR : Y.rowIs R 37 N f) (hM : B2 Y M u v 24) (hne : R ≠ M) (hr : w.heap.size ≤ R) (hm : w.heap.size ≤ M) (hN : N ≤ maxLen) (F : Nat → List Ho) : LJ w ((Y.setCell ⟨M, 0, none⟩ (.int .i64 W)).setCell ⟨M, 1, none⟩ (.slice (some ⟨R, 0, none⟩) N N)) W R N 0 M F :=
  ⟨HW.start ((x.setCell hm _).setCell hm _) hr hN ((hR.setOther (by simpa using hne) _).setOther (by simpa using hne) _), hM.set2 _ _, hne, hm⟩
theorem LJ_one {w wa : World} {W : Int} {R N : Nat} {f : Nat → Value} (x : Ext w wa) (hR : wa.rowIs R 37 N f) (hne : R ≠ wa.heap.size) (hr : w.heap.size ≤ R) (hN : N ≤ maxLen) (F : Nat → List Ho) : LJ w (wa.alloc (.cells #[.int .i64 W, .slice (some ⟨R, 0, none⟩) N N] 24)) W R N 0 wa.heap.size F :=
  ⟨HW.start (x.alloc _) hr hN (((Ext.refl wa).alloc _).row hR), B2.new _ _ _ _, hne, x.size⟩
theorem LJ_cml {w wa : World} {W : Int} {N : Nat} (x : Ext w wa) (hN : N ≤ maxLen) (F : Nat → List Ho) : LJ w ((wa.alloc (.cells (madeCells #[.slice none 0 0] N) 37)).alloc (.cells #[.int .i64 W, .slice (some ⟨wa.heap.size, 0, none⟩) N N] 24)) W wa.heap.size N 0 (wa.heap.size + 1) F := by
  have h := LJ_one (W := W) (x.alloc (.cells (madeCells #[.slice none 0 0] N) 37)) (World.rowIs_made wa _ _ _) (by simp) x.size hN F
  rwa [show (wa.alloc (.cells (madeCells #[.slice none 0 0] N) 37)).heap.size = wa.heap.size + 1 by simp] at h
theorem LJ_clm {w wa : World} {W : Int} {N : Nat} (x : Ext w wa) (hN : N ≤ maxLen) (F : Nat → List Ho) : LJ w ((wa.alloc (.cells #[.int .i64 W, .slice (some ⟨wa.heap.size + 1, 0, none⟩) N N] 24)).alloc (.cells (madeCells #[.slice none 0 0] N) 37)) W (wa.heap.size + 1) N 0 wa.heap.size F := by
  have hr := World.rowIs_made (wa.alloc (.cells #[.int .i64 W, .slice (some ⟨wa.heap.size + 1, 0, none⟩) N N] 24)) (.slice none 0 0) N 37
  rw [show (wa.alloc (.cells #[.int .i64 W, .slice (some ⟨wa.heap.size + 1, 0, none⟩) N N] 24)).heap.size = wa.heap.size + 1 by simp] at hr
  exact ⟨HW.start ((x.alloc _).alloc _) (Nat.le_succ_of_le x.size) hN hr, (B2.new _ _ _ _).alloc _, by omega, x.size⟩
theorem HW.below2 {w W1 wr : World} {R N P : Nat} {rows : Nat → List Ho} {u v v0 v1 : Value} (h : HW W1 wr R N N rows) (x : Ext w W1) (hp : B2 wr P u v 24) (hP : P < W1.heap.size) (hw : w.heap.size ≤ P) : HW w ((wr.setCell ⟨P, 0, none⟩ v0).setCell ⟨P, 0 + 1, none⟩ v1) R N N rows := by
  obtain ⟨p1, p2, p3, f, p4, p5⟩ := h
  have hs := x.size
  refine ⟨((x.trans p1).setCell hw _).setCell hw _, by omega, p3, f, (p4.setOther (by simp only []; omega) _).setOther (by simp only []; omega) _, fun i hi => ?_⟩
  have h1 := (p5 i hi).setOther (a := ⟨P, 0, none⟩) (u' := v0) hp (by decide)
  exact h1.setOther (a := ⟨P, 0 + 1, none⟩) (u' := v1) (show (wr.setCell ⟨P, 0, none⟩ v0).heap[P]? = _ from (B2.set0 (u := v0) hp)) (by decide)
theorem isL_y' : True := trivial
theorem isL_y {rows : List (List St)} {W : Nat} {y : Int} {hs : List (List Ho)} (h : IsL rows W y hs) : y = (si (sw rows 0) 0).y := by
  obtain ⟨h1, h2⟩ := h.rd
  obtain ⟨z1, z2, z3, z4, _⟩ := lchk_zero h.1
  have h0 : 0 < rows.length := by omega
  obtain ⟨_, _, a, b⟩ := h2 0 h0
  have hl : 0 < (sw rows 0).length := by omega
  exact ((b _ (si_mem hl)).1).symm
theorem Of_noE {rows : List (List St)} {hs : List (List Ho)} {WW Y : Int} (hw : WW = rneed (sw rows 0)) (hy : Y = (si (sw rows 0) 0).y) (hl : hs.length = rows.length) (hr : ∀ i, i < rows.length → rdL 0 (lineP (sw rows i)) = some (ow hs i)) (h : lcE WW Y hs ≠ 0) : ¬ ∃ (W : Nat) (y : Int) (hs : List (List Ho)), IsL rows W y hs ∧ 1 ≤ y ∧ y ≤ 6 := by
  rintro ⟨W', y', hs', hI, hy1, hy2⟩
  have h1 := hI.uniq (W' := 0) (y' := 0) hl hr
  have h2 := hI.need ⟨hy1, hy2⟩
  have h3 := isL_y hI
  rw [← hw] at h2
  apply h
  have hz : lchk WW hs = 0 := by rw [h2, ← h1]; exact hI.1
  unfold lcE
  rw [if_neg (by omega), if_neg (by omega)]
theorem Of_noS {rows : List (List St)} {hs : List (List Ho)} {WW Y : Int} (hw : WW = rneed (sw rows 0)) (hy : Y = (si (sw rows 0) 0).y) (hl : hs.length = rows.length) (hr : ∀ i, i < rows.length → rdL 0 (lineP (sw rows i)) = some (ow hs i)) (h0 : lcE WW Y hs = 0) (h : lcR WW Y hs ≠ rows) : ¬ ∃ (W : Nat) (y : Int) (hs : List (List Ho)), IsL rows W y hs ∧ 1 ≤ y ∧ y ≤ 6 := by
  rintro ⟨W', y', hs', hI, hy1, hy2⟩
  have h1 := hI.uniq (W' := 0) (y' := 0) hl hr
  have h2 := hI.need ⟨hy1, hy2⟩
  have h3 := isL_y hI
  rw [← hw] at h2
  rw [← hy] at h3
  apply h
  unfold lcR
  rw [if_pos h0, h2, Int.toNat_natCast, ← h1, ← h3]
  exact hI.2.symm
theorem Of_yes {rows : List (List St)} {hs : List (List Ho)} {WW Y : Int} (h0 : lcE WW Y hs = 0) (h : lcR WW Y hs = rows) : ∃ W : Nat, WW = W ∧ IsL rows W Y hs := by
  have hk : lchk WW hs = 0 := by
    by_cases e : lchk WW hs = 0
    · exact e
    · unfold lcE at h0; rw [if_pos e] at h0; exact absurd h0 e
  obtain ⟨_, z2, _⟩ := lchk_zero hk
  obtain ⟨W', hW'⟩ : ∃ W' : Nat, WW = W' := ⟨WW.toNat, by omega⟩
  refine ⟨W', hW', by rw [← hW']; exact hk, ?_⟩
  rw [← h]; unfold lcR; rw [if_pos h0, hW', Int.toNat_natCast]
set_option maxHeartbeats 8000000 in
theorem LOf_calls (v : Value) (c : Nat) (rows : List (List St)) (w : World) (h : RR w v c rows) (hIn : ∀ i, i < rows.length → ∀ j, j < (sw rows i).length → 0 ≤ (si (sw rows i) j).y ∧ (si (sw rows i) j).y ≤ 255) :
    Calls Tryd.prog 18 #[.agg #[v]] w (RetOf w rows) := by
  have hck := fun w' (x : Ext w w') => CCheck_calls v c rows w' (h.ext x)
  have hsm := fun w' (x : Ext w w') v2 c2 m (h2 : RR w' v2 c2 m) => CSame_calls v2 v c2 c m rows w' h2 (h.ext x)
  obtain ⟨ao, N, rfl, hn, hc, hcm, hat⟩ := h.open
  unfold maxLen at hcm
  obtain ⟨B, hB⟩ : ∃ B, B = (w.alloc (.cells #[.slice ao N c] 28)).alloc (.cells #[.int .i64 0, .slice none 0 0] 24) := ⟨_, rfl⟩
  have xB : Ext w B := by rw [hB]; exact ((Ext.refl w).alloc _).alloc _
  have b0 : B.heap[w.heap.size]? = some (.cells #[.slice ao N c] 28 (0, 0)) := by rw [hB]; exact blk_old (blk_at rfl)
  have hB4 : B2 B (w.heap.size + 1) (.int .i64 0) (.slice none 0 0) 24 := by
    rw [hB]; have := B2.new (w.alloc (.cells #[.slice ao N c] 28)) (.int .i64 0) (.slice none 0 0) 24
    rwa [show (w.alloc (.cells #[.slice ao N c] 28)).heap.size = w.heap.size + 1 by simp] at this
  have d0 : B.cell? ⟨w.heap.size, 0, none⟩ = some (.slice ao N c) := by simp [World.cell?, b0]
  have HCk := Lib.hid (hck B xB); have XB := Lib.hid xB; have HA := Lib.hid hat; have Hn := Lib.hid hn; have HSm := Lib.hid hsm
  have HD0 := Lib.hid (fun w' (x : Ext B w') => x.cell d0); have HR4 := Lib.hid (fun w' (x : Ext B w') => hB4.ext x)
  have HBe := Lib.hid hB; have HBs := Lib.hid (show B.heap.size = w.heap.size + 2 by rw [hB]; simp); have HIn := Lib.hid hIn
  rw [hB] at d0
  clear hat h hn xB b0 hB4 hB hck hsm hIn
  go_enter Tryd.func18, Tryd.ntmps18
  go_wp2_with fail
  rw [← HBe.out]
  refine HCk.out.mono ?_
  rintro e w1 ⟨rfl, x1⟩
  have X1 := Lib.hid x1
  clear x1 HCk d0
  by_cases hE : (cloads rows).1 = 0
  case neg =>
    have hne : ((cloads rows).1 != 0) = true := by rw [bne, beq_eq_false_iff_ne.2 hE]; rfl
    have r4 := HR4.out w1 X1.out
    have c4 := r4.c0; have c5 := r4.c1; have f4 := r4.f0; have f5 := r4.f1
    have c6 := (r4.set2 (.int .i64 0) (.slice none 0 0)).c0; have c7 := (r4.set2 (.int .i64 0) (.slice none 0 0)).c1
    have HF := Lib.hid (show RetOf w rows (.returned (.tuple #[.agg #[.int .i64 0, .slice none 0 0], .int .u8 0, .int .i64 (cloads rows).1])) ((w1.setCell ⟨w.heap.size + 1, 0, none⟩ (.int .i64 0)).setCell ⟨w.heap.size + 1, 0 + 1, none⟩ (.slice none 0 0)) from
      ⟨((XB.out.trans X1.out).setCell (by simp) _).setCell (by simp) _, .inl ⟨hE, rfl⟩⟩)
    obtain ⟨E, hEE⟩ : ∃ E, E = (cloads rows).1 := ⟨_, rfl⟩
    rw [← hEE] at hne HF ⊢
    clear hE hEE r4
    go_wp2
    exact bodyPost_ret (v := .tuple #[.agg #[.int .i64 0, .slice none 0 0], .int .u8 0, .int .i64 E]) (by simp [results, Tryd.results18, go_sem, c6, c7]) rfl HF.out
  rw [hE]
  have hce := cerr_of hE
  obtain ⟨r1, r2, r3, _⟩ := cerr_zero hce
  have hN : N ≤ 31 := by rw [Hn.out]; exact r1
  have hN1 : 1 ≤ N := by rw [Hn.out]; exact r2
  have hlen : ∀ i, i < N → (sw rows i).length ≤ 16 ∧ 1 ≤ (sw rows i).length ∧ ∀ s ∈ sw rows i, s.chk = 0 := fun i hi => by
    obtain ⟨a, b, c, _⟩ := rchk_zero (r3 i (by rw [← Hn.out]; exact hi))
    refine ⟨a, b, fun s hs => ?_⟩
    obtain ⟨j, hj, rfl⟩ := List.mem_iff_getElem.1 hs
    have := c j hj
    rwa [si_of_lt hj] at this
  have HLen := Lib.hid hlen; have HE := Lib.hid hE
  obtain ⟨b, o, a, m, d, rfl, hc0, hr0⟩ := HA.out 0 (by omega)
  rw [Nat.add_zero] at hc0
  have q0_1 := HD0.out w1 X1.out
  have q0_2 := (XB.out.trans X1.out).cell hc0
  have hnd := fun w' (x : Ext w1 w') => CNeeds_calls _ d (sw rows 0) w' (hr0.ext ((XB.out.trans X1.out).trans x)) (by have := (hlen 0 (by omega)).1; omega)
  have HNd := Lib.hid hnd
  have hmk := fun w' => run_make_lc (P := Tryd.prog) eiHows .i64 .i64 N N (by omega) (by omega) (by omega) w'
  have t1 : (0 : Int) < N := by omega
  have t2 : 0 < N := by omega
  have hb1 : w.heap.size < w1.heap.size := World.block_lt_of_cell? w1 _ q0_1
  have hb2 : b < w1.heap.size := World.block_lt_of_cell? w1 _ q0_2
  clear hE hce r1 r2 r3 hlen hc0 hr0 hnd
  go_wp2
  refine region_mid (fun a0 a' w2 => ∃ (R M : Nat), a' = ((((((((((a0.put (some 23) (.pointer (some ⟨w.heap.size, 0, none⟩))).put (some 24) (.slice (some ⟨b, o, none⟩) N c)).put (some 25) (.pointer (some ⟨b, o, none⟩))).put (some 26) (.slice a m d)).put (some 27) (.int .i64 (rneed (sw rows 0)))).put (some 28) (.pointer (some ⟨w.heap.size, 0, none⟩))).put (some 29) (.slice (some ⟨b, o, none⟩) N c)).put (some 30) (.int .i64 N)).put (some 31) (.slice (some ⟨R, 0, none⟩) N N)).put (some 32) (.agg #[.int .i64 (rneed (sw rows 0)), .slice (some ⟨R, 0, none⟩) N N])).put (some 6) (.pointer (some ⟨M, 0, none⟩)) ∧ ∀ F, LJ w1 w2 (rneed (sw rows 0)) R N 0 M F) ?_ ?_
  · refine wp_region_held_drew (S := fun w' => Ext w1 w' ∧ w'.cell? ⟨w.heap.size, 0, none⟩ = some (.slice (some ⟨b, o, none⟩) N c) ∧ w'.cell? ⟨b, o, none⟩ = some (.slice a m d)) (by kernel_rfl) ?_ (fun hHeld => ?_)
    · exact ⟨(Ext.refl _).drew, q0_1, q0_2⟩
    refine wpAnyH_take (i := 0) (v := ?va0) rfl (by kernel_rfl) (by kernel_rfl) (by kernel_rfl) (fun _ _ _ h => (by obtain ⟨h, _⟩ := h; cases h)) (Or.inl ⟨by rfl, fun w hSw => ?ti0⟩) (by assumption) ?rest0
    case ti0 => ((obtain ⟨_, hS1, hS2⟩ := hSw); go_simp; (first | done | with_reducible rfl))
    try simp only [Act.put, List.getElem_toArray, List.getElem_cons_zero, List.getElem_cons_succ, List.setIfInBounds_toArray, List.set_cons_zero, List.set_cons_succ]
    refine wpAnyH_take (i := 1) (v := ?va1) rfl (by kernel_rfl) (by kernel_rfl) (by kernel_rfl) (fun _ _ _ h => (by obtain ⟨h, _⟩ := h; cases h)) (Or.inl ⟨by rfl, fun w hSw => ?ti1⟩) (by assumption) ?rest1
    case ti1 => ((obtain ⟨_, hS1, hS2⟩ := hSw); go_simp; (first | done | with_reducible rfl))
    try simp only [Act.put, List.getElem_toArray, List.getElem_cons_zero, List.getElem_cons_succ, List.setIfInBounds_toArray, List.set_cons_zero, List.set_cons_succ]
    refine wpAnyH_take (i := 2) (v := ?va2) rfl (by kernel_rfl) (by kernel_rfl) (by kernel_rfl) (fun _ _ _ h => (by obtain ⟨h, _⟩ := h; cases h)) (Or.inl ⟨by rfl, fun w hSw => ?ti2⟩) (by assumption) ?rest2
    case ti2 => ((obtain ⟨_, hS1, hS2⟩ := hSw); go_simp; (first | done | with_reducible rfl))
    try simp only [Act.put, List.getElem_toArray, List.getElem_cons_zero, List.getElem_cons_succ, List.setIfInBounds_toArray, List.set_cons_zero, List.set_cons_succ]
    refine wpAnyH_take (i := 3) (v := ?va3) rfl (by kernel_rfl) (by kernel_rfl) (by kernel_rfl) (fun _ _ _ h => (by obtain ⟨h, _⟩ := h; cases h)) (Or.inl ⟨by rfl, fun w hSw => ?ti3⟩) (by assumption) ?rest3
    case ti3 => ((obtain ⟨_, hS1, hS2⟩ := hSw); go_simp; (first | done | with_reducible rfl))
    try simp only [Act.put, List.getElem_toArray, List.getElem_cons_zero, List.getElem_cons_succ, List.setIfInBounds_toArray, List.set_cons_zero, List.set_cons_succ]
    refine wpAnyH_take (i := 5) (v := ?va4) rfl (by kernel_rfl) (by kernel_rfl) (by kernel_rfl) (fun _ _ _ h => (by obtain ⟨h, _⟩ := h; cases h)) (Or.inl ⟨by rfl, fun w hSw => ?ti4⟩) (by assumption) ?rest4
    case ti4 => ((obtain ⟨_, hS1, hS2⟩ := hSw); go_simp; (first | done | with_reducible rfl))
    try simp only [Act.put, List.getElem_toArray, List.getElem_cons_zero, List.getElem_cons_succ, List.setIfInBounds_toArray, List.set_cons_zero, List.set_cons_succ]
    refine wpAnyH_take (i := 6) (v := ?va5) rfl (by kernel_rfl) (by kernel_rfl) (by kernel_rfl) (fun _ _ _ h => (by obtain ⟨h, _⟩ := h; cases h)) (Or.inl ⟨by rfl, fun w hSw => ?ti5⟩) (by assumption) ?rest5
    case ti5 => ((obtain ⟨_, hS1, hS2⟩ := hSw); go_simp; (first | done | with_reducible rfl))
    try simp only [Act.put, List.getElem_toArray, List.getElem_cons_zero, List.getElem_cons_succ, List.setIfInBounds_toArray, List.set_cons_zero, List.set_cons_succ]
    refine wpAnyH_take (i := 7) (v := ?va6) rfl (by kernel_rfl) (by kernel_rfl) (by kernel_rfl) (fun _ _ _ h => (by obtain ⟨h, _⟩ := h; cases h)) (Or.inl ⟨by rfl, fun w hSw => ?ti6⟩) (by assumption) ?rest6
    case ti6 => ((obtain ⟨_, hS1, hS2⟩ := hSw); go_simp; (first | done | with_reducible rfl))
    try simp only [Act.put, List.getElem_toArray, List.getElem_cons_zero, List.getElem_cons_succ, List.setIfInBounds_toArray, List.set_cons_zero, List.set_cons_succ]
    refine wpAnyH_ready (rs := [4, 8, 10]) (by kernel_rfl) (by simp) ?_
    refine AllReadyH.cons rfl (fun K hK => ?_) (AllReadyH.cons rfl (fun K hK => ?_) (AllReadyH.cons rfl (fun K hK => ?_) AllReadyH.nil))
    · go_simp
      refine (HNd.out _ (by (repeat (first | (with_reducible exact Ext.refl _) | (with_reducible assumption) | (with_reducible apply Ext.drew) | (with_reducible apply Ext.drewN) | (with_reducible apply Ext.alloc))))).mono ?_
      intro e wa hh
      obtain ⟨rfl, x⟩ := hh
      have Xa : Ext w1 wa := Ext.trans (by (repeat (first | (with_reducible exact Ext.refl _) | (with_reducible assumption) | (with_reducible apply Ext.drew) | (with_reducible apply Ext.drewN) | (with_reducible apply Ext.alloc)))) x
      go_simp
      refine hK.out _ _ ?_ (fun hHeld => ?_)
      · exact ⟨by (repeat (first | (with_reducible exact Ext.refl _) | (with_reducible assumption) | (with_reducible apply Ext.drew) | (with_reducible apply Ext.drewN) | (with_reducible apply Ext.alloc))), (Ext.cell (w := w1) (by (repeat (first | (with_reducible exact Ext.refl _) | (with_reducible assumption) | (with_reducible apply Ext.drew) | (with_reducible apply Ext.drewN) | (with_reducible apply Ext.alloc)))) q0_1), (Ext.cell (w := w1) (by (repeat (first | (with_reducible exact Ext.refl _) | (with_reducible assumption) | (with_reducible apply Ext.drew) | (with_reducible apply Ext.drewN) | (with_reducible apply Ext.alloc)))) q0_2)⟩
      clear hK K
      try simp only [Act.put, List.getElem_toArray, List.getElem_cons_zero, List.getElem_cons_succ, List.setIfInBounds_toArray, List.set_cons_zero, List.set_cons_succ]
      refine wpAnyH_ready (rs := [8, 10]) (by kernel_rfl) (by simp) ?_
      refine AllReadyH.cons rfl (fun K hK => ?_) (AllReadyH.cons rfl (fun K hK => ?_) AllReadyH.nil)
      · go_simp
        refine hK.out _ _ ?_ (fun hHeld => ?_)
        · exact ⟨by (repeat (first | (with_reducible exact Ext.refl _) | (with_reducible assumption) | (with_reducible apply Ext.drew) | (with_reducible apply Ext.drewN) | (with_reducible apply Ext.alloc))), (Ext.cell (w := w1) (by (repeat (first | (with_reducible exact Ext.refl _) | (with_reducible assumption) | (with_reducible apply Ext.drew) | (with_reducible apply Ext.drewN) | (with_reducible apply Ext.alloc)))) q0_1), (Ext.cell (w := w1) (by (repeat (first | (with_reducible exact Ext.refl _) | (with_reducible assumption) | (with_reducible apply Ext.drew) | (with_reducible apply Ext.drewN) | (with_reducible apply Ext.alloc)))) q0_2)⟩
        clear hK K
        try simp only [Act.put, List.getElem_toArray, List.getElem_cons_zero, List.getElem_cons_succ, List.setIfInBounds_toArray, List.set_cons_zero, List.set_cons_succ]
        refine wpAnyH_take (i := 9) (v := ?va7) rfl (by kernel_rfl) (by kernel_rfl) (by kernel_rfl) (fun _ _ _ h => (by obtain ⟨h, _⟩ := h; cases h)) (Or.inl ⟨by rfl, fun w hSw => ?ti7⟩) (by assumption) ?rest7
        case ti7 => ((obtain ⟨_, hS1, hS2⟩ := hSw); go_simp; (first | done | with_reducible rfl))
        try simp only [Act.put, List.getElem_toArray, List.getElem_cons_zero, List.getElem_cons_succ, List.setIfInBounds_toArray, List.set_cons_zero, List.set_cons_succ]
        refine wpAnyH_ready (rs := [10]) (by kernel_rfl) (by simp) ?_
        refine AllReadyH.cons rfl (fun K hK => ?_) AllReadyH.nil
        go_simp
        refine hK.out _ _ ?_ (fun hHeld => ?_)
        · exact ⟨by (repeat (first | (with_reducible exact Ext.refl _) | (with_reducible assumption) | (with_reducible apply Ext.drew) | (with_reducible apply Ext.drewN) | (with_reducible apply Ext.alloc))), (Ext.cell (w := w1) (by (repeat (first | (with_reducible exact Ext.refl _) | (with_reducible assumption) | (with_reducible apply Ext.drew) | (with_reducible apply Ext.drewN) | (with_reducible apply Ext.alloc)))) q0_1), (Ext.cell (w := w1) (by (repeat (first | (with_reducible exact Ext.refl _) | (with_reducible assumption) | (with_reducible apply Ext.drew) | (with_reducible apply Ext.drewN) | (with_reducible apply Ext.alloc)))) q0_2)⟩
        clear hK K
        try simp only [Act.put, List.getElem_toArray, List.getElem_cons_zero, List.getElem_cons_succ, List.setIfInBounds_toArray, List.set_cons_zero, List.set_cons_succ]
        refine wpAnyH_ready (rs := [11]) (by kernel_rfl) (by simp) ?_
        refine AllReadyH.cons rfl (fun K hK => ?_) AllReadyH.nil
        go_simp
        refine hK.out _ _ ?_ (fun hHeld => ?_)
        · exact ⟨by (repeat (first | (with_reducible exact Ext.refl _) | (with_reducible assumption) | (with_reducible apply Ext.drew) | (with_reducible apply Ext.drewN) | (with_reducible apply Ext.alloc))), (Ext.cell (w := w1) (by (repeat (first | (with_reducible exact Ext.refl _) | (with_reducible assumption) | (with_reducible apply Ext.drew) | (with_reducible apply Ext.drewN) | (with_reducible apply Ext.alloc)))) q0_1), (Ext.cell (w := w1) (by (repeat (first | (with_reducible exact Ext.refl _) | (with_reducible assumption) | (with_reducible apply Ext.drew) | (with_reducible apply Ext.drewN) | (with_reducible apply Ext.alloc)))) q0_2)⟩
        clear hK K
        try simp only [Act.put, List.getElem_toArray, List.getElem_cons_zero, List.getElem_cons_succ, List.setIfInBounds_toArray, List.set_cons_zero, List.set_cons_succ]
        refine wpAnyH_done (by kernel_rfl) ?_ _
        exact ⟨rfl, wa.heap.size, wa.heap.size + 1, rfl, fun F => LJ_cml Xa (by unfold maxLen; omega) F⟩
      · go_simp
        refine hK.out _ _ ?_ (fun hHeld => ?_)
        · exact ⟨by (repeat (first | (with_reducible exact Ext.refl _) | (with_reducible assumption) | (with_reducible apply Ext.drew) | (with_reducible apply Ext.drewN) | (with_reducible apply Ext.alloc))), (Ext.cell (w := w1) (by (repeat (first | (with_reducible exact Ext.refl _) | (with_reducible assumption) | (with_reducible apply Ext.drew) | (with_reducible apply Ext.drewN) | (with_reducible apply Ext.alloc)))) q0_1), (Ext.cell (w := w1) (by (repeat (first | (with_reducible exact Ext.refl _) | (with_reducible assumption) | (with_reducible apply Ext.drew) | (with_reducible apply Ext.drewN) | (with_reducible apply Ext.alloc)))) q0_2)⟩
        clear hK K
        try simp only [Act.put, List.getElem_toArray, List.getElem_cons_zero, List.getElem_cons_succ, List.setIfInBounds_toArray, List.set_cons_zero, List.set_cons_succ]
        refine wpAnyH_ready (rs := [8]) (by kernel_rfl) (by simp) ?_
        refine AllReadyH.cons rfl (fun K hK => ?_) AllReadyH.nil
        go_simp
        refine hK.out _ _ ?_ (fun hHeld => ?_)
        · exact ⟨by (repeat (first | (with_reducible exact Ext.refl _) | (with_reducible assumption) | (with_reducible apply Ext.drew) | (with_reducible apply Ext.drewN) | (with_reducible apply Ext.alloc))), (Ext.cell (w := w1) (by (repeat (first | (with_reducible exact Ext.refl _) | (with_reducible assumption) | (with_reducible apply Ext.drew) | (with_reducible apply Ext.drewN) | (with_reducible apply Ext.alloc)))) q0_1), (Ext.cell (w := w1) (by (repeat (first | (with_reducible exact Ext.refl _) | (with_reducible assumption) | (with_reducible apply Ext.drew) | (with_reducible apply Ext.drewN) | (with_reducible apply Ext.alloc)))) q0_2)⟩
        clear hK K
        try simp only [Act.put, List.getElem_toArray, List.getElem_cons_zero, List.getElem_cons_succ, List.setIfInBounds_toArray, List.set_cons_zero, List.set_cons_succ]
        refine wpAnyH_take (i := 9) (v := ?va8) rfl (by kernel_rfl) (by kernel_rfl) (by kernel_rfl) (fun _ _ _ h => (by obtain ⟨h, _⟩ := h; cases h)) (Or.inl ⟨by rfl, fun w hSw => ?ti8⟩) (by assumption) ?rest8
        case ti8 => ((obtain ⟨_, hS1, hS2⟩ := hSw); go_simp; (first | done | with_reducible rfl))
        try simp only [Act.put, List.getElem_toArray, List.getElem_cons_zero, List.getElem_cons_succ, List.setIfInBounds_toArray, List.set_cons_zero, List.set_cons_succ]
        refine wpAnyH_ready (rs := [11]) (by kernel_rfl) (by simp) ?_
        refine AllReadyH.cons rfl (fun K hK => ?_) AllReadyH.nil
        go_simp
        refine hK.out _ _ ?_ (fun hHeld => ?_)
        · exact ⟨by (repeat (first | (with_reducible exact Ext.refl _) | (with_reducible assumption) | (with_reducible apply Ext.drew) | (with_reducible apply Ext.drewN) | (with_reducible apply Ext.alloc))), (Ext.cell (w := w1) (by (repeat (first | (with_reducible exact Ext.refl _) | (with_reducible assumption) | (with_reducible apply Ext.drew) | (with_reducible apply Ext.drewN) | (with_reducible apply Ext.alloc)))) q0_1), (Ext.cell (w := w1) (by (repeat (first | (with_reducible exact Ext.refl _) | (with_reducible assumption) | (with_reducible apply Ext.drew) | (with_reducible apply Ext.drewN) | (with_reducible apply Ext.alloc)))) q0_2)⟩
        clear hK K
        try simp only [Act.put, List.getElem_toArray, List.getElem_cons_zero, List.getElem_cons_succ, List.setIfInBounds_toArray, List.set_cons_zero, List.set_cons_succ]
        refine wpAnyH_done (by kernel_rfl) ?_ _
        exact ⟨rfl, wa.heap.size + 1, wa.heap.size, rfl, fun F => LJ_clm Xa (by unfold maxLen; omega) F⟩
    · go_simp
      refine hK.out _ _ ?_ (fun hHeld => ?_)
      · exact ⟨by (repeat (first | (with_reducible exact Ext.refl _) | (with_reducible assumption) | (with_reducible apply Ext.drew) | (with_reducible apply Ext.drewN) | (with_reducible apply Ext.alloc))), (Ext.cell (w := w1) (by (repeat (first | (with_reducible exact Ext.refl _) | (with_reducible assumption) | (with_reducible apply Ext.drew) | (with_reducible apply Ext.drewN) | (with_reducible apply Ext.alloc)))) q0_1), (Ext.cell (w := w1) (by (repeat (first | (with_reducible exact Ext.refl _) | (with_reducible assumption) | (with_reducible apply Ext.drew) | (with_reducible apply Ext.drewN) | (with_reducible apply Ext.alloc)))) q0_2)⟩
      clear hK K
      try simp only [Act.put, List.getElem_toArray, List.getElem_cons_zero, List.getElem_cons_succ, List.setIfInBounds_toArray, List.set_cons_zero, List.set_cons_succ]
      refine wpAnyH_ready (rs := [4, 10]) (by kernel_rfl) (by simp) ?_
      refine AllReadyH.cons rfl (fun K hK => ?_) (AllReadyH.cons rfl (fun K hK => ?_) AllReadyH.nil)
      · go_simp
        refine (HNd.out _ (by (repeat (first | (with_reducible exact Ext.refl _) | (with_reducible assumption) | (with_reducible apply Ext.drew) | (with_reducible apply Ext.drewN) | (with_reducible apply Ext.alloc))))).mono ?_
        intro e wa hh
        obtain ⟨rfl, x⟩ := hh
        have Xa : Ext w1 wa := Ext.trans (by (repeat (first | (with_reducible exact Ext.refl _) | (with_reducible assumption) | (with_reducible apply Ext.drew) | (with_reducible apply Ext.drewN) | (with_reducible apply Ext.alloc)))) x
        have hR : ∃ f, wa.rowIs w1.heap.size 37 N f := ⟨_, Ext.row x (World.rowIs_made w1.drew _ _ _)⟩
        go_simp
        refine hK.out _ _ ?_ (fun hHeld => ?_)
        · exact ⟨by (repeat (first | (with_reducible exact Ext.refl _) | (with_reducible assumption) | (with_reducible apply Ext.drew) | (with_reducible apply Ext.drewN) | (with_reducible apply Ext.alloc))), (Ext.cell (w := w1) (by (repeat (first | (with_reducible exact Ext.refl _) | (with_reducible assumption) | (with_reducible apply Ext.drew) | (with_reducible apply Ext.drewN) | (with_reducible apply Ext.alloc)))) q0_1), (Ext.cell (w := w1) (by (repeat (first | (with_reducible exact Ext.refl _) | (with_reducible assumption) | (with_reducible apply Ext.drew) | (with_reducible apply Ext.drewN) | (with_reducible apply Ext.alloc)))) q0_2)⟩
        clear hK K
        try simp only [Act.put, List.getElem_toArray, List.getElem_cons_zero, List.getElem_cons_succ, List.setIfInBounds_toArray, List.set_cons_zero, List.set_cons_succ]
        refine wpAnyH_take (i := 9) (v := ?va9) rfl (by kernel_rfl) (by kernel_rfl) (by kernel_rfl) (fun _ _ _ h => (by obtain ⟨h, _⟩ := h; cases h)) (Or.inl ⟨by rfl, fun w hSw => ?ti9⟩) (by assumption) ?rest9
        case ti9 => ((obtain ⟨_, hS1, hS2⟩ := hSw); go_simp; (first | done | with_reducible rfl))
        try simp only [Act.put, List.getElem_toArray, List.getElem_cons_zero, List.getElem_cons_succ, List.setIfInBounds_toArray, List.set_cons_zero, List.set_cons_succ]
        refine wpAnyH_ready (rs := [10]) (by kernel_rfl) (by simp) ?_
        refine AllReadyH.cons rfl (fun K hK => ?_) AllReadyH.nil
        go_simp
        refine hK.out _ _ ?_ (fun hHeld => ?_)
        · exact ⟨by (repeat (first | (with_reducible exact Ext.refl _) | (with_reducible assumption) | (with_reducible apply Ext.drew) | (with_reducible apply Ext.drewN) | (with_reducible apply Ext.alloc))), (Ext.cell (w := w1) (by (repeat (first | (with_reducible exact Ext.refl _) | (with_reducible assumption) | (with_reducible apply Ext.drew) | (with_reducible apply Ext.drewN) | (with_reducible apply Ext.alloc)))) q0_1), (Ext.cell (w := w1) (by (repeat (first | (with_reducible exact Ext.refl _) | (with_reducible assumption) | (with_reducible apply Ext.drew) | (with_reducible apply Ext.drewN) | (with_reducible apply Ext.alloc)))) q0_2)⟩
        clear hK K
        try simp only [Act.put, List.getElem_toArray, List.getElem_cons_zero, List.getElem_cons_succ, List.setIfInBounds_toArray, List.set_cons_zero, List.set_cons_succ]
        refine wpAnyH_ready (rs := [11]) (by kernel_rfl) (by simp) ?_
        refine AllReadyH.cons rfl (fun K hK => ?_) AllReadyH.nil
        go_simp
        refine hK.out _ _ ?_ (fun hHeld => ?_)
        · exact ⟨by (repeat (first | (with_reducible exact Ext.refl _) | (with_reducible assumption) | (with_reducible apply Ext.drew) | (with_reducible apply Ext.drewN) | (with_reducible apply Ext.alloc))), (Ext.cell (w := w1) (by (repeat (first | (with_reducible exact Ext.refl _) | (with_reducible assumption) | (with_reducible apply Ext.drew) | (with_reducible apply Ext.drewN) | (with_reducible apply Ext.alloc)))) q0_1), (Ext.cell (w := w1) (by (repeat (first | (with_reducible exact Ext.refl _) | (with_reducible assumption) | (with_reducible apply Ext.drew) | (with_reducible apply Ext.drewN) | (with_reducible apply Ext.alloc)))) q0_2)⟩
        clear hK K
        try simp only [Act.put, List.getElem_toArray, List.getElem_cons_zero, List.getElem_cons_succ, List.setIfInBounds_toArray, List.set_cons_zero, List.set_cons_succ]
        refine wpAnyH_done (by kernel_rfl) ?_ _
        exact ⟨rfl, w1.heap.size, wa.heap.size, rfl, fun F => (by obtain ⟨f, hf⟩ := hR; exact LJ_one Xa hf (by have := hf.lt; omega) (Nat.le_refl _) (by unfold maxLen; omega) F)⟩
      · go_simp
        refine hK.out _ _ ?_ (fun hHeld => ?_)
        · exact ⟨by (repeat (first | (with_reducible exact Ext.refl _) | (with_reducible assumption) | (with_reducible apply Ext.drew) | (with_reducible apply Ext.drewN) | (with_reducible apply Ext.alloc))), (Ext.cell (w := w1) (by (repeat (first | (with_reducible exact Ext.refl _) | (with_reducible assumption) | (with_reducible apply Ext.drew) | (with_reducible apply Ext.drewN) | (with_reducible apply Ext.alloc)))) q0_1), (Ext.cell (w := w1) (by (repeat (first | (with_reducible exact Ext.refl _) | (with_reducible assumption) | (with_reducible apply Ext.drew) | (with_reducible apply Ext.drewN) | (with_reducible apply Ext.alloc)))) q0_2)⟩
        clear hK K
        try simp only [Act.put, List.getElem_toArray, List.getElem_cons_zero, List.getElem_cons_succ, List.setIfInBounds_toArray, List.set_cons_zero, List.set_cons_succ]
        refine wpAnyH_ready (rs := [4]) (by kernel_rfl) (by simp) ?_
        refine AllReadyH.cons rfl (fun K hK => ?_) AllReadyH.nil
        go_simp
        refine (HNd.out _ (by (repeat (first | (with_reducible exact Ext.refl _) | (with_reducible assumption) | (with_reducible apply Ext.drew) | (with_reducible apply Ext.drewN) | (with_reducible apply Ext.alloc))))).mono ?_
        intro e wa hh
        obtain ⟨rfl, x⟩ := hh
        have Xa : Ext w1 wa := Ext.trans (by (repeat (first | (with_reducible exact Ext.refl _) | (with_reducible assumption) | (with_reducible apply Ext.drew) | (with_reducible apply Ext.drewN) | (with_reducible apply Ext.alloc)))) x
        have hM : B2 wa (w1.heap.size + 1) (.int .i64 0) (.slice none 0 0) 24 := B2.ext (by unfold B2; (first | exact blk_at rfl | exact blk_at (by simp) | exact blk_old (blk_at rfl))) x
        have m0 := hM.c0; have m1 := hM.c1; have mf0 := hM.f0; have mf1 := hM.f1; have m0a := fun o => (hM.alloc o).c0; have m1a := fun o => (hM.alloc o).c1; have mf0a := fun o => (hM.alloc o).f0; have mf1a := fun o => (hM.alloc o).f1
        have hR : ∃ f, wa.rowIs w1.heap.size 37 N f := ⟨_, Ext.row x (Ext.row ((Ext.refl _).alloc _) (World.rowIs_made w1.drew _ _ _))⟩
        go_simp
        refine hK.out _ _ ?_ (fun hHeld => ?_)
        · exact ⟨by (repeat (first | (with_reducible exact Ext.refl _) | (with_reducible assumption) | (with_reducible apply Ext.drew) | (with_reducible apply Ext.drewN) | (with_reducible apply Ext.alloc))), (Ext.cell (w := w1) (by (repeat (first | (with_reducible exact Ext.refl _) | (with_reducible assumption) | (with_reducible apply Ext.drew) | (with_reducible apply Ext.drewN) | (with_reducible apply Ext.alloc)))) q0_1), (Ext.cell (w := w1) (by (repeat (first | (with_reducible exact Ext.refl _) | (with_reducible assumption) | (with_reducible apply Ext.drew) | (with_reducible apply Ext.drewN) | (with_reducible apply Ext.alloc)))) q0_2)⟩
        clear hK K
        try simp only [Act.put, List.getElem_toArray, List.getElem_cons_zero, List.getElem_cons_succ, List.setIfInBounds_toArray, List.set_cons_zero, List.set_cons_succ]
        refine wpAnyH_take (i := 9) (v := ?va10) rfl (by kernel_rfl) (by kernel_rfl) (by kernel_rfl) (fun _ _ _ h => (by obtain ⟨h, _⟩ := h; cases h)) (Or.inl ⟨by rfl, fun w hSw => ?ti10⟩) (by assumption) ?rest10
        case ti10 => ((obtain ⟨_, hS1, hS2⟩ := hSw); go_simp; (first | done | with_reducible rfl))
        try simp only [Act.put, List.getElem_toArray, List.getElem_cons_zero, List.getElem_cons_succ, List.setIfInBounds_toArray, List.set_cons_zero, List.set_cons_succ]
        refine wpAnyH_ready (rs := [11]) (by kernel_rfl) (by simp) ?_
        refine AllReadyH.cons rfl (fun K hK => ?_) AllReadyH.nil
        go_simp
        refine hK.out _ _ ?_ (fun hHeld => ?_)
        · exact ⟨(Ext.setCell (Ext.setCell (by (repeat (first | (with_reducible exact Ext.refl _) | (with_reducible assumption) | (with_reducible apply Ext.drew) | (with_reducible apply Ext.drewN) | (with_reducible apply Ext.alloc)))) (by (first | exact Nat.le_refl _ | (simp; done) | (simp; omega))) _) (by (first | exact Nat.le_refl _ | (simp; done) | (simp; omega))) _), cell_o1 (cell_o1 (Ext.cell (w := w1) (by (repeat (first | (with_reducible exact Ext.refl _) | (with_reducible assumption) | (with_reducible apply Ext.drew) | (with_reducible apply Ext.drewN) | (with_reducible apply Ext.alloc)))) q0_1) (by simp only []; omega) _) (by simp only []; omega) _, cell_o1 (cell_o1 (Ext.cell (w := w1) (by (repeat (first | (with_reducible exact Ext.refl _) | (with_reducible assumption) | (with_reducible apply Ext.drew) | (with_reducible apply Ext.drewN) | (with_reducible apply Ext.alloc)))) q0_2) (by simp only []; omega) _) (by simp only []; omega) _⟩
        clear hK K
        try simp only [Act.put, List.getElem_toArray, List.getElem_cons_zero, List.getElem_cons_succ, List.setIfInBounds_toArray, List.set_cons_zero, List.set_cons_succ]
        refine wpAnyH_done (by kernel_rfl) ?_ _
        exact ⟨rfl, w1.heap.size, w1.heap.size + 1, rfl, fun F => (by obtain ⟨f, hf⟩ := hR; exact LJ_set Xa hf hM (by omega) (Nat.le_refl _) (by omega) (by unfold maxLen; omega) F)⟩
    · go_simp
      refine hK.out _ _ ?_ (fun hHeld => ?_)
      · exact ⟨by (repeat (first | (with_reducible exact Ext.refl _) | (with_reducible assumption) | (with_reducible apply Ext.drew) | (with_reducible apply Ext.drewN) | (with_reducible apply Ext.alloc))), (Ext.cell (w := w1) (by (repeat (first | (with_reducible exact Ext.refl _) | (with_reducible assumption) | (with_reducible apply Ext.drew) | (with_reducible apply Ext.drewN) | (with_reducible apply Ext.alloc)))) q0_1), (Ext.cell (w := w1) (by (repeat (first | (with_reducible exact Ext.refl _) | (with_reducible assumption) | (with_reducible apply Ext.drew) | (with_reducible apply Ext.drewN) | (with_reducible apply Ext.alloc)))) q0_2)⟩
      clear hK K
      try simp only [Act.put, List.getElem_toArray, List.getElem_cons_zero, List.getElem_cons_succ, List.setIfInBounds_toArray, List.set_cons_zero, List.set_cons_succ]
      refine wpAnyH_ready (rs := [4, 8]) (by kernel_rfl) (by simp) ?_
      refine AllReadyH.cons rfl (fun K hK => ?_) (AllReadyH.cons rfl (fun K hK => ?_) AllReadyH.nil)
      · go_simp
        refine (HNd.out _ (by (repeat (first | (with_reducible exact Ext.refl _) | (with_reducible assumption) | (with_reducible apply Ext.drew) | (with_reducible apply Ext.drewN) | (with_reducible apply Ext.alloc))))).mono ?_
        intro e wa hh
        obtain ⟨rfl, x⟩ := hh
        have Xa : Ext w1 wa := Ext.trans (by (repeat (first | (with_reducible exact Ext.refl _) | (with_reducible assumption) | (with_reducible apply Ext.drew) | (with_reducible apply Ext.drewN) | (with_reducible apply Ext.alloc)))) x
        have hM : B2 wa w1.heap.size (.int .i64 0) (.slice none 0 0) 24 := B2.ext (by unfold B2; (first | exact blk_at rfl | exact blk_at (by simp) | exact blk_old (blk_at rfl))) x
        have m0 := hM.c0; have m1 := hM.c1; have mf0 := hM.f0; have mf1 := hM.f1; have m0a := fun o => (hM.alloc o).c0; have m1a := fun o => (hM.alloc o).c1; have mf0a := fun o => (hM.alloc o).f0; have mf1a := fun o => (hM.alloc o).f1
        go_simp
        refine hK.out _ _ ?_ (fun hHeld => ?_)
        · exact ⟨by (repeat (first | (with_reducible exact Ext.refl _) | (with_reducible assumption) | (with_reducible apply Ext.drew) | (with_reducible apply Ext.drewN) | (with_reducible apply Ext.alloc))), (Ext.cell (w := w1) (by (repeat (first | (with_reducible exact Ext.refl _) | (with_reducible assumption) | (with_reducible apply Ext.drew) | (with_reducible apply Ext.drewN) | (with_reducible apply Ext.alloc)))) q0_1), (Ext.cell (w := w1) (by (repeat (first | (with_reducible exact Ext.refl _) | (with_reducible assumption) | (with_reducible apply Ext.drew) | (with_reducible apply Ext.drewN) | (with_reducible apply Ext.alloc)))) q0_2)⟩
        clear hK K
        try simp only [Act.put, List.getElem_toArray, List.getElem_cons_zero, List.getElem_cons_succ, List.setIfInBounds_toArray, List.set_cons_zero, List.set_cons_succ]
        refine wpAnyH_ready (rs := [8]) (by kernel_rfl) (by simp) ?_
        refine AllReadyH.cons rfl (fun K hK => ?_) AllReadyH.nil
        go_simp
        refine hK.out _ _ ?_ (fun hHeld => ?_)
        · exact ⟨by (repeat (first | (with_reducible exact Ext.refl _) | (with_reducible assumption) | (with_reducible apply Ext.drew) | (with_reducible apply Ext.drewN) | (with_reducible apply Ext.alloc))), (Ext.cell (w := w1) (by (repeat (first | (with_reducible exact Ext.refl _) | (with_reducible assumption) | (with_reducible apply Ext.drew) | (with_reducible apply Ext.drewN) | (with_reducible apply Ext.alloc)))) q0_1), (Ext.cell (w := w1) (by (repeat (first | (with_reducible exact Ext.refl _) | (with_reducible assumption) | (with_reducible apply Ext.drew) | (with_reducible apply Ext.drewN) | (with_reducible apply Ext.alloc)))) q0_2)⟩
        clear hK K
        try simp only [Act.put, List.getElem_toArray, List.getElem_cons_zero, List.getElem_cons_succ, List.setIfInBounds_toArray, List.set_cons_zero, List.set_cons_succ]
        refine wpAnyH_take (i := 9) (v := ?va11) rfl (by kernel_rfl) (by kernel_rfl) (by kernel_rfl) (fun _ _ _ h => (by obtain ⟨h, _⟩ := h; cases h)) (Or.inl ⟨by rfl, fun w hSw => ?ti11⟩) (by assumption) ?rest11
        case ti11 => ((obtain ⟨_, hS1, hS2⟩ := hSw); go_simp; (first | done | with_reducible rfl))
        try simp only [Act.put, List.getElem_toArray, List.getElem_cons_zero, List.getElem_cons_succ, List.setIfInBounds_toArray, List.set_cons_zero, List.set_cons_succ]
        refine wpAnyH_ready (rs := [11]) (by kernel_rfl) (by simp) ?_
        refine AllReadyH.cons rfl (fun K hK => ?_) AllReadyH.nil
        go_simp
        refine hK.out _ _ ?_ (fun hHeld => ?_)
        · exact ⟨(Ext.setCell (Ext.setCell (by (repeat (first | (with_reducible exact Ext.refl _) | (with_reducible assumption) | (with_reducible apply Ext.drew) | (with_reducible apply Ext.drewN) | (with_reducible apply Ext.alloc)))) (by (first | exact Nat.le_refl _ | (simp; done) | (simp; omega))) _) (by (first | exact Nat.le_refl _ | (simp; done) | (simp; omega))) _), cell_o1 (cell_o1 (Ext.cell (w := w1) (by (repeat (first | (with_reducible exact Ext.refl _) | (with_reducible assumption) | (with_reducible apply Ext.drew) | (with_reducible apply Ext.drewN) | (with_reducible apply Ext.alloc)))) q0_1) (by simp only []; omega) _) (by simp only []; omega) _, cell_o1 (cell_o1 (Ext.cell (w := w1) (by (repeat (first | (with_reducible exact Ext.refl _) | (with_reducible assumption) | (with_reducible apply Ext.drew) | (with_reducible apply Ext.drewN) | (with_reducible apply Ext.alloc)))) q0_2) (by simp only []; omega) _) (by simp only []; omega) _⟩
        clear hK K
        try simp only [Act.put, List.getElem_toArray, List.getElem_cons_zero, List.getElem_cons_succ, List.setIfInBounds_toArray, List.set_cons_zero, List.set_cons_succ]
        refine wpAnyH_done (by kernel_rfl) ?_ _
        exact ⟨rfl, wa.heap.size, w1.heap.size, rfl, fun F => LJ_set (Xa.alloc _) (World.rowIs_made wa _ _ _) (hM.alloc _) (by have := hM.lt; omega) Xa.size (Nat.le_refl _) (by unfold maxLen; omega) F⟩
      · go_simp
        refine hK.out _ _ ?_ (fun hHeld => ?_)
        · exact ⟨by (repeat (first | (with_reducible exact Ext.refl _) | (with_reducible assumption) | (with_reducible apply Ext.drew) | (with_reducible apply Ext.drewN) | (with_reducible apply Ext.alloc))), (Ext.cell (w := w1) (by (repeat (first | (with_reducible exact Ext.refl _) | (with_reducible assumption) | (with_reducible apply Ext.drew) | (with_reducible apply Ext.drewN) | (with_reducible apply Ext.alloc)))) q0_1), (Ext.cell (w := w1) (by (repeat (first | (with_reducible exact Ext.refl _) | (with_reducible assumption) | (with_reducible apply Ext.drew) | (with_reducible apply Ext.drewN) | (with_reducible apply Ext.alloc)))) q0_2)⟩
        clear hK K
        try simp only [Act.put, List.getElem_toArray, List.getElem_cons_zero, List.getElem_cons_succ, List.setIfInBounds_toArray, List.set_cons_zero, List.set_cons_succ]
        refine wpAnyH_ready (rs := [4]) (by kernel_rfl) (by simp) ?_
        refine AllReadyH.cons rfl (fun K hK => ?_) AllReadyH.nil
        go_simp
        refine (HNd.out _ (by (repeat (first | (with_reducible exact Ext.refl _) | (with_reducible assumption) | (with_reducible apply Ext.drew) | (with_reducible apply Ext.drewN) | (with_reducible apply Ext.alloc))))).mono ?_
        intro e wa hh
        obtain ⟨rfl, x⟩ := hh
        have Xa : Ext w1 wa := Ext.trans (by (repeat (first | (with_reducible exact Ext.refl _) | (with_reducible assumption) | (with_reducible apply Ext.drew) | (with_reducible apply Ext.drewN) | (with_reducible apply Ext.alloc)))) x
        have hM : B2 wa w1.heap.size (.int .i64 0) (.slice none 0 0) 24 := B2.ext (by unfold B2; (first | exact blk_at rfl | exact blk_at (by simp) | exact blk_old (blk_at rfl))) x
        have m0 := hM.c0; have m1 := hM.c1; have mf0 := hM.f0; have mf1 := hM.f1; have m0a := fun o => (hM.alloc o).c0; have m1a := fun o => (hM.alloc o).c1; have mf0a := fun o => (hM.alloc o).f0; have mf1a := fun o => (hM.alloc o).f1
        have hR : ∃ f, wa.rowIs (w1.heap.size + 1) 37 N f := ⟨_, Ext.row x (by have h := World.rowIs_made (w1.alloc (.cells #[.int .i64 0, .slice none 0 0] 24)) (.slice none 0 0) N 37; rw [show (w1.alloc (.cells #[.int .i64 0, .slice none 0 0] 24)).heap.size = w1.heap.size + 1 by simp] at h; exact h)⟩
        go_simp
        refine hK.out _ _ ?_ (fun hHeld => ?_)
        · exact ⟨by (repeat (first | (with_reducible exact Ext.refl _) | (with_reducible assumption) | (with_reducible apply Ext.drew) | (with_reducible apply Ext.drewN) | (with_reducible apply Ext.alloc))), (Ext.cell (w := w1) (by (repeat (first | (with_reducible exact Ext.refl _) | (with_reducible assumption) | (with_reducible apply Ext.drew) | (with_reducible apply Ext.drewN) | (with_reducible apply Ext.alloc)))) q0_1), (Ext.cell (w := w1) (by (repeat (first | (with_reducible exact Ext.refl _) | (with_reducible assumption) | (with_reducible apply Ext.drew) | (with_reducible apply Ext.drewN) | (with_reducible apply Ext.alloc)))) q0_2)⟩
        clear hK K
        try simp only [Act.put, List.getElem_toArray, List.getElem_cons_zero, List.getElem_cons_succ, List.setIfInBounds_toArray, List.set_cons_zero, List.set_cons_succ]
        refine wpAnyH_take (i := 9) (v := ?va12) rfl (by kernel_rfl) (by kernel_rfl) (by kernel_rfl) (fun _ _ _ h => (by obtain ⟨h, _⟩ := h; cases h)) (Or.inl ⟨by rfl, fun w hSw => ?ti12⟩) (by assumption) ?rest12
        case ti12 => ((obtain ⟨_, hS1, hS2⟩ := hSw); go_simp; (first | done | with_reducible rfl))
        try simp only [Act.put, List.getElem_toArray, List.getElem_cons_zero, List.getElem_cons_succ, List.setIfInBounds_toArray, List.set_cons_zero, List.set_cons_succ]
        refine wpAnyH_ready (rs := [11]) (by kernel_rfl) (by simp) ?_
        refine AllReadyH.cons rfl (fun K hK => ?_) AllReadyH.nil
        go_simp
        refine hK.out _ _ ?_ (fun hHeld => ?_)
        · exact ⟨(Ext.setCell (Ext.setCell (by (repeat (first | (with_reducible exact Ext.refl _) | (with_reducible assumption) | (with_reducible apply Ext.drew) | (with_reducible apply Ext.drewN) | (with_reducible apply Ext.alloc)))) (by (first | exact Nat.le_refl _ | (simp; done) | (simp; omega))) _) (by (first | exact Nat.le_refl _ | (simp; done) | (simp; omega))) _), cell_o1 (cell_o1 (Ext.cell (w := w1) (by (repeat (first | (with_reducible exact Ext.refl _) | (with_reducible assumption) | (with_reducible apply Ext.drew) | (with_reducible apply Ext.drewN) | (with_reducible apply Ext.alloc)))) q0_1) (by simp only []; omega) _) (by simp only []; omega) _, cell_o1 (cell_o1 (Ext.cell (w := w1) (by (repeat (first | (with_reducible exact Ext.refl _) | (with_reducible assumption) | (with_reducible apply Ext.drew) | (with_reducible apply Ext.drewN) | (with_reducible apply Ext.alloc)))) q0_2) (by simp only []; omega) _) (by simp only []; omega) _⟩
        clear hK K
        try simp only [Act.put, List.getElem_toArray, List.getElem_cons_zero, List.getElem_cons_succ, List.setIfInBounds_toArray, List.set_cons_zero, List.set_cons_succ]
        refine wpAnyH_done (by kernel_rfl) ?_ _
        exact ⟨rfl, w1.heap.size + 1, w1.heap.size, rfl, fun F => (by obtain ⟨f, hf⟩ := hR; exact LJ_set Xa hf hM (by omega) (by omega) (Nat.le_refl _) (by unfold maxLen; omega) F)⟩
  · rintro a' w2 ⟨R, M, rfl, hLJ⟩
    simp only [Act.put, List.getElem_toArray, List.getElem_cons_zero, List.getElem_cons_succ, List.setIfInBounds_toArray, List.set_cons_zero, List.set_cons_succ]
    have hst : ∃ hs : List (List Ho), hs.length = 0 ∧ (∀ i, i < 0 → rdL 0 (lineP (sw rows i)) = some (ow hs i)) ∧ LJ w1 w2 (rneed (sw rows 0)) R N 0 M (ow hs) := ⟨[], rfl, fun i hi => by omega, hLJ _⟩
    have HST := Lib.hid hst
    obtain ⟨WW, hWW⟩ : ∃ WW, WW = rneed (sw rows 0) := ⟨_, rfl⟩
    rw [← hWW] at HST ⊢
    have HWW := Lib.hid hWW
    have c0 := HD0.out w2 (X1.out.trans (hLJ (ow [])).1.1)
    have hRM := (hLJ (ow [])).2.2
    have HRM := Lib.hid (show R ≠ M ∧ w1.heap.size ≤ M ∧ w1.heap.size ≤ R from ⟨hRM.1, hRM.2, (hLJ (ow [])).1.2.1⟩)
    have HP4 := Lib.hid (show w.heap.size + 2 ≤ w1.heap.size from by have := X1.out.size; have := HBs.out; omega)
    clear hst hWW hLJ hRM q0_1 q0_2 hmk HNd t1 t2 hb1 hb2
    have HBad := Lib.hid (fun (wr : World) (x : Ext w1 wr) (h : ¬ ∃ (W : Nat) (y : Int) (hs : List (List Ho)), IsL rows W y hs ∧ 1 ≤ y ∧ y ≤ 6) => show RetOf w rows (.returned (.tuple #[.agg #[.int .i64 0, .slice none 0 0], .int .u8 0, .int .i64 7])) ((wr.setCell ⟨w.heap.size + 1, 0, none⟩ (.int .i64 0)).setCell ⟨w.heap.size + 1, 0 + 1, none⟩ (.slice none 0 0)) from
      ⟨((XB.out.trans (X1.out.trans x)).setCell (by simp) _).setCell (by simp) _, .inr (.inl ⟨HE.out, h, rfl⟩)⟩)
    go_wp2
    clear c0
    go_loopw [7, 8, 9, 10, 11, 12, 13, 36, 46] (fun _ _ _ _ _ _ _ i _ wr => ∃ k : Nat, k ≤ N ∧ i = .int .i64 k ∧ Hid (∃ hs : List (List Ho), hs.length = k ∧ (∀ i, i < k → rdL 0 (lineP (sw rows i)) = some (ow hs i)) ∧ LJ w1 wr WW R N k M (ow hs))) (fun _ _ _ _ _ _ _ i _ _ => N - (intOf i).toNat)
    case atStart => exact ⟨0, Nat.zero_le _, rfl, HST⟩
    case round =>
      obtain ⟨k, hk, rfl, HC⟩ := hrel
      clear HST
      obtain ⟨hs, hsl, hsr, hJ⟩ := HC.out
      have HJ := Lib.hid hJ; have HSr := Lib.hid hsr; have HSl := Lib.hid hsl
      clear HC
      have XW := Lib.hid (X1.out.trans hJ.1.1)
      by_cases hlt : k < N
      · have hlt' : (k : Int) < (N : Int) := by omega
        obtain ⟨b', o', a1, m1, d1, hao, hc0, hr0⟩ := HA.out k hlt
        simp only [Option.some.injEq, Addr.mk.injEq, and_true] at hao
        obtain ⟨rfl, rfl⟩ := hao
        have hcK := (XB.out.trans XW.out).cell hc0
        have hrB := hr0.ext XB.out
        obtain ⟨_, _, e1, e2, e3, e4, e5⟩ := hrB.open
        simp only [Value.slice.injEq] at e1
        obtain ⟨rfl, rfl, _⟩ := e1
        unfold maxLen at e4
        obtain ⟨l1, l2, l3⟩ := HLen.out k hlt
        rw [← e2] at l1 l2
        have HE5 := Lib.hid e5; have He2 := Lib.hid e2
        have hmk := fun w' => run_make_lc (P := Tryd.prog) eiU8 .i64 .i64 m1 m1 (by omega) (by omega) (by omega) w'
        have hbk := BK.made wr m1
        have HBk := Lib.hid (show BK (wr.alloc (.cells (madeCells #[.int .u8 0] m1) 5)) wr.heap.size (lnU (sw rows k) 0) from by rw [lnU_zero, ← He2.out]; exact hbk)
        obtain ⟨wo, hwo⟩ : ∃ wo : World, wo = wr := ⟨_, rfl⟩
        clear hc0 hr0 hrB e2 e5 hbk l3 hsl hsr hJ
        go_wp2
        rw [← hwo] at HJ HBk XW ⊢
        obtain ⟨g, hg⟩ : ∃ g, g = wo.heap.size := ⟨_, rfl⟩
        rw [← hg] at HBk ⊢
        have Hg := Lib.hid hg
        clear hg hwo hcK hmk
        go_loopw [10, 11, 46] (fun _ _ i ws => ∃ j : Nat, j ≤ m1 ∧ i = .int .i64 j ∧ Hid (Ext wo ws ∧ BK ws g (lnU (sw rows k) j))) (fun _ _ i _ => m1 - (intOf i).toNat)
        case atStart => exact ⟨0, Nat.zero_le _, rfl, Lib.hid ⟨(Ext.refl wo).alloc _, HBk.out⟩⟩
        case round =>
          obtain ⟨j, hj, rfl, HL⟩ := hrel
          clear HBk
          obtain ⟨ws, hws⟩ : ∃ ws : World, ws = wr := ⟨_, rfl⟩
          rw [← hws] at HL ⊢
          clear hws
          by_cases hjl : j < m1
          · have hjl' : (j : Int) < (m1 : Int) := by omega
            obtain ⟨b2, o2, rfl, e8⟩ := HE5.out j hjl
            obtain ⟨s0, s1, s2, s3, s4⟩ := e8.ext (XW.out.trans HL.out.1)
            have hset := lnU_set (r := sw rows k) (j := j) (by rw [← He2.out]; exact hjl)
            have hlu := lnU_len (sw rows k) (j := j) (by rw [← He2.out]; exact hj)
            obtain ⟨S, hS⟩ : ∃ S, S = si (sw rows k) j := ⟨_, rfl⟩
            rw [← hS] at s0 s1 s2 s3 s4 hset
            rw [← He2.out] at hlu
            have HSet := Lib.hid hset; have HLu := Lib.hid hlu
            have HSg := Lib.hid (fun w' => signX_calls S.k w')
            have hb5 := B5.new ws S 49
            obtain ⟨k0, k1, k2, k3, k4⟩ := B5c hb5
            have X6 := Lib.hid ((Ext.refl ws).alloc (.cells #[.int .u8 S.k, .int .u8 S.y, .int .i64 S.a, .int .i64 S.b, .bool S.f] 49))
            clear hS e8 hb5 hset hlu
            go_wp2_with fail
            refine (HSg.out _).mono ?_
            rintro e w5 ⟨rfl, x5⟩
            have X5 := Lib.hid (X6.out.trans x5)
            have hz := (HL.out.2.ext X5.out).cell (i := j) (by rw [HLu.out]; exact hjl)
            have fz := (HL.out.2.ext X5.out).frozen j
            have HN := Lib.hid (show Ext wo (w5.setCell ⟨g, j, none⟩ (.int .u8 (kSg S.k))) ∧ BK (w5.setCell ⟨g, j, none⟩ (.int .u8 (kSg S.k))) g (lnU (sw rows k) (j + 1)) from
              ⟨(HL.out.1.trans X5.out).setCell (by rw [← Hg.out]; exact Nat.le_refl _) _, by rw [← HSet.out]; exact (HL.out.2.ext X5.out).set (by rw [HLu.out]; exact hjl) _⟩)
            clear x5 s0 s1 s2 s3 s4 k0 k1 k2 k3 k4
            go_wp2
            go_roundw
            case rel => exact ⟨j + 1, by omega, by go_num, HN⟩
            case measure => simp [intOf]; omega
          · obtain rfl : m1 = j := by omega
            have hjl' : ¬ (m1 : Int) < (m1 : Int) := by omega
            have hbk := HL.out.2
            rw [He2.out, lnU_all] at hbk
            have hcv : (convert 76 9 (.slice (some ⟨g, 0, none⟩) m1 m1)).run Tryd.prog ws = .ok (.string (bstr (lineP (sw rows k)))) ws := run_bstr (hbk.is (by rw [lineP_len]; exact He2.out) (by omega)) Tryd.underlying76 Tryd.underlying5 Tryd.underlying9
            have hrd := read_calls (bstr (lineP (sw rows k))) ws (by rw [bstr_size, lineP_len, ← He2.out]; omega)
            rw [bts_bstr (byt_lineP _)] at hrd
            have HRd := Lib.hid hrd
            have HJs := Lib.hid (show LJ w1 ws WW R N k M (ow hs) from ⟨HJ.out.1.later HL.out.1, HJ.out.2.1.ext HL.out.1, HJ.out.2.2⟩)
            clear hbk hrd HL
            go_wp2_with fail
            refine HRd.out.mono ?_
            rintro e w5 ⟨x5, v5, h5, h6⟩
            have HJ5 := Lib.hid (show LJ w1 w5 WW R N k M (ow hs) from ⟨HJs.out.1.later x5, HJs.out.2.1.ext x5, HJs.out.2.2⟩)
            clear HJs x5 HRd
            cases hrr : rdL 0 (lineP (sw rows k)) with
            | none =>
              obtain rfl := h6 hrr
              have hr4 := HR4.out w5 (X1.out.trans HJ5.out.1.1)
              have c4 := hr4.c0; have c5 := hr4.c1; have f4 := hr4.f0; have f5 := hr4.f1
              have c6 := (hr4.set2 (.int .i64 0) (.slice none 0 0)).c0; have c7 := (hr4.set2 (.int .i64 0) (.slice none 0 0)).c1
              have HF := Lib.hid (HBad.out w5 HJ5.out.1.1 (fun ⟨W', y', hs', hI, _⟩ => by
                have := (hI.rd.2 k (by rw [← Hn.out]; exact hlt)).1
                rw [hrr] at this; cases this))
              clear hrr h5 h6 hr4 hcv
              go_wp2
              exact bodyPost_ret (v := .tuple #[.agg #[.int .i64 0, .slice none 0 0], .int .u8 0, .int .i64 7]) (by simp [results, Tryd.results18, go_sem, c6, c7]) rfl HF.out
            | some r =>
              obtain ⟨rfl, hu⟩ := h5 r hrr
              obtain ⟨au, nu, cu, rfl, hnu⟩ := hu.form
              have mm1 := HJ5.out.2.1.c1
              obtain ⟨vv, hvv⟩ := HJ5.out.1.ex hlt
              have hvf := HJ5.out.1.frozen k
              have hput := (show HW w1 w5 R N k (ow (hs ++ [r])) from by
                obtain ⟨p1, p2, p3, f, p4, p5⟩ := HJ5.out.1
                exact ⟨p1, p2, p3, f, p4, fun i hi => by rw [ow_app _ _ (by rw [HSl.out]; exact hi)]; exact p5 i hi⟩).put hlt hu (by rw [← HSl.out]; exact ow_new _ _)
              have HN := Lib.hid (show ∃ hs : List (List Ho), hs.length = k + 1 ∧ (∀ i, i < k + 1 → rdL 0 (lineP (sw rows i)) = some (ow hs i)) ∧ LJ w1 (w5.setCell ⟨R, k, none⟩ (.slice au nu cu)) WW R N (k + 1) M (ow hs) from
                ⟨hs ++ [r], by rw [List.length_append, HSl.out]; rfl, fun i hi => by
                  by_cases e : i = k
                  · rw [e, hrr]; congr 1; rw [← HSl.out]; exact (ow_new _ _).symm
                  · rw [ow_app _ _ (by rw [HSl.out]; omega)]; exact HSr.out i (by omega), hput, HJ5.out.2.1.setOther (by have := HRM.out.1; simp only []; omega), HJ5.out.2.2⟩)
              clear hrr h5 h6 hput hu hnu hcv
              go_wp2
              go_roundw
              case rel => exact ⟨k + 1, by omega, by go_num, HN⟩
              case measure => simp [intOf]; omega
      · obtain rfl : N = k := by omega
        have hlt' : ¬ (N : Int) < (N : Int) := by omega
        obtain ⟨b9, o9, a9, m9, d9, hao, hc0, hr0⟩ := HA.out 0 (by omega)
        simp only [Option.some.injEq, Addr.mk.injEq, and_true] at hao
        obtain ⟨rfl, rfl⟩ := hao
        rw [Nat.add_zero] at hc0
        have hrB := hr0.ext XB.out
        obtain ⟨_, _, e1, e2, e3, e4, e5⟩ := hrB.open
        simp only [Value.slice.injEq] at e1
        obtain ⟨rfl, rfl, _⟩ := e1
        obtain ⟨l1, l2, l3⟩ := HLen.out 0 (by omega)
        rw [← e2] at l1 l2
        obtain ⟨b2, o2, rfl, e8⟩ := e5 0 (by omega)
        rw [Nat.zero_mul, Nat.add_zero] at e8
        have hch := l3 _ (si_mem (l := sw rows 0) (i := 0) (by omega))
        have hyb := HIn.out 0 (by rw [← Hn.out]; omega) 0 (by omega)
        have hchk := (St.chk_ok hch).2.1
        have hyy := fun (W' : Nat) (y' : Int) (hs' : List (List Ho)) (h : IsL rows W' y' hs') => isL_y h
        obtain ⟨Y, hY⟩ : ∃ Y, Y = (si (sw rows 0) 0).y := ⟨_, rfl⟩
        have u1 := (e8.ext XW.out).2.1
        rw [← hY] at u1 hyb hchk hyy
        have u0 := (XB.out.trans XW.out).cell hc0
        have v0 := HD0.out wr XW.out
        have v1 := hJ.2.1.c0; have v2 := hJ.2.1.c1
        have t1 : (0 : Int) < N := by omega
        have t2 : 0 < N := by omega
        have t3 : (0 : Int) < m9 := by omega
        have t4 : 0 < m9 := by omega
        have hrr := hJ.1.hr hsl.symm
        have hct := LChart_calls WW Y _ _ hs wr hrr hyb
        have HCt := Lib.hid hct; have HYY := Lib.hid hyy; have HY := Lib.hid hY; have HChk := Lib.hid hchk
        have HDD := Lib.hid (fun w' (x : Ext wr w') => (XB.out.trans (XW.out.trans x)))
        clear hcm hc0 hr0 hrB e2 e3 e4 e5 l1 l2 l3 e8 hch hyy hY hrr hct hsl hsr hchk hyb
        go_wp2_with fail
        refine HCt.out.mono ?_
        rintro e w5 ⟨vc, rfl, hrc, x5⟩
        obtain ⟨ac, nc, rfl, hnc, hcc, hmc, _⟩ := hrc.open
        have HRc := Lib.hid hrc; have X5 := Lib.hid x5
        have p0 := cell_alloc (x5.cell v0) (.cells #[.slice ac nc (lcR WW Y hs).length] 28)
        have hp9 : (w5.alloc (.cells #[.slice ac nc (lcR WW Y hs).length] 28)).cell? ⟨w5.heap.size, 0, none⟩ = some (.slice ac nc (lcR WW Y hs).length) := by rw [World.cell?_alloc_at (hn := rfl)]; rfl
        have hsm := HSm.out (w5.alloc (.cells #[.slice ac nc (lcR WW Y hs).length] 28)) ((HDD.out w5 x5).alloc _) _ _ _ (hrc.ext ((Ext.refl w5).alloc _))
        have HSm2 := Lib.hid hsm
        have hJ5 : LJ w1 w5 WW R N N M (ow hs) := ⟨hJ.1.later x5, hJ.2.1.ext x5, hJ.2.2⟩
        have HJ5 := Lib.hid hJ5
        have hwl : w5.heap.size ≤ (w5.alloc (.cells #[.slice ac nc (lcR WW Y hs).length] 28)).heap.size := by simp
        have hnoE := fun (h : lcE WW Y hs ≠ 0) => Of_noE HWW.out HY.out (by rw [HSl.out, Hn.out]) (fun i hi => HSr.out i (by rw [Hn.out]; exact hi)) h
        have hnoS := fun (h0 : lcE WW Y hs = 0) (h : lcR WW Y hs ≠ rows) => Of_noS HWW.out HY.out (by rw [HSl.out, Hn.out]) (fun i hi => HSr.out i (by rw [Hn.out]; exact hi)) h0 h
        have hyes := fun (h0 : lcE WW Y hs = 0) (h : lcR WW Y hs = rows) => Of_yes h0 h
        have HnoE := Lib.hid hnoE; have HnoS := Lib.hid hnoS; have Hyes := Lib.hid hyes
        obtain ⟨E, hEE⟩ : ∃ E, E = lcE WW Y hs := ⟨_, rfl⟩
        have HEE := Lib.hid hEE
        obtain ⟨LR, hLR⟩ : ∃ LR, LR = lcR WW Y hs := ⟨_, rfl⟩
        have HLR := Lib.hid hLR
        rw [← hEE]
        rw [← hLR] at p0 hp9 HSm2 hwl ⊢
        have hJ6 := (show LJ w1 (w5.alloc (.cells #[.slice ac nc LR.length] 28)) WW R N N M (ow hs) from ⟨hJ5.1.later ((Ext.refl _).alloc _), hJ5.2.1.ext ((Ext.refl _).alloc _), hJ5.2.2⟩)
        have hr4 := HR4.out (w5.alloc (.cells #[.slice ac nc LR.length] 28)) (X1.out.trans hJ6.1.1)
        have HR44 := Lib.hid hr4
        have HJ6 := Lib.hid hJ6
        clear hrc hnc hcc hmc x5 hsm hJ hJ5 hnoE hnoS hyes hEE hLR u0 u1 v0 v1 v2 HCt hJ6
        by_cases he0 : E = 0
        case neg =>
          have hne : (E != 0) = true := by rw [bne, beq_eq_false_iff_ne.2 he0]; rfl
          have c4 := hr4.c0; have c5 := hr4.c1; have f4 := hr4.f0; have f5 := hr4.f1
          have c6 := (hr4.set2 (.int .i64 0) (.slice none 0 0)).c0; have c7 := (hr4.set2 (.int .i64 0) (.slice none 0 0)).c1
          have HF := Lib.hid (HBad.out _ HJ6.out.1.1 (HnoE.out (by rw [← HEE.out]; exact he0)))
          clear he0 hr4
          go_wp2
          exact bodyPost_ret (v := .tuple #[.agg #[.int .i64 0, .slice none 0 0], .int .u8 0, .int .i64 7]) (by simp [results, Tryd.results18, go_sem, c6, c7]) rfl HF.out
        subst he0
        clear hr4
        go_wp2_with fail
        refine HSm2.out.mono ?_
        rintro e w6 ⟨rfl, x6⟩
        have hr5 := HR44.out.ext x6
        have c4 := hr5.c0; have c5 := hr5.c1; have f4 := hr5.f0; have f5 := hr5.f1
        have hJ7 : LJ w1 w6 WW R N N M (ow hs) := ⟨HJ6.out.1.later x6, HJ6.out.2.1.ext x6, HJ6.out.2.2⟩
        have m0 := hJ7.2.1.c0; have m1 := hJ7.2.1.c1
        by_cases hsame : LR = rows
        case neg =>
          have c6 := (hr5.set2 (.int .i64 0) (.slice none 0 0)).c0; have c7 := (hr5.set2 (.int .i64 0) (.slice none 0 0)).c1
          have HF := Lib.hid (HBad.out _ hJ7.1.1 (HnoS.out HEE.out.symm (by rw [← HLR.out]; exact hsame)))
          rw [decide_eq_false hsame]
          clear hsame hr5 hJ7 p0 hp9 x6
          go_wp2
          exact bodyPost_ret (v := .tuple #[.agg #[.int .i64 0, .slice none 0 0], .int .u8 0, .int .i64 7]) (by simp [results, Tryd.results18, go_sem, c6, c7]) rfl HF.out
        have c6 := (hr5.set2 (.int .i64 WW) (.slice (some ⟨R, 0, none⟩) N N)).c0; have c7 := (hr5.set2 (.int .i64 WW) (.slice (some ⟨R, 0, none⟩) N N)).c1
        have HF := Lib.hid (show RetOf w rows (.returned (.tuple #[.agg #[.int .i64 WW, .slice (some ⟨R, 0, none⟩) N N], .int .u8 Y, .int .i64 0])) ((w6.setCell ⟨w.heap.size + 1, 0, none⟩ (.int .i64 WW)).setCell ⟨w.heap.size + 1, 0 + 1, none⟩ (.slice (some ⟨R, 0, none⟩) N N)) from by
          obtain ⟨W', hW', hI⟩ := Hyes.out HEE.out.symm (by rw [← HLR.out]; exact hsame)
          have h2 := hJ7.1.below2 (v0 := .int .i64 WW) (v1 := .slice (some ⟨R, 0, none⟩) N N) (XB.out.trans X1.out) hr5 (by have := HP4.out; omega) (by omega)
          have h3 := h2.hr HSl.out.symm
          refine ⟨h2.1, .inr (.inr ⟨HE.out, W', Y, hs, _, _, hI, HChk.out, HY.out, by rw [hW'], h3⟩)⟩)
        rw [decide_eq_true hsame]
        clear hsame hr5 hJ7 p0 hp9 x6
        go_wp2
        exact bodyPost_ret (v := .tuple #[.agg #[.int .i64 WW, .slice (some ⟨R, 0, none⟩) N N], .int .u8 Y, .int .i64 0]) (by simp [results, Tryd.results18, go_sem, c6, c7]) rfl HF.out
end Go.Proofs.YthllbcjglcplhaaDoor
