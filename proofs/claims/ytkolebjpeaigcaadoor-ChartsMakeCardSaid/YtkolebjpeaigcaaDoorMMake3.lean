/- Texts of this claim in one file: libraries and walks. -/
import Derived.Test.YtkolebjpeaigcaaDoorL9
import Derived.Test.YtkolebjpeaigcaaDoorMMake2
/- The law ChartsMake, walked. -/
namespace Go.Proofs.YtkolebjpeaigcaaDoor
set_option linter.unusedVariables false
set_option linter.unusedSimpArgs false
set_option maxRecDepth 8000
open Go Go.RowKit

theorem CO.blk {w wr : World} {v : Value} {rows : List (List St)} (h : CO w wr v rows) (h0 : 0 < rows.length) : ∃ g c, v = .slice (some ⟨g, 0, none⟩) rows.length c ∧ w.heap.size ≤ g ∧ (∃ cur, wr.heap[g]? = some (.cells cur 37 (0, 0))) ∧ ∀ i, i < rows.length → ∃ u, wr.cell? ⟨g, i, none⟩ = some u ∧ RV wr u (sw rows i) := by
  obtain ⟨h1, vs, h2, h3⟩ := h
  obtain ⟨g, cap, f, hv, hB, hlt, hnc, hm, hrow, hf⟩ := own_open h2 h0
  obtain ⟨cur, hb, hsz, hcf⟩ := id hrow
  refine ⟨g, cap, hv, hB, ⟨cur, hb⟩, fun i hi => ?_⟩
  obtain ⟨u, a, b⟩ := h3 i hi
  exact ⟨u, by rw [hrow.cell (by omega), hf i u a], b⟩
theorem RO.of_blk1 {w : World} {g : Nat} {s : St} (h : w.heap[g]? = some (.cells #[.int .u8 s.k, .int .u8 s.y, .int .i64 s.a, .int .i64 s.b, .bool s.f] 33 (0, 0))) : RO w g 1 [s] := by
  refine ⟨Nat.le_refl _, by unfold maxLen; omega, fun i => ((cells [s])[i]?).getD undef, ⟨_, h, rfl, fun i hi => ?_⟩, fun i hi => ?_⟩
  · have hi' : i < 5 := by simpa using hi
    rcases (show i = 0 ∨ i = 1 ∨ i = 2 ∨ i = 3 ∨ i = 4 by omega) with rfl | rfl | rfl | rfl | rfl <;> rfl
  · obtain rfl : i = 0 := by simpa using hi
    exact ⟨rfl, rfl, rfl, rfl, rfl⟩
theorem cell_set1 {w : World} {a b : Addr} {v : Value} (h : w.cell? a = some v) (hb : a.block ≠ b.block) (u : Value) : (w.setCell b u).cell? a = some v := by
  rw [World.cell?_of_block (Deep.blk_setCell_other _ _ _ _ hb)]; exact h
set_option maxHeartbeats 8000000 in
theorem ChartsMake_walk (wd : Int) (v : Value) (c : Nat) (chs : List (List Int)) (at' kind : Int) (w : World) (h : ISS .u8 w v c chs) (hw : 0 ≤ wd ∧ wd ≤ 255) (hb : ∀ k, k < chs.length → ∀ i, i < (ri chs k).length → 0 ≤ gi (ri chs k) i ∧ gi (ri chs k) i ≤ 255) (ha : 0 ≤ at' ∧ at' ≤ 255) (hk : 0 ≤ kind ∧ kind ≤ 255) (hy : Sy w) (hm : Mx w) :
    Calls Tryd.prog 3 #[.agg #[.int .u8 wd, v], .int .u8 at', .int .u8 kind] w fun e w' => e = .returned (.bool true) ∧ Ext w w' := by
  have k1 := fun w' (x : Ext w w') => COf_calls wd v c chs w' (h.ext x) hw hb
  have k6 := fun w' (x : Ext w w') => lives13_calls w' (hy.ext x) (hm.ext x)
  have k3 := fun w' => K_calls kind 0 0 false w' hk (by omega) (by omega)
  have hmb := many_bd chs.length
  obtain ⟨vs, caps, hV⟩ := h
  obtain ⟨ao, n, rfl, hn, hc, hcm, hat⟩ := hV.outs
  have K1 := Lib.hid k1; have K3 := Lib.hid k3; have K6 := Lib.hid k6
  have s1 := kSt_chk kind 0 0 false
  obtain ⟨S, hS⟩ : ∃ S, S = kSt kind 0 0 false := ⟨_, rfl⟩
  rw [← hS] at K3 s1
  have HS1 := Lib.hid s1
  obtain ⟨M, hM⟩ : ∃ M, M = many chs.length := ⟨_, rfl⟩
  rw [← hM] at hmb
  have hMc : ∀ w', RetC0 w' chs.length = RetC0 w' chs.length := fun _ => rfl
  have HM := Lib.hid hM
  clear k1 k3 k6 hV hat hy hm hw hb hk hS s1 hM hMc hn hc hcm
  obtain ⟨hm1, hm2⟩ := hmb
  have y0 := Lib.hid (Ext.refl w)
  go_enter Tryd.func3, Tryd.ntmps3
  go_wp2_with fail
  refine (K1.out _ ((Ext.refl w).alloc _)).mono ?_
  intro e w1 hh
  obtain ⟨vr, rows, rfl, hco, hok, hlen⟩ := hh
  rw [← HM.out] at hlen
  have hco := hco.base ((Ext.refl w).alloc _)
  obtain ⟨gR, cR, hvr, hgB, hgb, hgc⟩ := hco.blk (by omega)
  subst hvr
  rw [hlen] at hco hgc ⊢
  obtain ⟨w2, hw2⟩ : ∃ w2, w2 = w1.alloc (.cells #[.slice (some ⟨gR, 0, none⟩) M cR] 27) := ⟨_, rfl⟩
  have x2 : Ext w1 w2 := by rw [hw2]; exact (Ext.refl w1).alloc _
  have hq : w2.heap[w1.heap.size]? = some (.cells #[.slice (some ⟨gR, 0, none⟩) M cR] 27 (0, 0)) := by rw [hw2]; exact blk_at rfl
  have d1 : w2.cell? ⟨w1.heap.size, 0, none⟩ = some (.slice (some ⟨gR, 0, none⟩) M cR) := by simp [World.cell?, hq]
  have HD1 := Lib.hid (fun w' (x : Ext w2 w') => x.cell d1)
  have HCo := Lib.hid (hco.later x2); have HW2 := Lib.hid hw2; have HQ := Lib.hid hq; have HLen := Lib.hid hlen; have HOk := Lib.hid hok
  have Hgc := Lib.hid (fun i hi => by obtain ⟨u, a, b⟩ := hgc i hi; exact (⟨u, x2.cell a, b.ext x2⟩ : ∃ u, w2.cell? ⟨gR, i, none⟩ = some u ∧ RV w2 u (sw rows i)))
  rw [hw2] at d1
  clear hco x2 hw2 hq hgc hlen hok
  obtain ⟨cc, hrr⟩ := HCo.out.rr
  have hck := fun w' (x : Ext w2 w') => CCheck_calls _ _ rows w' (hrr.ext x)
  rw [HOk.out] at hck
  have HCk := Lib.hid hck
  clear hck hrr
  go_wp2_with fail
  rw [← HW2.out]
  refine (HCk.out _ (Ext.refl w2)).mono ?_
  rintro e w3 ⟨rfl, x3⟩
  have X3 := Lib.hid x3
  have e1 := HD1.out _ x3
  have t1 : ¬ (M : Int) = 0 := by omega
  have t2 : 0 ≤ at' % (M : Int) := Int.emod_nonneg _ t1
  have t3 : at' % (M : Int) < M := Int.emod_lt_of_pos _ (by omega)
  have t4 : IntKind.i64.wrap (at' % (M : Int)) = at' % (M : Int) := IntWalk.i64_in _ ⟨by omega, by omega⟩
  obtain ⟨ha1, ha2⟩ := ha
  clear x3 d1 HCk
  go_wp2_with fail
  refine (K3.out _).mono ?_
  rintro e w4 ⟨rfl, x4⟩
  have X4 := Lib.hid (X3.out.trans x4)
  have e2 := HD1.out _ X4.out
  obtain ⟨I, hI⟩ : ∃ I : Nat, (I : Int) = at' % (M : Int) := ⟨(at' % (M : Int)).toNat, by omega⟩
  have hIM : I < M := by omega
  rw [← hI]
  have hz := rchk_zero ((cerr_zero (show cerr rows = 0 by
    have h := HOk.out
    by_cases e : cerr rows = 0
    · exact e
    · unfold cloads at h; rw [if_pos e] at h; exact absurd h e)).2.2.1 I (by rw [HLen.out]; exact hIM))
  obtain ⟨u, hu1, hu2⟩ := Hgc.out I hIM
  rcases hu2 with ⟨_, hnil⟩ | ⟨gi', ci, rfl, hro⟩
  · rw [hnil] at hz; exact absurd hz.2.1 (by simp)
  obtain ⟨L, hL⟩ : ∃ L, L = sw rows I := ⟨_, rfl⟩
  rw [← hL] at hu1 hro hz
  obtain ⟨mI, hmI⟩ : ∃ mI, mI = L.length := ⟨_, rfl⟩
  have hmI16 : mI ≤ 16 := by rw [hmI]; exact hz.1
  rw [← hmI] at hu1
  have HL := Lib.hid hL; have HmI := Lib.hid hmI; have HRo := Lib.hid hro; have HI := Lib.hid hI
  have s3 : St.k S ≠ 3 ∨ St.k S = 3 := by omega
  obtain ⟨wb, hwb⟩ : ∃ wb, wb = w4.alloc (.cells #[.int .u8 S.k, .int .u8 S.y, .int .i64 S.a, .int .i64 S.b, .bool S.f] 33) := ⟨_, rfl⟩
  have hB5 : B5 wb w4.heap.size S 33 := by rw [hwb]; exact B5.new w4 S _
  have xb : Ext w4 wb := by rw [hwb]; exact (Ext.refl w4).alloc _
  have Xb := Lib.hid (X4.out.trans xb)
  have q0_1 := xb.cell e2
  have qrow := Xb.out.cell hu1
  obtain ⟨q0_2, q0_3, q0_4, q0_5, q0_6⟩ := hB5.at
  simp only [Nat.zero_add] at q0_2 q0_3 q0_4 q0_5 q0_6
  have HB5 := Lib.hid hB5; have Hwb := Lib.hid hwb
  have t5 : (I : Int) < M := by omega
  have HRo2 := Lib.hid (HRo.out.ext Xb.out)
  obtain ⟨R, hR⟩ : ∃ R : World → Prop, R = fun wx => CO w wx (.slice (some ⟨gR, 0, none⟩) M cR) (more rows I S) ∧ wx.heap[w1.heap.size]? = some (.cells #[.slice (some ⟨gR, 0, none⟩) M cR] 27 (0, 0)) ∧ B5 wx w4.heap.size S 33 := ⟨_, rfl⟩
  have hqb : wb.heap[w1.heap.size]? = some (.cells #[.slice (some ⟨gR, 0, none⟩) M cR] 27 (0, 0)) := Xb.out.block HQ.out
  have hcob := HCo.out.later Xb.out
  obtain ⟨cur, hgcur⟩ : ∃ cur, wb.heap[gR]? = some (Obj.cells cur 37 (0, 0)) := by
    obtain ⟨g', c', e1, _, ⟨cur, e2⟩, _⟩ := hcob.blk (by rw [HLen.out]; omega)
    simp only [Value.slice.injEq, Option.some.injEq, Addr.mk.injEq] at e1
    obtain ⟨⟨rfl, _⟩, _, _⟩ := e1
    exact ⟨cur, e2⟩
  have HFr := Lib.hid (fun w' (x : Ext wb w') => show w'.frozen? ⟨gR, I, none⟩ = false by simp [World.frozen?, x.block hgcur])
  have HFin := Lib.hid (show ∀ w' v', Ext wb w' → RV w' v' (L ++ [S]) → R (w'.setCell ⟨gR, I, none⟩ v') from fun w' v' x r => by
    rw [hR]
    have hg := x.block hgcur
    refine ⟨?_, blk_setOther (x.block hqb) hg (by decide), ?_⟩
    · unfold more; rw [← HL.out]; exact (hcob.later x).setRow (by rw [HLen.out]; exact hIM) r
    · exact blk_setOther (x.block HB5.out) hg (by decide))
  have HR := Lib.hid hR
  have hne1 : w1.heap.size ≠ gR := fun e => by rw [e, hgcur] at hqb; simp at hqb
  have hne2 : w4.heap.size ≠ gR := fun e => by have h5 := HB5.out; unfold B5 at h5; rw [e, hgcur] at h5; simp at h5
  have HNe := Lib.hid (And.intro hne1 hne2)
  unfold St.val
  clear x4 hI hz hu1 hro hL hmI hwb hB5 xb e1 e2 t1 t2 t3 t4 ha1 ha2 hR hqb hcob hgcur HB5 hne1 hne2
  have r1 : ∀ o, (wb.alloc o).cell? ⟨gR, I, none⟩ = some (.slice (some ⟨gi', 0, none⟩) mI ci) := fun o => cell_alloc qrow o
  have r2 : ∀ o o', ((wb.alloc o).alloc o').cell? ⟨gR, I, none⟩ = some (.slice (some ⟨gi', 0, none⟩) mI ci) := fun o o' => cell_alloc (r1 o) o'
  go_upto_region 6 with fail
  rw [← Hwb.out]
  go_cut [] from 26 to 62 (fun wx => R wx)
  case first =>
    refine wp_region_held_drew (S := fun w' => w'.cell? ⟨w1.heap.size, 0, Option.none⟩ = some (.slice (some ⟨gR, 0, Option.none⟩) M cR) ∧ w'.cell? ⟨w4.heap.size, 0, Option.none⟩ = some (.int .u8 S.k) ∧ w'.cell? ⟨w4.heap.size, 1, Option.none⟩ = some (.int .u8 S.y) ∧ w'.cell? ⟨w4.heap.size, 2, Option.none⟩ = some (.int .i64 S.a) ∧ w'.cell? ⟨w4.heap.size, 3, Option.none⟩ = some (.int .i64 S.b) ∧ w'.cell? ⟨w4.heap.size, 4, Option.none⟩ = some (.bool S.f)) (by kernel_rfl) ?_ (fun hHeld => ?_)
    · exact ⟨q0_1, q0_2, q0_3, q0_4, q0_5, q0_6⟩
    refine wpAnyH_take (i := 0) (v := ?va145_0) rfl (by kernel_rfl) (by kernel_rfl) (by kernel_rfl) (fun _ _ _ h => h) (Or.inl ⟨by rfl, fun w hSw => ?ti145_0⟩) (by assumption) ?rest145_0
    case ti145_0 => ((try dsimp only at hSw); go_simp; (first | done | with_reducible rfl))
    try simp only [Act.put, List.getElem_toArray, List.getElem_cons_zero, List.getElem_cons_succ, List.setIfInBounds_toArray, List.set_cons_zero, List.set_cons_succ]
    refine wpAnyH_take (i := 1) (v := ?va148_1) rfl (by kernel_rfl) (by kernel_rfl) (by kernel_rfl) (fun _ _ _ h => h) (Or.inl ⟨by rfl, fun w hSw => ?ti148_1⟩) (by assumption) ?rest148_1
    case ti148_1 => ((try dsimp only at hSw); go_simp; (first | done | with_reducible rfl))
    try simp only [Act.put, List.getElem_toArray, List.getElem_cons_zero, List.getElem_cons_succ, List.setIfInBounds_toArray, List.set_cons_zero, List.set_cons_succ]
    refine wpAnyH_take (i := 2) (v := ?va151_2) rfl (by kernel_rfl) (by kernel_rfl) (by kernel_rfl) (fun _ _ _ h => h) (Or.inl ⟨by rfl, fun w hSw => ?ti151_2⟩) (by assumption) ?rest151_2
    case ti151_2 => ((try dsimp only at hSw); go_simp; (first | done | with_reducible rfl))
    try simp only [Act.put, List.getElem_toArray, List.getElem_cons_zero, List.getElem_cons_succ, List.setIfInBounds_toArray, List.set_cons_zero, List.set_cons_succ]
    refine wpAnyH_take (i := 4) (v := ?va154_4) rfl (by kernel_rfl) (by kernel_rfl) (by kernel_rfl) (fun _ _ _ h => h) (Or.inl ⟨by rfl, fun w hSw => ?ti154_4⟩) (by assumption) ?rest154_4
    case ti154_4 => ((try dsimp only at hSw); go_simp; (first | done | with_reducible rfl))
    try simp only [Act.put, List.getElem_toArray, List.getElem_cons_zero, List.getElem_cons_succ, List.setIfInBounds_toArray, List.set_cons_zero, List.set_cons_succ]
    refine wpAnyH_take (i := 5) (v := ?va157_5) rfl (by kernel_rfl) (by kernel_rfl) (by kernel_rfl) (fun _ _ _ h => h) (Or.inl ⟨by rfl, fun w hSw => ?ti157_5⟩) (by assumption) ?rest157_5
    case ti157_5 => ((try dsimp only at hSw); go_simp; (first | done | with_reducible rfl))
    try simp only [Act.put, List.getElem_toArray, List.getElem_cons_zero, List.getElem_cons_succ, List.setIfInBounds_toArray, List.set_cons_zero, List.set_cons_succ]
    refine wpAnyH_take (i := 6) (v := ?va160_6) rfl (by kernel_rfl) (by kernel_rfl) (by kernel_rfl) (fun _ _ _ h => h) (Or.inl ⟨by rfl, fun w hSw => ?ti160_6⟩) (by assumption) ?rest160_6
    case ti160_6 => ((try dsimp only at hSw); go_simp; (first | done | with_reducible rfl))
    try simp only [Act.put, List.getElem_toArray, List.getElem_cons_zero, List.getElem_cons_succ, List.setIfInBounds_toArray, List.set_cons_zero, List.set_cons_succ]
    refine wpAnyH_take (i := 7) (v := ?va163_7) rfl (by kernel_rfl) (by kernel_rfl) (by kernel_rfl) (fun _ _ _ h => h) (Or.inl ⟨by rfl, fun w hSw => ?ti163_7⟩) (by assumption) ?rest163_7
    case ti163_7 => ((try dsimp only at hSw); go_simp; (first | done | with_reducible rfl))
    try simp only [Act.put, List.getElem_toArray, List.getElem_cons_zero, List.getElem_cons_succ, List.setIfInBounds_toArray, List.set_cons_zero, List.set_cons_succ]
    refine wpAnyH_take (i := 10) (v := ?va166_10) rfl (by kernel_rfl) (by kernel_rfl) (by kernel_rfl) (fun _ _ _ h => h) (Or.inl ⟨by rfl, fun w hSw => ?ti166_10⟩) (by assumption) ?rest166_10
    case ti166_10 => ((try dsimp only at hSw); go_simp; (first | done | with_reducible rfl))
    try simp only [Act.put, List.getElem_toArray, List.getElem_cons_zero, List.getElem_cons_succ, List.setIfInBounds_toArray, List.set_cons_zero, List.set_cons_succ]
    refine wpAnyH_ready (rs := [3, 8, 11]) (by kernel_rfl) (by simp) ?_
    refine AllReadyH.cons rfl (fun K hK => ?_) (AllReadyH.cons rfl (fun K hK => ?_) (AllReadyH.cons rfl (fun K hK => ?_) AllReadyH.nil))
    · go_simp
      refine hK.out _ _ ?_ (fun hHeld => ?_)
      · exact ⟨(Ext.cell (w := wb) (by (repeat (first | (with_reducible exact Ext.refl _) | (with_reducible apply Ext.drew) | (with_reducible apply Ext.drewN) | (with_reducible apply Ext.alloc)))) q0_1), (Ext.cell (w := wb) (by (repeat (first | (with_reducible exact Ext.refl _) | (with_reducible apply Ext.drew) | (with_reducible apply Ext.drewN) | (with_reducible apply Ext.alloc)))) q0_2), (Ext.cell (w := wb) (by (repeat (first | (with_reducible exact Ext.refl _) | (with_reducible apply Ext.drew) | (with_reducible apply Ext.drewN) | (with_reducible apply Ext.alloc)))) q0_3), (Ext.cell (w := wb) (by (repeat (first | (with_reducible exact Ext.refl _) | (with_reducible apply Ext.drew) | (with_reducible apply Ext.drewN) | (with_reducible apply Ext.alloc)))) q0_4), (Ext.cell (w := wb) (by (repeat (first | (with_reducible exact Ext.refl _) | (with_reducible apply Ext.drew) | (with_reducible apply Ext.drewN) | (with_reducible apply Ext.alloc)))) q0_5), (Ext.cell (w := wb) (by (repeat (first | (with_reducible exact Ext.refl _) | (with_reducible apply Ext.drew) | (with_reducible apply Ext.drewN) | (with_reducible apply Ext.alloc)))) q0_6)⟩
      clear hK K
      try simp only [Act.put, List.getElem_toArray, List.getElem_cons_zero, List.getElem_cons_succ, List.setIfInBounds_toArray, List.set_cons_zero, List.set_cons_succ]
      refine wpAnyH_ready (rs := [8, 11]) (by kernel_rfl) (by simp) ?_
      refine AllReadyH.cons rfl (fun K hK => ?_) (AllReadyH.cons rfl (fun K hK => ?_) AllReadyH.nil)
      · go_simp
        refine hK.out _ _ ?_ (fun hHeld => ?_)
        · exact ⟨(Ext.cell (w := wb) (by (repeat (first | (with_reducible exact Ext.refl _) | (with_reducible apply Ext.drew) | (with_reducible apply Ext.drewN) | (with_reducible apply Ext.alloc)))) q0_1), (Ext.cell (w := wb) (by (repeat (first | (with_reducible exact Ext.refl _) | (with_reducible apply Ext.drew) | (with_reducible apply Ext.drewN) | (with_reducible apply Ext.alloc)))) q0_2), (Ext.cell (w := wb) (by (repeat (first | (with_reducible exact Ext.refl _) | (with_reducible apply Ext.drew) | (with_reducible apply Ext.drewN) | (with_reducible apply Ext.alloc)))) q0_3), (Ext.cell (w := wb) (by (repeat (first | (with_reducible exact Ext.refl _) | (with_reducible apply Ext.drew) | (with_reducible apply Ext.drewN) | (with_reducible apply Ext.alloc)))) q0_4), (Ext.cell (w := wb) (by (repeat (first | (with_reducible exact Ext.refl _) | (with_reducible apply Ext.drew) | (with_reducible apply Ext.drewN) | (with_reducible apply Ext.alloc)))) q0_5), (Ext.cell (w := wb) (by (repeat (first | (with_reducible exact Ext.refl _) | (with_reducible apply Ext.drew) | (with_reducible apply Ext.drewN) | (with_reducible apply Ext.alloc)))) q0_6)⟩
        clear hK K
        try simp only [Act.put, List.getElem_toArray, List.getElem_cons_zero, List.getElem_cons_succ, List.setIfInBounds_toArray, List.set_cons_zero, List.set_cons_succ]
        refine wpAnyH_ready (rs := [9, 11]) (by kernel_rfl) (by simp) ?_
        refine AllReadyH.cons rfl (fun K hK => ?_) (AllReadyH.cons rfl (fun K hK => ?_) AllReadyH.nil)
        · (refine step_app_st (by rfl) (.tmp 29) (.tmp 34) (by rfl) wb.heap.size (.slice (some ⟨wb.heap.size, 0, none⟩) 0 0) 0 [] (by rfl) ?_ gi' ci mI L (by rfl) HmI.out ?_ ?_ ?_ ?_; (focus (refine own0z ?_ ?_; (focus (repeat (first | (with_reducible exact blk_at rfl) | (with_reducible refine blk_at ?_; simp; done) | (with_reducible apply blk_drew) | (with_reducible apply blk_drewN) | (with_reducible apply blk_old)))); (focus (first | (exact Nat.le_refl _) | (exact Nat.le_succ _) | (simp; done) | (simp; omega))))); (focus (refine HRo2.out.ext ?_; (repeat (first | (with_reducible exact Ext.refl _) | (with_reducible apply Ext.drew) | (with_reducible apply Ext.drewN) | (with_reducible apply Ext.alloc))))); (focus omega); (focus (first | (exact Nat.le_refl _) | (simp; done) | (simp; omega))); intro v9 w9 o9 g9; have x9 : Hid (Ext wb w9) := Lib.hid (Ext.grown (by (repeat (first | (with_reducible exact Ext.refl _) | (with_reducible apply Ext.drew) | (with_reducible apply Ext.drewN) | (with_reducible apply Ext.alloc)))) g9 (by intro k' hk'; simp [Value.ownBlock] at hk'; omega)))
          refine hK.out _ _ ?_ (fun hHeld => ?_)
          · exact ⟨(Ext.cell (w := wb) (by (repeat (first | (with_reducible exact x9.out) | (with_reducible exact Ext.refl _) | (with_reducible apply Ext.drew) | (with_reducible apply Ext.drewN) | (with_reducible apply Ext.alloc)))) q0_1), (Ext.cell (w := wb) (by (repeat (first | (with_reducible exact x9.out) | (with_reducible exact Ext.refl _) | (with_reducible apply Ext.drew) | (with_reducible apply Ext.drewN) | (with_reducible apply Ext.alloc)))) q0_2), (Ext.cell (w := wb) (by (repeat (first | (with_reducible exact x9.out) | (with_reducible exact Ext.refl _) | (with_reducible apply Ext.drew) | (with_reducible apply Ext.drewN) | (with_reducible apply Ext.alloc)))) q0_3), (Ext.cell (w := wb) (by (repeat (first | (with_reducible exact x9.out) | (with_reducible exact Ext.refl _) | (with_reducible apply Ext.drew) | (with_reducible apply Ext.drewN) | (with_reducible apply Ext.alloc)))) q0_4), (Ext.cell (w := wb) (by (repeat (first | (with_reducible exact x9.out) | (with_reducible exact Ext.refl _) | (with_reducible apply Ext.drew) | (with_reducible apply Ext.drewN) | (with_reducible apply Ext.alloc)))) q0_5), (Ext.cell (w := wb) (by (repeat (first | (with_reducible exact x9.out) | (with_reducible exact Ext.refl _) | (with_reducible apply Ext.drew) | (with_reducible apply Ext.drewN) | (with_reducible apply Ext.alloc)))) q0_6)⟩
          clear hK K
          try simp only [Act.put, List.getElem_toArray, List.getElem_cons_zero, List.getElem_cons_succ, List.setIfInBounds_toArray, List.set_cons_zero, List.set_cons_succ]
          refine wpAnyH_ready (rs := [11]) (by kernel_rfl) (by simp) ?_
          refine AllReadyH.cons rfl (fun K hK => ?_) AllReadyH.nil
          go_simp
          refine hK.out _ _ ?_ (fun hHeld => ?_)
          · exact ⟨(Ext.cell (w := wb) (by (repeat (first | (with_reducible exact x9.out) | (with_reducible exact Ext.refl _) | (with_reducible apply Ext.drew) | (with_reducible apply Ext.drewN) | (with_reducible apply Ext.alloc)))) q0_1), (Ext.cell (w := wb) (by (repeat (first | (with_reducible exact x9.out) | (with_reducible exact Ext.refl _) | (with_reducible apply Ext.drew) | (with_reducible apply Ext.drewN) | (with_reducible apply Ext.alloc)))) q0_2), (Ext.cell (w := wb) (by (repeat (first | (with_reducible exact x9.out) | (with_reducible exact Ext.refl _) | (with_reducible apply Ext.drew) | (with_reducible apply Ext.drewN) | (with_reducible apply Ext.alloc)))) q0_3), (Ext.cell (w := wb) (by (repeat (first | (with_reducible exact x9.out) | (with_reducible exact Ext.refl _) | (with_reducible apply Ext.drew) | (with_reducible apply Ext.drewN) | (with_reducible apply Ext.alloc)))) q0_4), (Ext.cell (w := wb) (by (repeat (first | (with_reducible exact x9.out) | (with_reducible exact Ext.refl _) | (with_reducible apply Ext.drew) | (with_reducible apply Ext.drewN) | (with_reducible apply Ext.alloc)))) q0_5), (Ext.cell (w := wb) (by (repeat (first | (with_reducible exact x9.out) | (with_reducible exact Ext.refl _) | (with_reducible apply Ext.drew) | (with_reducible apply Ext.drewN) | (with_reducible apply Ext.alloc)))) q0_6)⟩
          clear hK K
          try simp only [Act.put, List.getElem_toArray, List.getElem_cons_zero, List.getElem_cons_succ, List.setIfInBounds_toArray, List.set_cons_zero, List.set_cons_succ]
          refine wpAnyH_ready (rs := [12]) (by kernel_rfl) (by simp) ?_
          refine AllReadyH.cons rfl (fun K hK => ?_) AllReadyH.nil
          (refine step_app_st (by rfl) (.tmp 35) (.tmp 37) (by rfl) wb.heap.size v9 (0 + mI) ([] ++ cells L) (by rfl) ?_ (w9.heap.size) 1 1 [S] (by rfl) rfl ?_ ?_ ?_ ?_; (focus (refine own_extz o9 ?_; (repeat (first | (with_reducible exact Ext.refl _) | (with_reducible apply Ext.drew) | (with_reducible apply Ext.drewN) | (with_reducible apply Ext.alloc))))); (focus (refine RO.of_blk1 (s := S) ?_; (repeat (first | (with_reducible exact blk_at rfl) | (with_reducible refine blk_at ?_; simp; done) | (with_reducible apply blk_drew) | (with_reducible apply blk_drewN) | (with_reducible apply blk_old))))); (focus omega); (focus (have := x9.out.size; simp; omega)); intro v12 w12 o12 g12; have x12 : Hid (Ext wb w12) := Lib.hid (Ext.grown (by (repeat (first | (with_reducible exact x9.out) | (with_reducible exact Ext.refl _) | (with_reducible apply Ext.drew) | (with_reducible apply Ext.drewN) | (with_reducible apply Ext.alloc)))) g12 (fun k' hk' => (o9.lt k' hk').1)); obtain ⟨a12, n12, c12, hv12, hn12⟩ := (RV.of_own (l := L ++ [S]) (by rw [cells_app]; exact o12)).1.form; subst hv12; clear hn12; have H12 : Hid (RV w12 (.slice a12 n12 c12) (L ++ [S])) := Lib.hid (RV.of_own (l := L ++ [S]) (by rw [cells_app]; exact o12)).1; have p1 := x12.out.cell q0_1; have p2 := x12.out.cell qrow; have p3 := HFr.out _ x12.out; have p4 := x12.out.cell q0_2; have p5 := x12.out.cell q0_3; have p6 := x12.out.cell q0_4; have p7 := x12.out.cell q0_5; have p8 := x12.out.cell q0_6)
          refine hK.out _ _ ?_ (fun hHeld => ?_)
          · exact ⟨p1, p4, p5, p6, p7, p8⟩
          clear hK K
          try simp only [Act.put, List.getElem_toArray, List.getElem_cons_zero, List.getElem_cons_succ, List.setIfInBounds_toArray, List.set_cons_zero, List.set_cons_succ]
          refine wpAnyH_ready (rs := [13]) (by kernel_rfl) (by simp) ?_
          refine AllReadyH.cons rfl (fun K hK => ?_) AllReadyH.nil
          go_simp
          refine hK.out _ _ ?_ (fun hHeld => ?_)
          · exact ⟨p1, p4, p5, p6, p7, p8⟩
          clear hK K
          try simp only [Act.put, List.getElem_toArray, List.getElem_cons_zero, List.getElem_cons_succ, List.setIfInBounds_toArray, List.set_cons_zero, List.set_cons_succ]
          refine wpAnyH_ready (rs := [14]) (by kernel_rfl) (by simp) ?_
          refine AllReadyH.cons rfl (fun K hK => ?_) AllReadyH.nil
          go_simp
          refine hK.out _ _ ?_ (fun hHeld => ?_)
          · exact ⟨cell_set1 p1 (by simpa using HNe.out.1) _, cell_set1 p4 (by simpa using HNe.out.2) _, cell_set1 p5 (by simpa using HNe.out.2) _, cell_set1 p6 (by simpa using HNe.out.2) _, cell_set1 p7 (by simpa using HNe.out.2) _, cell_set1 p8 (by simpa using HNe.out.2) _⟩
          clear hK K
          try simp only [Act.put, List.getElem_toArray, List.getElem_cons_zero, List.getElem_cons_succ, List.setIfInBounds_toArray, List.set_cons_zero, List.set_cons_succ]
          refine wpAnyH_done (by kernel_rfl) ?_ _
          go_wp2_with fail
          go_meet
          case rel => exact HFin.out _ _ x12.out H12.out
        · go_simp
          refine hK.out _ _ ?_ (fun hHeld => ?_)
          · exact ⟨(Ext.cell (w := wb) (by (repeat (first | (with_reducible exact Ext.refl _) | (with_reducible apply Ext.drew) | (with_reducible apply Ext.drewN) | (with_reducible apply Ext.alloc)))) q0_1), (Ext.cell (w := wb) (by (repeat (first | (with_reducible exact Ext.refl _) | (with_reducible apply Ext.drew) | (with_reducible apply Ext.drewN) | (with_reducible apply Ext.alloc)))) q0_2), (Ext.cell (w := wb) (by (repeat (first | (with_reducible exact Ext.refl _) | (with_reducible apply Ext.drew) | (with_reducible apply Ext.drewN) | (with_reducible apply Ext.alloc)))) q0_3), (Ext.cell (w := wb) (by (repeat (first | (with_reducible exact Ext.refl _) | (with_reducible apply Ext.drew) | (with_reducible apply Ext.drewN) | (with_reducible apply Ext.alloc)))) q0_4), (Ext.cell (w := wb) (by (repeat (first | (with_reducible exact Ext.refl _) | (with_reducible apply Ext.drew) | (with_reducible apply Ext.drewN) | (with_reducible apply Ext.alloc)))) q0_5), (Ext.cell (w := wb) (by (repeat (first | (with_reducible exact Ext.refl _) | (with_reducible apply Ext.drew) | (with_reducible apply Ext.drewN) | (with_reducible apply Ext.alloc)))) q0_6)⟩
          clear hK K
          try simp only [Act.put, List.getElem_toArray, List.getElem_cons_zero, List.getElem_cons_succ, List.setIfInBounds_toArray, List.set_cons_zero, List.set_cons_succ]
          refine wpAnyH_ready (rs := [9]) (by kernel_rfl) (by simp) ?_
          refine AllReadyH.cons rfl (fun K hK => ?_) AllReadyH.nil
          (refine step_app_st (by rfl) (.tmp 29) (.tmp 34) (by rfl) wb.heap.size (.slice (some ⟨wb.heap.size, 0, none⟩) 0 0) 0 [] (by rfl) ?_ gi' ci mI L (by rfl) HmI.out ?_ ?_ ?_ ?_; (focus (refine own0z ?_ ?_; (focus (repeat (first | (with_reducible exact blk_at rfl) | (with_reducible refine blk_at ?_; simp; done) | (with_reducible apply blk_drew) | (with_reducible apply blk_drewN) | (with_reducible apply blk_old)))); (focus (first | (exact Nat.le_refl _) | (exact Nat.le_succ _) | (simp; done) | (simp; omega))))); (focus (refine HRo2.out.ext ?_; (repeat (first | (with_reducible exact Ext.refl _) | (with_reducible apply Ext.drew) | (with_reducible apply Ext.drewN) | (with_reducible apply Ext.alloc))))); (focus omega); (focus (first | (exact Nat.le_refl _) | (simp; done) | (simp; omega))); intro v9 w9 o9 g9; have x9 : Hid (Ext wb w9) := Lib.hid (Ext.grown (by (repeat (first | (with_reducible exact Ext.refl _) | (with_reducible apply Ext.drew) | (with_reducible apply Ext.drewN) | (with_reducible apply Ext.alloc)))) g9 (by intro k' hk'; simp [Value.ownBlock] at hk'; omega)))
          refine hK.out _ _ ?_ (fun hHeld => ?_)
          · exact ⟨(Ext.cell (w := wb) (by (repeat (first | (with_reducible exact x9.out) | (with_reducible exact Ext.refl _) | (with_reducible apply Ext.drew) | (with_reducible apply Ext.drewN) | (with_reducible apply Ext.alloc)))) q0_1), (Ext.cell (w := wb) (by (repeat (first | (with_reducible exact x9.out) | (with_reducible exact Ext.refl _) | (with_reducible apply Ext.drew) | (with_reducible apply Ext.drewN) | (with_reducible apply Ext.alloc)))) q0_2), (Ext.cell (w := wb) (by (repeat (first | (with_reducible exact x9.out) | (with_reducible exact Ext.refl _) | (with_reducible apply Ext.drew) | (with_reducible apply Ext.drewN) | (with_reducible apply Ext.alloc)))) q0_3), (Ext.cell (w := wb) (by (repeat (first | (with_reducible exact x9.out) | (with_reducible exact Ext.refl _) | (with_reducible apply Ext.drew) | (with_reducible apply Ext.drewN) | (with_reducible apply Ext.alloc)))) q0_4), (Ext.cell (w := wb) (by (repeat (first | (with_reducible exact x9.out) | (with_reducible exact Ext.refl _) | (with_reducible apply Ext.drew) | (with_reducible apply Ext.drewN) | (with_reducible apply Ext.alloc)))) q0_5), (Ext.cell (w := wb) (by (repeat (first | (with_reducible exact x9.out) | (with_reducible exact Ext.refl _) | (with_reducible apply Ext.drew) | (with_reducible apply Ext.drewN) | (with_reducible apply Ext.alloc)))) q0_6)⟩
          clear hK K
          try simp only [Act.put, List.getElem_toArray, List.getElem_cons_zero, List.getElem_cons_succ, List.setIfInBounds_toArray, List.set_cons_zero, List.set_cons_succ]
          refine wpAnyH_ready (rs := [12]) (by kernel_rfl) (by simp) ?_
          refine AllReadyH.cons rfl (fun K hK => ?_) AllReadyH.nil
          (refine step_app_st (by rfl) (.tmp 35) (.tmp 37) (by rfl) wb.heap.size v9 (0 + mI) ([] ++ cells L) (by rfl) ?_ ((wb.heap.size + 1)) 1 1 [S] (by rfl) rfl ?_ ?_ ?_ ?_; (focus (refine own_extz o9 ?_; (repeat (first | (with_reducible exact Ext.refl _) | (with_reducible apply Ext.drew) | (with_reducible apply Ext.drewN) | (with_reducible apply Ext.alloc))))); (focus (refine RO.of_blk1 (s := S) ((g9.block _ (by simp <;> omega) (by simp [Value.ownBlock] <;> omega)).trans ?_); (repeat (first | (with_reducible exact blk_at rfl) | (with_reducible refine blk_at ?_; simp; done) | (with_reducible apply blk_drew) | (with_reducible apply blk_drewN) | (with_reducible apply blk_old))))); (focus omega); (focus (have := x9.out.size; simp; omega)); intro v12 w12 o12 g12; have x12 : Hid (Ext wb w12) := Lib.hid (Ext.grown (by (repeat (first | (with_reducible exact x9.out) | (with_reducible exact Ext.refl _) | (with_reducible apply Ext.drew) | (with_reducible apply Ext.drewN) | (with_reducible apply Ext.alloc)))) g12 (fun k' hk' => (o9.lt k' hk').1)); obtain ⟨a12, n12, c12, hv12, hn12⟩ := (RV.of_own (l := L ++ [S]) (by rw [cells_app]; exact o12)).1.form; subst hv12; clear hn12; have H12 : Hid (RV w12 (.slice a12 n12 c12) (L ++ [S])) := Lib.hid (RV.of_own (l := L ++ [S]) (by rw [cells_app]; exact o12)).1; have p1 := x12.out.cell q0_1; have p2 := x12.out.cell qrow; have p3 := HFr.out _ x12.out; have p4 := x12.out.cell q0_2; have p5 := x12.out.cell q0_3; have p6 := x12.out.cell q0_4; have p7 := x12.out.cell q0_5; have p8 := x12.out.cell q0_6)
          refine hK.out _ _ ?_ (fun hHeld => ?_)
          · exact ⟨p1, p4, p5, p6, p7, p8⟩
          clear hK K
          try simp only [Act.put, List.getElem_toArray, List.getElem_cons_zero, List.getElem_cons_succ, List.setIfInBounds_toArray, List.set_cons_zero, List.set_cons_succ]
          refine wpAnyH_ready (rs := [13]) (by kernel_rfl) (by simp) ?_
          refine AllReadyH.cons rfl (fun K hK => ?_) AllReadyH.nil
          go_simp
          refine hK.out _ _ ?_ (fun hHeld => ?_)
          · exact ⟨p1, p4, p5, p6, p7, p8⟩
          clear hK K
          try simp only [Act.put, List.getElem_toArray, List.getElem_cons_zero, List.getElem_cons_succ, List.setIfInBounds_toArray, List.set_cons_zero, List.set_cons_succ]
          refine wpAnyH_ready (rs := [14]) (by kernel_rfl) (by simp) ?_
          refine AllReadyH.cons rfl (fun K hK => ?_) AllReadyH.nil
          go_simp
          refine hK.out _ _ ?_ (fun hHeld => ?_)
          · exact ⟨cell_set1 p1 (by simpa using HNe.out.1) _, cell_set1 p4 (by simpa using HNe.out.2) _, cell_set1 p5 (by simpa using HNe.out.2) _, cell_set1 p6 (by simpa using HNe.out.2) _, cell_set1 p7 (by simpa using HNe.out.2) _, cell_set1 p8 (by simpa using HNe.out.2) _⟩
          clear hK K
          try simp only [Act.put, List.getElem_toArray, List.getElem_cons_zero, List.getElem_cons_succ, List.setIfInBounds_toArray, List.set_cons_zero, List.set_cons_succ]
          refine wpAnyH_done (by kernel_rfl) ?_ _
          go_wp2_with fail
          go_meet
          case rel => exact HFin.out _ _ x12.out H12.out
      · go_simp
        refine hK.out _ _ ?_ (fun hHeld => ?_)
        · exact ⟨(Ext.cell (w := wb) (by (repeat (first | (with_reducible exact Ext.refl _) | (with_reducible apply Ext.drew) | (with_reducible apply Ext.drewN) | (with_reducible apply Ext.alloc)))) q0_1), (Ext.cell (w := wb) (by (repeat (first | (with_reducible exact Ext.refl _) | (with_reducible apply Ext.drew) | (with_reducible apply Ext.drewN) | (with_reducible apply Ext.alloc)))) q0_2), (Ext.cell (w := wb) (by (repeat (first | (with_reducible exact Ext.refl _) | (with_reducible apply Ext.drew) | (with_reducible apply Ext.drewN) | (with_reducible apply Ext.alloc)))) q0_3), (Ext.cell (w := wb) (by (repeat (first | (with_reducible exact Ext.refl _) | (with_reducible apply Ext.drew) | (with_reducible apply Ext.drewN) | (with_reducible apply Ext.alloc)))) q0_4), (Ext.cell (w := wb) (by (repeat (first | (with_reducible exact Ext.refl _) | (with_reducible apply Ext.drew) | (with_reducible apply Ext.drewN) | (with_reducible apply Ext.alloc)))) q0_5), (Ext.cell (w := wb) (by (repeat (first | (with_reducible exact Ext.refl _) | (with_reducible apply Ext.drew) | (with_reducible apply Ext.drewN) | (with_reducible apply Ext.alloc)))) q0_6)⟩
        clear hK K
        try simp only [Act.put, List.getElem_toArray, List.getElem_cons_zero, List.getElem_cons_succ, List.setIfInBounds_toArray, List.set_cons_zero, List.set_cons_succ]
        refine wpAnyH_ready (rs := [8]) (by kernel_rfl) (by simp) ?_
        refine AllReadyH.cons rfl (fun K hK => ?_) AllReadyH.nil
        go_simp
        refine hK.out _ _ ?_ (fun hHeld => ?_)
        · exact ⟨(Ext.cell (w := wb) (by (repeat (first | (with_reducible exact Ext.refl _) | (with_reducible apply Ext.drew) | (with_reducible apply Ext.drewN) | (with_reducible apply Ext.alloc)))) q0_1), (Ext.cell (w := wb) (by (repeat (first | (with_reducible exact Ext.refl _) | (with_reducible apply Ext.drew) | (with_reducible apply Ext.drewN) | (with_reducible apply Ext.alloc)))) q0_2), (Ext.cell (w := wb) (by (repeat (first | (with_reducible exact Ext.refl _) | (with_reducible apply Ext.drew) | (with_reducible apply Ext.drewN) | (with_reducible apply Ext.alloc)))) q0_3), (Ext.cell (w := wb) (by (repeat (first | (with_reducible exact Ext.refl _) | (with_reducible apply Ext.drew) | (with_reducible apply Ext.drewN) | (with_reducible apply Ext.alloc)))) q0_4), (Ext.cell (w := wb) (by (repeat (first | (with_reducible exact Ext.refl _) | (with_reducible apply Ext.drew) | (with_reducible apply Ext.drewN) | (with_reducible apply Ext.alloc)))) q0_5), (Ext.cell (w := wb) (by (repeat (first | (with_reducible exact Ext.refl _) | (with_reducible apply Ext.drew) | (with_reducible apply Ext.drewN) | (with_reducible apply Ext.alloc)))) q0_6)⟩
        clear hK K
        try simp only [Act.put, List.getElem_toArray, List.getElem_cons_zero, List.getElem_cons_succ, List.setIfInBounds_toArray, List.set_cons_zero, List.set_cons_succ]
        refine wpAnyH_ready (rs := [9]) (by kernel_rfl) (by simp) ?_
        refine AllReadyH.cons rfl (fun K hK => ?_) AllReadyH.nil
        (refine step_app_st (by rfl) (.tmp 29) (.tmp 34) (by rfl) wb.heap.size (.slice (some ⟨wb.heap.size, 0, none⟩) 0 0) 0 [] (by rfl) ?_ gi' ci mI L (by rfl) HmI.out ?_ ?_ ?_ ?_; (focus (refine own0z ?_ ?_; (focus (repeat (first | (with_reducible exact blk_at rfl) | (with_reducible refine blk_at ?_; simp; done) | (with_reducible apply blk_drew) | (with_reducible apply blk_drewN) | (with_reducible apply blk_old)))); (focus (first | (exact Nat.le_refl _) | (exact Nat.le_succ _) | (simp; done) | (simp; omega))))); (focus (refine HRo2.out.ext ?_; (repeat (first | (with_reducible exact Ext.refl _) | (with_reducible apply Ext.drew) | (with_reducible apply Ext.drewN) | (with_reducible apply Ext.alloc))))); (focus omega); (focus (first | (exact Nat.le_refl _) | (simp; done) | (simp; omega))); intro v9 w9 o9 g9; have x9 : Hid (Ext wb w9) := Lib.hid (Ext.grown (by (repeat (first | (with_reducible exact Ext.refl _) | (with_reducible apply Ext.drew) | (with_reducible apply Ext.drewN) | (with_reducible apply Ext.alloc)))) g9 (by intro k' hk'; simp [Value.ownBlock] at hk'; omega)))
        refine hK.out _ _ ?_ (fun hHeld => ?_)
        · exact ⟨(Ext.cell (w := wb) (by (repeat (first | (with_reducible exact x9.out) | (with_reducible exact Ext.refl _) | (with_reducible apply Ext.drew) | (with_reducible apply Ext.drewN) | (with_reducible apply Ext.alloc)))) q0_1), (Ext.cell (w := wb) (by (repeat (first | (with_reducible exact x9.out) | (with_reducible exact Ext.refl _) | (with_reducible apply Ext.drew) | (with_reducible apply Ext.drewN) | (with_reducible apply Ext.alloc)))) q0_2), (Ext.cell (w := wb) (by (repeat (first | (with_reducible exact x9.out) | (with_reducible exact Ext.refl _) | (with_reducible apply Ext.drew) | (with_reducible apply Ext.drewN) | (with_reducible apply Ext.alloc)))) q0_3), (Ext.cell (w := wb) (by (repeat (first | (with_reducible exact x9.out) | (with_reducible exact Ext.refl _) | (with_reducible apply Ext.drew) | (with_reducible apply Ext.drewN) | (with_reducible apply Ext.alloc)))) q0_4), (Ext.cell (w := wb) (by (repeat (first | (with_reducible exact x9.out) | (with_reducible exact Ext.refl _) | (with_reducible apply Ext.drew) | (with_reducible apply Ext.drewN) | (with_reducible apply Ext.alloc)))) q0_5), (Ext.cell (w := wb) (by (repeat (first | (with_reducible exact x9.out) | (with_reducible exact Ext.refl _) | (with_reducible apply Ext.drew) | (with_reducible apply Ext.drewN) | (with_reducible apply Ext.alloc)))) q0_6)⟩
        clear hK K
        try simp only [Act.put, List.getElem_toArray, List.getElem_cons_zero, List.getElem_cons_succ, List.setIfInBounds_toArray, List.set_cons_zero, List.set_cons_succ]
        refine wpAnyH_ready (rs := [12]) (by kernel_rfl) (by simp) ?_
        refine AllReadyH.cons rfl (fun K hK => ?_) AllReadyH.nil
        (refine step_app_st (by rfl) (.tmp 35) (.tmp 37) (by rfl) wb.heap.size v9 (0 + mI) ([] ++ cells L) (by rfl) ?_ ((wb.heap.size + 1)) 1 1 [S] (by rfl) rfl ?_ ?_ ?_ ?_; (focus (refine own_extz o9 ?_; (repeat (first | (with_reducible exact Ext.refl _) | (with_reducible apply Ext.drew) | (with_reducible apply Ext.drewN) | (with_reducible apply Ext.alloc))))); (focus (refine RO.of_blk1 (s := S) ((g9.block _ (by simp <;> omega) (by simp [Value.ownBlock] <;> omega)).trans ?_); (repeat (first | (with_reducible exact blk_at rfl) | (with_reducible refine blk_at ?_; simp; done) | (with_reducible apply blk_drew) | (with_reducible apply blk_drewN) | (with_reducible apply blk_old))))); (focus omega); (focus (have := x9.out.size; simp; omega)); intro v12 w12 o12 g12; have x12 : Hid (Ext wb w12) := Lib.hid (Ext.grown (by (repeat (first | (with_reducible exact x9.out) | (with_reducible exact Ext.refl _) | (with_reducible apply Ext.drew) | (with_reducible apply Ext.drewN) | (with_reducible apply Ext.alloc)))) g12 (fun k' hk' => (o9.lt k' hk').1)); obtain ⟨a12, n12, c12, hv12, hn12⟩ := (RV.of_own (l := L ++ [S]) (by rw [cells_app]; exact o12)).1.form; subst hv12; clear hn12; have H12 : Hid (RV w12 (.slice a12 n12 c12) (L ++ [S])) := Lib.hid (RV.of_own (l := L ++ [S]) (by rw [cells_app]; exact o12)).1; have p1 := x12.out.cell q0_1; have p2 := x12.out.cell qrow; have p3 := HFr.out _ x12.out; have p4 := x12.out.cell q0_2; have p5 := x12.out.cell q0_3; have p6 := x12.out.cell q0_4; have p7 := x12.out.cell q0_5; have p8 := x12.out.cell q0_6)
        refine hK.out _ _ ?_ (fun hHeld => ?_)
        · exact ⟨p1, p4, p5, p6, p7, p8⟩
        clear hK K
        try simp only [Act.put, List.getElem_toArray, List.getElem_cons_zero, List.getElem_cons_succ, List.setIfInBounds_toArray, List.set_cons_zero, List.set_cons_succ]
        refine wpAnyH_ready (rs := [13]) (by kernel_rfl) (by simp) ?_
        refine AllReadyH.cons rfl (fun K hK => ?_) AllReadyH.nil
        go_simp
        refine hK.out _ _ ?_ (fun hHeld => ?_)
        · exact ⟨p1, p4, p5, p6, p7, p8⟩
        clear hK K
        try simp only [Act.put, List.getElem_toArray, List.getElem_cons_zero, List.getElem_cons_succ, List.setIfInBounds_toArray, List.set_cons_zero, List.set_cons_succ]
        refine wpAnyH_ready (rs := [14]) (by kernel_rfl) (by simp) ?_
        refine AllReadyH.cons rfl (fun K hK => ?_) AllReadyH.nil
        go_simp
        refine hK.out _ _ ?_ (fun hHeld => ?_)
        · exact ⟨cell_set1 p1 (by simpa using HNe.out.1) _, cell_set1 p4 (by simpa using HNe.out.2) _, cell_set1 p5 (by simpa using HNe.out.2) _, cell_set1 p6 (by simpa using HNe.out.2) _, cell_set1 p7 (by simpa using HNe.out.2) _, cell_set1 p8 (by simpa using HNe.out.2) _⟩
        clear hK K
        try simp only [Act.put, List.getElem_toArray, List.getElem_cons_zero, List.getElem_cons_succ, List.setIfInBounds_toArray, List.set_cons_zero, List.set_cons_succ]
        refine wpAnyH_done (by kernel_rfl) ?_ _
        go_wp2_with fail
        go_meet
        case rel => exact HFin.out _ _ x12.out H12.out
    · go_simp
      refine hK.out _ _ ?_ (fun hHeld => ?_)
      · exact ⟨(Ext.cell (w := wb) (by (repeat (first | (with_reducible exact Ext.refl _) | (with_reducible apply Ext.drew) | (with_reducible apply Ext.drewN) | (with_reducible apply Ext.alloc)))) q0_1), (Ext.cell (w := wb) (by (repeat (first | (with_reducible exact Ext.refl _) | (with_reducible apply Ext.drew) | (with_reducible apply Ext.drewN) | (with_reducible apply Ext.alloc)))) q0_2), (Ext.cell (w := wb) (by (repeat (first | (with_reducible exact Ext.refl _) | (with_reducible apply Ext.drew) | (with_reducible apply Ext.drewN) | (with_reducible apply Ext.alloc)))) q0_3), (Ext.cell (w := wb) (by (repeat (first | (with_reducible exact Ext.refl _) | (with_reducible apply Ext.drew) | (with_reducible apply Ext.drewN) | (with_reducible apply Ext.alloc)))) q0_4), (Ext.cell (w := wb) (by (repeat (first | (with_reducible exact Ext.refl _) | (with_reducible apply Ext.drew) | (with_reducible apply Ext.drewN) | (with_reducible apply Ext.alloc)))) q0_5), (Ext.cell (w := wb) (by (repeat (first | (with_reducible exact Ext.refl _) | (with_reducible apply Ext.drew) | (with_reducible apply Ext.drewN) | (with_reducible apply Ext.alloc)))) q0_6)⟩
      clear hK K
      try simp only [Act.put, List.getElem_toArray, List.getElem_cons_zero, List.getElem_cons_succ, List.setIfInBounds_toArray, List.set_cons_zero, List.set_cons_succ]
      refine wpAnyH_ready (rs := [3, 11]) (by kernel_rfl) (by simp) ?_
      refine AllReadyH.cons rfl (fun K hK => ?_) (AllReadyH.cons rfl (fun K hK => ?_) AllReadyH.nil)
      · go_simp
        refine hK.out _ _ ?_ (fun hHeld => ?_)
        · exact ⟨(Ext.cell (w := wb) (by (repeat (first | (with_reducible exact Ext.refl _) | (with_reducible apply Ext.drew) | (with_reducible apply Ext.drewN) | (with_reducible apply Ext.alloc)))) q0_1), (Ext.cell (w := wb) (by (repeat (first | (with_reducible exact Ext.refl _) | (with_reducible apply Ext.drew) | (with_reducible apply Ext.drewN) | (with_reducible apply Ext.alloc)))) q0_2), (Ext.cell (w := wb) (by (repeat (first | (with_reducible exact Ext.refl _) | (with_reducible apply Ext.drew) | (with_reducible apply Ext.drewN) | (with_reducible apply Ext.alloc)))) q0_3), (Ext.cell (w := wb) (by (repeat (first | (with_reducible exact Ext.refl _) | (with_reducible apply Ext.drew) | (with_reducible apply Ext.drewN) | (with_reducible apply Ext.alloc)))) q0_4), (Ext.cell (w := wb) (by (repeat (first | (with_reducible exact Ext.refl _) | (with_reducible apply Ext.drew) | (with_reducible apply Ext.drewN) | (with_reducible apply Ext.alloc)))) q0_5), (Ext.cell (w := wb) (by (repeat (first | (with_reducible exact Ext.refl _) | (with_reducible apply Ext.drew) | (with_reducible apply Ext.drewN) | (with_reducible apply Ext.alloc)))) q0_6)⟩
        clear hK K
        try simp only [Act.put, List.getElem_toArray, List.getElem_cons_zero, List.getElem_cons_succ, List.setIfInBounds_toArray, List.set_cons_zero, List.set_cons_succ]
        refine wpAnyH_ready (rs := [9, 11]) (by kernel_rfl) (by simp) ?_
        refine AllReadyH.cons rfl (fun K hK => ?_) (AllReadyH.cons rfl (fun K hK => ?_) AllReadyH.nil)
        · (refine step_app_st (by rfl) (.tmp 29) (.tmp 34) (by rfl) wb.heap.size (.slice (some ⟨wb.heap.size, 0, none⟩) 0 0) 0 [] (by rfl) ?_ gi' ci mI L (by rfl) HmI.out ?_ ?_ ?_ ?_; (focus (refine own0z ?_ ?_; (focus (repeat (first | (with_reducible exact blk_at rfl) | (with_reducible refine blk_at ?_; simp; done) | (with_reducible apply blk_drew) | (with_reducible apply blk_drewN) | (with_reducible apply blk_old)))); (focus (first | (exact Nat.le_refl _) | (exact Nat.le_succ _) | (simp; done) | (simp; omega))))); (focus (refine HRo2.out.ext ?_; (repeat (first | (with_reducible exact Ext.refl _) | (with_reducible apply Ext.drew) | (with_reducible apply Ext.drewN) | (with_reducible apply Ext.alloc))))); (focus omega); (focus (first | (exact Nat.le_refl _) | (simp; done) | (simp; omega))); intro v9 w9 o9 g9; have x9 : Hid (Ext wb w9) := Lib.hid (Ext.grown (by (repeat (first | (with_reducible exact Ext.refl _) | (with_reducible apply Ext.drew) | (with_reducible apply Ext.drewN) | (with_reducible apply Ext.alloc)))) g9 (by intro k' hk'; simp [Value.ownBlock] at hk'; omega)))
          refine hK.out _ _ ?_ (fun hHeld => ?_)
          · exact ⟨(Ext.cell (w := wb) (by (repeat (first | (with_reducible exact x9.out) | (with_reducible exact Ext.refl _) | (with_reducible apply Ext.drew) | (with_reducible apply Ext.drewN) | (with_reducible apply Ext.alloc)))) q0_1), (Ext.cell (w := wb) (by (repeat (first | (with_reducible exact x9.out) | (with_reducible exact Ext.refl _) | (with_reducible apply Ext.drew) | (with_reducible apply Ext.drewN) | (with_reducible apply Ext.alloc)))) q0_2), (Ext.cell (w := wb) (by (repeat (first | (with_reducible exact x9.out) | (with_reducible exact Ext.refl _) | (with_reducible apply Ext.drew) | (with_reducible apply Ext.drewN) | (with_reducible apply Ext.alloc)))) q0_3), (Ext.cell (w := wb) (by (repeat (first | (with_reducible exact x9.out) | (with_reducible exact Ext.refl _) | (with_reducible apply Ext.drew) | (with_reducible apply Ext.drewN) | (with_reducible apply Ext.alloc)))) q0_4), (Ext.cell (w := wb) (by (repeat (first | (with_reducible exact x9.out) | (with_reducible exact Ext.refl _) | (with_reducible apply Ext.drew) | (with_reducible apply Ext.drewN) | (with_reducible apply Ext.alloc)))) q0_5), (Ext.cell (w := wb) (by (repeat (first | (with_reducible exact x9.out) | (with_reducible exact Ext.refl _) | (with_reducible apply Ext.drew) | (with_reducible apply Ext.drewN) | (with_reducible apply Ext.alloc)))) q0_6)⟩
          clear hK K
          try simp only [Act.put, List.getElem_toArray, List.getElem_cons_zero, List.getElem_cons_succ, List.setIfInBounds_toArray, List.set_cons_zero, List.set_cons_succ]
          refine wpAnyH_ready (rs := [11]) (by kernel_rfl) (by simp) ?_
          refine AllReadyH.cons rfl (fun K hK => ?_) AllReadyH.nil
          go_simp
          refine hK.out _ _ ?_ (fun hHeld => ?_)
          · exact ⟨(Ext.cell (w := wb) (by (repeat (first | (with_reducible exact x9.out) | (with_reducible exact Ext.refl _) | (with_reducible apply Ext.drew) | (with_reducible apply Ext.drewN) | (with_reducible apply Ext.alloc)))) q0_1), (Ext.cell (w := wb) (by (repeat (first | (with_reducible exact x9.out) | (with_reducible exact Ext.refl _) | (with_reducible apply Ext.drew) | (with_reducible apply Ext.drewN) | (with_reducible apply Ext.alloc)))) q0_2), (Ext.cell (w := wb) (by (repeat (first | (with_reducible exact x9.out) | (with_reducible exact Ext.refl _) | (with_reducible apply Ext.drew) | (with_reducible apply Ext.drewN) | (with_reducible apply Ext.alloc)))) q0_3), (Ext.cell (w := wb) (by (repeat (first | (with_reducible exact x9.out) | (with_reducible exact Ext.refl _) | (with_reducible apply Ext.drew) | (with_reducible apply Ext.drewN) | (with_reducible apply Ext.alloc)))) q0_4), (Ext.cell (w := wb) (by (repeat (first | (with_reducible exact x9.out) | (with_reducible exact Ext.refl _) | (with_reducible apply Ext.drew) | (with_reducible apply Ext.drewN) | (with_reducible apply Ext.alloc)))) q0_5), (Ext.cell (w := wb) (by (repeat (first | (with_reducible exact x9.out) | (with_reducible exact Ext.refl _) | (with_reducible apply Ext.drew) | (with_reducible apply Ext.drewN) | (with_reducible apply Ext.alloc)))) q0_6)⟩
          clear hK K
          try simp only [Act.put, List.getElem_toArray, List.getElem_cons_zero, List.getElem_cons_succ, List.setIfInBounds_toArray, List.set_cons_zero, List.set_cons_succ]
          refine wpAnyH_ready (rs := [12]) (by kernel_rfl) (by simp) ?_
          refine AllReadyH.cons rfl (fun K hK => ?_) AllReadyH.nil
          (refine step_app_st (by rfl) (.tmp 35) (.tmp 37) (by rfl) wb.heap.size v9 (0 + mI) ([] ++ cells L) (by rfl) ?_ (w9.heap.size) 1 1 [S] (by rfl) rfl ?_ ?_ ?_ ?_; (focus (refine own_extz o9 ?_; (repeat (first | (with_reducible exact Ext.refl _) | (with_reducible apply Ext.drew) | (with_reducible apply Ext.drewN) | (with_reducible apply Ext.alloc))))); (focus (refine RO.of_blk1 (s := S) ?_; (repeat (first | (with_reducible exact blk_at rfl) | (with_reducible refine blk_at ?_; simp; done) | (with_reducible apply blk_drew) | (with_reducible apply blk_drewN) | (with_reducible apply blk_old))))); (focus omega); (focus (have := x9.out.size; simp; omega)); intro v12 w12 o12 g12; have x12 : Hid (Ext wb w12) := Lib.hid (Ext.grown (by (repeat (first | (with_reducible exact x9.out) | (with_reducible exact Ext.refl _) | (with_reducible apply Ext.drew) | (with_reducible apply Ext.drewN) | (with_reducible apply Ext.alloc)))) g12 (fun k' hk' => (o9.lt k' hk').1)); obtain ⟨a12, n12, c12, hv12, hn12⟩ := (RV.of_own (l := L ++ [S]) (by rw [cells_app]; exact o12)).1.form; subst hv12; clear hn12; have H12 : Hid (RV w12 (.slice a12 n12 c12) (L ++ [S])) := Lib.hid (RV.of_own (l := L ++ [S]) (by rw [cells_app]; exact o12)).1; have p1 := x12.out.cell q0_1; have p2 := x12.out.cell qrow; have p3 := HFr.out _ x12.out; have p4 := x12.out.cell q0_2; have p5 := x12.out.cell q0_3; have p6 := x12.out.cell q0_4; have p7 := x12.out.cell q0_5; have p8 := x12.out.cell q0_6)
          refine hK.out _ _ ?_ (fun hHeld => ?_)
          · exact ⟨p1, p4, p5, p6, p7, p8⟩
          clear hK K
          try simp only [Act.put, List.getElem_toArray, List.getElem_cons_zero, List.getElem_cons_succ, List.setIfInBounds_toArray, List.set_cons_zero, List.set_cons_succ]
          refine wpAnyH_ready (rs := [13]) (by kernel_rfl) (by simp) ?_
          refine AllReadyH.cons rfl (fun K hK => ?_) AllReadyH.nil
          go_simp
          refine hK.out _ _ ?_ (fun hHeld => ?_)
          · exact ⟨p1, p4, p5, p6, p7, p8⟩
          clear hK K
          try simp only [Act.put, List.getElem_toArray, List.getElem_cons_zero, List.getElem_cons_succ, List.setIfInBounds_toArray, List.set_cons_zero, List.set_cons_succ]
          refine wpAnyH_ready (rs := [14]) (by kernel_rfl) (by simp) ?_
          refine AllReadyH.cons rfl (fun K hK => ?_) AllReadyH.nil
          go_simp
          refine hK.out _ _ ?_ (fun hHeld => ?_)
          · exact ⟨cell_set1 p1 (by simpa using HNe.out.1) _, cell_set1 p4 (by simpa using HNe.out.2) _, cell_set1 p5 (by simpa using HNe.out.2) _, cell_set1 p6 (by simpa using HNe.out.2) _, cell_set1 p7 (by simpa using HNe.out.2) _, cell_set1 p8 (by simpa using HNe.out.2) _⟩
          clear hK K
          try simp only [Act.put, List.getElem_toArray, List.getElem_cons_zero, List.getElem_cons_succ, List.setIfInBounds_toArray, List.set_cons_zero, List.set_cons_succ]
          refine wpAnyH_done (by kernel_rfl) ?_ _
          go_wp2_with fail
          go_meet
          case rel => exact HFin.out _ _ x12.out H12.out
        · go_simp
          refine hK.out _ _ ?_ (fun hHeld => ?_)
          · exact ⟨(Ext.cell (w := wb) (by (repeat (first | (with_reducible exact Ext.refl _) | (with_reducible apply Ext.drew) | (with_reducible apply Ext.drewN) | (with_reducible apply Ext.alloc)))) q0_1), (Ext.cell (w := wb) (by (repeat (first | (with_reducible exact Ext.refl _) | (with_reducible apply Ext.drew) | (with_reducible apply Ext.drewN) | (with_reducible apply Ext.alloc)))) q0_2), (Ext.cell (w := wb) (by (repeat (first | (with_reducible exact Ext.refl _) | (with_reducible apply Ext.drew) | (with_reducible apply Ext.drewN) | (with_reducible apply Ext.alloc)))) q0_3), (Ext.cell (w := wb) (by (repeat (first | (with_reducible exact Ext.refl _) | (with_reducible apply Ext.drew) | (with_reducible apply Ext.drewN) | (with_reducible apply Ext.alloc)))) q0_4), (Ext.cell (w := wb) (by (repeat (first | (with_reducible exact Ext.refl _) | (with_reducible apply Ext.drew) | (with_reducible apply Ext.drewN) | (with_reducible apply Ext.alloc)))) q0_5), (Ext.cell (w := wb) (by (repeat (first | (with_reducible exact Ext.refl _) | (with_reducible apply Ext.drew) | (with_reducible apply Ext.drewN) | (with_reducible apply Ext.alloc)))) q0_6)⟩
          clear hK K
          try simp only [Act.put, List.getElem_toArray, List.getElem_cons_zero, List.getElem_cons_succ, List.setIfInBounds_toArray, List.set_cons_zero, List.set_cons_succ]
          refine wpAnyH_ready (rs := [9]) (by kernel_rfl) (by simp) ?_
          refine AllReadyH.cons rfl (fun K hK => ?_) AllReadyH.nil
          (refine step_app_st (by rfl) (.tmp 29) (.tmp 34) (by rfl) wb.heap.size (.slice (some ⟨wb.heap.size, 0, none⟩) 0 0) 0 [] (by rfl) ?_ gi' ci mI L (by rfl) HmI.out ?_ ?_ ?_ ?_; (focus (refine own0z ?_ ?_; (focus (repeat (first | (with_reducible exact blk_at rfl) | (with_reducible refine blk_at ?_; simp; done) | (with_reducible apply blk_drew) | (with_reducible apply blk_drewN) | (with_reducible apply blk_old)))); (focus (first | (exact Nat.le_refl _) | (exact Nat.le_succ _) | (simp; done) | (simp; omega))))); (focus (refine HRo2.out.ext ?_; (repeat (first | (with_reducible exact Ext.refl _) | (with_reducible apply Ext.drew) | (with_reducible apply Ext.drewN) | (with_reducible apply Ext.alloc))))); (focus omega); (focus (first | (exact Nat.le_refl _) | (simp; done) | (simp; omega))); intro v9 w9 o9 g9; have x9 : Hid (Ext wb w9) := Lib.hid (Ext.grown (by (repeat (first | (with_reducible exact Ext.refl _) | (with_reducible apply Ext.drew) | (with_reducible apply Ext.drewN) | (with_reducible apply Ext.alloc)))) g9 (by intro k' hk'; simp [Value.ownBlock] at hk'; omega)))
          refine hK.out _ _ ?_ (fun hHeld => ?_)
          · exact ⟨(Ext.cell (w := wb) (by (repeat (first | (with_reducible exact x9.out) | (with_reducible exact Ext.refl _) | (with_reducible apply Ext.drew) | (with_reducible apply Ext.drewN) | (with_reducible apply Ext.alloc)))) q0_1), (Ext.cell (w := wb) (by (repeat (first | (with_reducible exact x9.out) | (with_reducible exact Ext.refl _) | (with_reducible apply Ext.drew) | (with_reducible apply Ext.drewN) | (with_reducible apply Ext.alloc)))) q0_2), (Ext.cell (w := wb) (by (repeat (first | (with_reducible exact x9.out) | (with_reducible exact Ext.refl _) | (with_reducible apply Ext.drew) | (with_reducible apply Ext.drewN) | (with_reducible apply Ext.alloc)))) q0_3), (Ext.cell (w := wb) (by (repeat (first | (with_reducible exact x9.out) | (with_reducible exact Ext.refl _) | (with_reducible apply Ext.drew) | (with_reducible apply Ext.drewN) | (with_reducible apply Ext.alloc)))) q0_4), (Ext.cell (w := wb) (by (repeat (first | (with_reducible exact x9.out) | (with_reducible exact Ext.refl _) | (with_reducible apply Ext.drew) | (with_reducible apply Ext.drewN) | (with_reducible apply Ext.alloc)))) q0_5), (Ext.cell (w := wb) (by (repeat (first | (with_reducible exact x9.out) | (with_reducible exact Ext.refl _) | (with_reducible apply Ext.drew) | (with_reducible apply Ext.drewN) | (with_reducible apply Ext.alloc)))) q0_6)⟩
          clear hK K
          try simp only [Act.put, List.getElem_toArray, List.getElem_cons_zero, List.getElem_cons_succ, List.setIfInBounds_toArray, List.set_cons_zero, List.set_cons_succ]
          refine wpAnyH_ready (rs := [12]) (by kernel_rfl) (by simp) ?_
          refine AllReadyH.cons rfl (fun K hK => ?_) AllReadyH.nil
          (refine step_app_st (by rfl) (.tmp 35) (.tmp 37) (by rfl) wb.heap.size v9 (0 + mI) ([] ++ cells L) (by rfl) ?_ ((wb.heap.size + 1)) 1 1 [S] (by rfl) rfl ?_ ?_ ?_ ?_; (focus (refine own_extz o9 ?_; (repeat (first | (with_reducible exact Ext.refl _) | (with_reducible apply Ext.drew) | (with_reducible apply Ext.drewN) | (with_reducible apply Ext.alloc))))); (focus (refine RO.of_blk1 (s := S) ((g9.block _ (by simp <;> omega) (by simp [Value.ownBlock] <;> omega)).trans ?_); (repeat (first | (with_reducible exact blk_at rfl) | (with_reducible refine blk_at ?_; simp; done) | (with_reducible apply blk_drew) | (with_reducible apply blk_drewN) | (with_reducible apply blk_old))))); (focus omega); (focus (have := x9.out.size; simp; omega)); intro v12 w12 o12 g12; have x12 : Hid (Ext wb w12) := Lib.hid (Ext.grown (by (repeat (first | (with_reducible exact x9.out) | (with_reducible exact Ext.refl _) | (with_reducible apply Ext.drew) | (with_reducible apply Ext.drewN) | (with_reducible apply Ext.alloc)))) g12 (fun k' hk' => (o9.lt k' hk').1)); obtain ⟨a12, n12, c12, hv12, hn12⟩ := (RV.of_own (l := L ++ [S]) (by rw [cells_app]; exact o12)).1.form; subst hv12; clear hn12; have H12 : Hid (RV w12 (.slice a12 n12 c12) (L ++ [S])) := Lib.hid (RV.of_own (l := L ++ [S]) (by rw [cells_app]; exact o12)).1; have p1 := x12.out.cell q0_1; have p2 := x12.out.cell qrow; have p3 := HFr.out _ x12.out; have p4 := x12.out.cell q0_2; have p5 := x12.out.cell q0_3; have p6 := x12.out.cell q0_4; have p7 := x12.out.cell q0_5; have p8 := x12.out.cell q0_6)
          refine hK.out _ _ ?_ (fun hHeld => ?_)
          · exact ⟨p1, p4, p5, p6, p7, p8⟩
          clear hK K
          try simp only [Act.put, List.getElem_toArray, List.getElem_cons_zero, List.getElem_cons_succ, List.setIfInBounds_toArray, List.set_cons_zero, List.set_cons_succ]
          refine wpAnyH_ready (rs := [13]) (by kernel_rfl) (by simp) ?_
          refine AllReadyH.cons rfl (fun K hK => ?_) AllReadyH.nil
          go_simp
          refine hK.out _ _ ?_ (fun hHeld => ?_)
          · exact ⟨p1, p4, p5, p6, p7, p8⟩
          clear hK K
          try simp only [Act.put, List.getElem_toArray, List.getElem_cons_zero, List.getElem_cons_succ, List.setIfInBounds_toArray, List.set_cons_zero, List.set_cons_succ]
          refine wpAnyH_ready (rs := [14]) (by kernel_rfl) (by simp) ?_
          refine AllReadyH.cons rfl (fun K hK => ?_) AllReadyH.nil
          go_simp
          refine hK.out _ _ ?_ (fun hHeld => ?_)
          · exact ⟨cell_set1 p1 (by simpa using HNe.out.1) _, cell_set1 p4 (by simpa using HNe.out.2) _, cell_set1 p5 (by simpa using HNe.out.2) _, cell_set1 p6 (by simpa using HNe.out.2) _, cell_set1 p7 (by simpa using HNe.out.2) _, cell_set1 p8 (by simpa using HNe.out.2) _⟩
          clear hK K
          try simp only [Act.put, List.getElem_toArray, List.getElem_cons_zero, List.getElem_cons_succ, List.setIfInBounds_toArray, List.set_cons_zero, List.set_cons_succ]
          refine wpAnyH_done (by kernel_rfl) ?_ _
          go_wp2_with fail
          go_meet
          case rel => exact HFin.out _ _ x12.out H12.out
      · go_simp
        refine hK.out _ _ ?_ (fun hHeld => ?_)
        · exact ⟨(Ext.cell (w := wb) (by (repeat (first | (with_reducible exact Ext.refl _) | (with_reducible apply Ext.drew) | (with_reducible apply Ext.drewN) | (with_reducible apply Ext.alloc)))) q0_1), (Ext.cell (w := wb) (by (repeat (first | (with_reducible exact Ext.refl _) | (with_reducible apply Ext.drew) | (with_reducible apply Ext.drewN) | (with_reducible apply Ext.alloc)))) q0_2), (Ext.cell (w := wb) (by (repeat (first | (with_reducible exact Ext.refl _) | (with_reducible apply Ext.drew) | (with_reducible apply Ext.drewN) | (with_reducible apply Ext.alloc)))) q0_3), (Ext.cell (w := wb) (by (repeat (first | (with_reducible exact Ext.refl _) | (with_reducible apply Ext.drew) | (with_reducible apply Ext.drewN) | (with_reducible apply Ext.alloc)))) q0_4), (Ext.cell (w := wb) (by (repeat (first | (with_reducible exact Ext.refl _) | (with_reducible apply Ext.drew) | (with_reducible apply Ext.drewN) | (with_reducible apply Ext.alloc)))) q0_5), (Ext.cell (w := wb) (by (repeat (first | (with_reducible exact Ext.refl _) | (with_reducible apply Ext.drew) | (with_reducible apply Ext.drewN) | (with_reducible apply Ext.alloc)))) q0_6)⟩
        clear hK K
        try simp only [Act.put, List.getElem_toArray, List.getElem_cons_zero, List.getElem_cons_succ, List.setIfInBounds_toArray, List.set_cons_zero, List.set_cons_succ]
        refine wpAnyH_ready (rs := [3]) (by kernel_rfl) (by simp) ?_
        refine AllReadyH.cons rfl (fun K hK => ?_) AllReadyH.nil
        go_simp
        refine hK.out _ _ ?_ (fun hHeld => ?_)
        · exact ⟨(Ext.cell (w := wb) (by (repeat (first | (with_reducible exact Ext.refl _) | (with_reducible apply Ext.drew) | (with_reducible apply Ext.drewN) | (with_reducible apply Ext.alloc)))) q0_1), (Ext.cell (w := wb) (by (repeat (first | (with_reducible exact Ext.refl _) | (with_reducible apply Ext.drew) | (with_reducible apply Ext.drewN) | (with_reducible apply Ext.alloc)))) q0_2), (Ext.cell (w := wb) (by (repeat (first | (with_reducible exact Ext.refl _) | (with_reducible apply Ext.drew) | (with_reducible apply Ext.drewN) | (with_reducible apply Ext.alloc)))) q0_3), (Ext.cell (w := wb) (by (repeat (first | (with_reducible exact Ext.refl _) | (with_reducible apply Ext.drew) | (with_reducible apply Ext.drewN) | (with_reducible apply Ext.alloc)))) q0_4), (Ext.cell (w := wb) (by (repeat (first | (with_reducible exact Ext.refl _) | (with_reducible apply Ext.drew) | (with_reducible apply Ext.drewN) | (with_reducible apply Ext.alloc)))) q0_5), (Ext.cell (w := wb) (by (repeat (first | (with_reducible exact Ext.refl _) | (with_reducible apply Ext.drew) | (with_reducible apply Ext.drewN) | (with_reducible apply Ext.alloc)))) q0_6)⟩
        clear hK K
        try simp only [Act.put, List.getElem_toArray, List.getElem_cons_zero, List.getElem_cons_succ, List.setIfInBounds_toArray, List.set_cons_zero, List.set_cons_succ]
        refine wpAnyH_ready (rs := [9]) (by kernel_rfl) (by simp) ?_
        refine AllReadyH.cons rfl (fun K hK => ?_) AllReadyH.nil
        (refine step_app_st (by rfl) (.tmp 29) (.tmp 34) (by rfl) wb.heap.size (.slice (some ⟨(wb.heap.size + 1), 0, none⟩) 0 0) 0 [] (by rfl) ?_ gi' ci mI L (by rfl) HmI.out ?_ ?_ ?_ ?_; (focus (refine own0z ?_ ?_; (focus (repeat (first | (with_reducible exact blk_at rfl) | (with_reducible refine blk_at ?_; simp; done) | (with_reducible apply blk_drew) | (with_reducible apply blk_drewN) | (with_reducible apply blk_old)))); (focus (first | (exact Nat.le_refl _) | (exact Nat.le_succ _) | (simp; done) | (simp; omega))))); (focus (refine HRo2.out.ext ?_; (repeat (first | (with_reducible exact Ext.refl _) | (with_reducible apply Ext.drew) | (with_reducible apply Ext.drewN) | (with_reducible apply Ext.alloc))))); (focus omega); (focus (first | (exact Nat.le_refl _) | (simp; done) | (simp; omega))); intro v9 w9 o9 g9; have x9 : Hid (Ext wb w9) := Lib.hid (Ext.grown (by (repeat (first | (with_reducible exact Ext.refl _) | (with_reducible apply Ext.drew) | (with_reducible apply Ext.drewN) | (with_reducible apply Ext.alloc)))) g9 (by intro k' hk'; simp [Value.ownBlock] at hk'; omega)))
        refine hK.out _ _ ?_ (fun hHeld => ?_)
        · exact ⟨(Ext.cell (w := wb) (by (repeat (first | (with_reducible exact x9.out) | (with_reducible exact Ext.refl _) | (with_reducible apply Ext.drew) | (with_reducible apply Ext.drewN) | (with_reducible apply Ext.alloc)))) q0_1), (Ext.cell (w := wb) (by (repeat (first | (with_reducible exact x9.out) | (with_reducible exact Ext.refl _) | (with_reducible apply Ext.drew) | (with_reducible apply Ext.drewN) | (with_reducible apply Ext.alloc)))) q0_2), (Ext.cell (w := wb) (by (repeat (first | (with_reducible exact x9.out) | (with_reducible exact Ext.refl _) | (with_reducible apply Ext.drew) | (with_reducible apply Ext.drewN) | (with_reducible apply Ext.alloc)))) q0_3), (Ext.cell (w := wb) (by (repeat (first | (with_reducible exact x9.out) | (with_reducible exact Ext.refl _) | (with_reducible apply Ext.drew) | (with_reducible apply Ext.drewN) | (with_reducible apply Ext.alloc)))) q0_4), (Ext.cell (w := wb) (by (repeat (first | (with_reducible exact x9.out) | (with_reducible exact Ext.refl _) | (with_reducible apply Ext.drew) | (with_reducible apply Ext.drewN) | (with_reducible apply Ext.alloc)))) q0_5), (Ext.cell (w := wb) (by (repeat (first | (with_reducible exact x9.out) | (with_reducible exact Ext.refl _) | (with_reducible apply Ext.drew) | (with_reducible apply Ext.drewN) | (with_reducible apply Ext.alloc)))) q0_6)⟩
        clear hK K
        try simp only [Act.put, List.getElem_toArray, List.getElem_cons_zero, List.getElem_cons_succ, List.setIfInBounds_toArray, List.set_cons_zero, List.set_cons_succ]
        refine wpAnyH_ready (rs := [12]) (by kernel_rfl) (by simp) ?_
        refine AllReadyH.cons rfl (fun K hK => ?_) AllReadyH.nil
        (refine step_app_st (by rfl) (.tmp 35) (.tmp 37) (by rfl) wb.heap.size v9 (0 + mI) ([] ++ cells L) (by rfl) ?_ (wb.heap.size) 1 1 [S] (by rfl) rfl ?_ ?_ ?_ ?_; (focus (refine own_extz o9 ?_; (repeat (first | (with_reducible exact Ext.refl _) | (with_reducible apply Ext.drew) | (with_reducible apply Ext.drewN) | (with_reducible apply Ext.alloc))))); (focus (refine RO.of_blk1 (s := S) ((g9.block _ (by simp <;> omega) (by simp [Value.ownBlock] <;> omega)).trans ?_); (repeat (first | (with_reducible exact blk_at rfl) | (with_reducible refine blk_at ?_; simp; done) | (with_reducible apply blk_drew) | (with_reducible apply blk_drewN) | (with_reducible apply blk_old))))); (focus omega); (focus (have := x9.out.size; simp; omega)); intro v12 w12 o12 g12; have x12 : Hid (Ext wb w12) := Lib.hid (Ext.grown (by (repeat (first | (with_reducible exact x9.out) | (with_reducible exact Ext.refl _) | (with_reducible apply Ext.drew) | (with_reducible apply Ext.drewN) | (with_reducible apply Ext.alloc)))) g12 (fun k' hk' => (o9.lt k' hk').1)); obtain ⟨a12, n12, c12, hv12, hn12⟩ := (RV.of_own (l := L ++ [S]) (by rw [cells_app]; exact o12)).1.form; subst hv12; clear hn12; have H12 : Hid (RV w12 (.slice a12 n12 c12) (L ++ [S])) := Lib.hid (RV.of_own (l := L ++ [S]) (by rw [cells_app]; exact o12)).1; have p1 := x12.out.cell q0_1; have p2 := x12.out.cell qrow; have p3 := HFr.out _ x12.out; have p4 := x12.out.cell q0_2; have p5 := x12.out.cell q0_3; have p6 := x12.out.cell q0_4; have p7 := x12.out.cell q0_5; have p8 := x12.out.cell q0_6)
        refine hK.out _ _ ?_ (fun hHeld => ?_)
        · exact ⟨p1, p4, p5, p6, p7, p8⟩
        clear hK K
        try simp only [Act.put, List.getElem_toArray, List.getElem_cons_zero, List.getElem_cons_succ, List.setIfInBounds_toArray, List.set_cons_zero, List.set_cons_succ]
        refine wpAnyH_ready (rs := [13]) (by kernel_rfl) (by simp) ?_
        refine AllReadyH.cons rfl (fun K hK => ?_) AllReadyH.nil
        go_simp
        refine hK.out _ _ ?_ (fun hHeld => ?_)
        · exact ⟨p1, p4, p5, p6, p7, p8⟩
        clear hK K
        try simp only [Act.put, List.getElem_toArray, List.getElem_cons_zero, List.getElem_cons_succ, List.setIfInBounds_toArray, List.set_cons_zero, List.set_cons_succ]
        refine wpAnyH_ready (rs := [14]) (by kernel_rfl) (by simp) ?_
        refine AllReadyH.cons rfl (fun K hK => ?_) AllReadyH.nil
        go_simp
        refine hK.out _ _ ?_ (fun hHeld => ?_)
        · exact ⟨cell_set1 p1 (by simpa using HNe.out.1) _, cell_set1 p4 (by simpa using HNe.out.2) _, cell_set1 p5 (by simpa using HNe.out.2) _, cell_set1 p6 (by simpa using HNe.out.2) _, cell_set1 p7 (by simpa using HNe.out.2) _, cell_set1 p8 (by simpa using HNe.out.2) _⟩
        clear hK K
        try simp only [Act.put, List.getElem_toArray, List.getElem_cons_zero, List.getElem_cons_succ, List.setIfInBounds_toArray, List.set_cons_zero, List.set_cons_succ]
        refine wpAnyH_done (by kernel_rfl) ?_ _
        go_wp2_with fail
        go_meet
        case rel => exact HFin.out _ _ x12.out H12.out
    · go_simp
      refine hK.out _ _ ?_ (fun hHeld => ?_)
      · exact ⟨(Ext.cell (w := wb) (by (repeat (first | (with_reducible exact Ext.refl _) | (with_reducible apply Ext.drew) | (with_reducible apply Ext.drewN) | (with_reducible apply Ext.alloc)))) q0_1), (Ext.cell (w := wb) (by (repeat (first | (with_reducible exact Ext.refl _) | (with_reducible apply Ext.drew) | (with_reducible apply Ext.drewN) | (with_reducible apply Ext.alloc)))) q0_2), (Ext.cell (w := wb) (by (repeat (first | (with_reducible exact Ext.refl _) | (with_reducible apply Ext.drew) | (with_reducible apply Ext.drewN) | (with_reducible apply Ext.alloc)))) q0_3), (Ext.cell (w := wb) (by (repeat (first | (with_reducible exact Ext.refl _) | (with_reducible apply Ext.drew) | (with_reducible apply Ext.drewN) | (with_reducible apply Ext.alloc)))) q0_4), (Ext.cell (w := wb) (by (repeat (first | (with_reducible exact Ext.refl _) | (with_reducible apply Ext.drew) | (with_reducible apply Ext.drewN) | (with_reducible apply Ext.alloc)))) q0_5), (Ext.cell (w := wb) (by (repeat (first | (with_reducible exact Ext.refl _) | (with_reducible apply Ext.drew) | (with_reducible apply Ext.drewN) | (with_reducible apply Ext.alloc)))) q0_6)⟩
      clear hK K
      try simp only [Act.put, List.getElem_toArray, List.getElem_cons_zero, List.getElem_cons_succ, List.setIfInBounds_toArray, List.set_cons_zero, List.set_cons_succ]
      refine wpAnyH_ready (rs := [3, 8]) (by kernel_rfl) (by simp) ?_
      refine AllReadyH.cons rfl (fun K hK => ?_) (AllReadyH.cons rfl (fun K hK => ?_) AllReadyH.nil)
      · go_simp
        refine hK.out _ _ ?_ (fun hHeld => ?_)
        · exact ⟨(Ext.cell (w := wb) (by (repeat (first | (with_reducible exact Ext.refl _) | (with_reducible apply Ext.drew) | (with_reducible apply Ext.drewN) | (with_reducible apply Ext.alloc)))) q0_1), (Ext.cell (w := wb) (by (repeat (first | (with_reducible exact Ext.refl _) | (with_reducible apply Ext.drew) | (with_reducible apply Ext.drewN) | (with_reducible apply Ext.alloc)))) q0_2), (Ext.cell (w := wb) (by (repeat (first | (with_reducible exact Ext.refl _) | (with_reducible apply Ext.drew) | (with_reducible apply Ext.drewN) | (with_reducible apply Ext.alloc)))) q0_3), (Ext.cell (w := wb) (by (repeat (first | (with_reducible exact Ext.refl _) | (with_reducible apply Ext.drew) | (with_reducible apply Ext.drewN) | (with_reducible apply Ext.alloc)))) q0_4), (Ext.cell (w := wb) (by (repeat (first | (with_reducible exact Ext.refl _) | (with_reducible apply Ext.drew) | (with_reducible apply Ext.drewN) | (with_reducible apply Ext.alloc)))) q0_5), (Ext.cell (w := wb) (by (repeat (first | (with_reducible exact Ext.refl _) | (with_reducible apply Ext.drew) | (with_reducible apply Ext.drewN) | (with_reducible apply Ext.alloc)))) q0_6)⟩
        clear hK K
        try simp only [Act.put, List.getElem_toArray, List.getElem_cons_zero, List.getElem_cons_succ, List.setIfInBounds_toArray, List.set_cons_zero, List.set_cons_succ]
        refine wpAnyH_ready (rs := [8]) (by kernel_rfl) (by simp) ?_
        refine AllReadyH.cons rfl (fun K hK => ?_) AllReadyH.nil
        go_simp
        refine hK.out _ _ ?_ (fun hHeld => ?_)
        · exact ⟨(Ext.cell (w := wb) (by (repeat (first | (with_reducible exact Ext.refl _) | (with_reducible apply Ext.drew) | (with_reducible apply Ext.drewN) | (with_reducible apply Ext.alloc)))) q0_1), (Ext.cell (w := wb) (by (repeat (first | (with_reducible exact Ext.refl _) | (with_reducible apply Ext.drew) | (with_reducible apply Ext.drewN) | (with_reducible apply Ext.alloc)))) q0_2), (Ext.cell (w := wb) (by (repeat (first | (with_reducible exact Ext.refl _) | (with_reducible apply Ext.drew) | (with_reducible apply Ext.drewN) | (with_reducible apply Ext.alloc)))) q0_3), (Ext.cell (w := wb) (by (repeat (first | (with_reducible exact Ext.refl _) | (with_reducible apply Ext.drew) | (with_reducible apply Ext.drewN) | (with_reducible apply Ext.alloc)))) q0_4), (Ext.cell (w := wb) (by (repeat (first | (with_reducible exact Ext.refl _) | (with_reducible apply Ext.drew) | (with_reducible apply Ext.drewN) | (with_reducible apply Ext.alloc)))) q0_5), (Ext.cell (w := wb) (by (repeat (first | (with_reducible exact Ext.refl _) | (with_reducible apply Ext.drew) | (with_reducible apply Ext.drewN) | (with_reducible apply Ext.alloc)))) q0_6)⟩
        clear hK K
        try simp only [Act.put, List.getElem_toArray, List.getElem_cons_zero, List.getElem_cons_succ, List.setIfInBounds_toArray, List.set_cons_zero, List.set_cons_succ]
        refine wpAnyH_ready (rs := [9]) (by kernel_rfl) (by simp) ?_
        refine AllReadyH.cons rfl (fun K hK => ?_) AllReadyH.nil
        (refine step_app_st (by rfl) (.tmp 29) (.tmp 34) (by rfl) wb.heap.size (.slice (some ⟨(wb.heap.size + 1), 0, none⟩) 0 0) 0 [] (by rfl) ?_ gi' ci mI L (by rfl) HmI.out ?_ ?_ ?_ ?_; (focus (refine own0z ?_ ?_; (focus (repeat (first | (with_reducible exact blk_at rfl) | (with_reducible refine blk_at ?_; simp; done) | (with_reducible apply blk_drew) | (with_reducible apply blk_drewN) | (with_reducible apply blk_old)))); (focus (first | (exact Nat.le_refl _) | (exact Nat.le_succ _) | (simp; done) | (simp; omega))))); (focus (refine HRo2.out.ext ?_; (repeat (first | (with_reducible exact Ext.refl _) | (with_reducible apply Ext.drew) | (with_reducible apply Ext.drewN) | (with_reducible apply Ext.alloc))))); (focus omega); (focus (first | (exact Nat.le_refl _) | (simp; done) | (simp; omega))); intro v9 w9 o9 g9; have x9 : Hid (Ext wb w9) := Lib.hid (Ext.grown (by (repeat (first | (with_reducible exact Ext.refl _) | (with_reducible apply Ext.drew) | (with_reducible apply Ext.drewN) | (with_reducible apply Ext.alloc)))) g9 (by intro k' hk'; simp [Value.ownBlock] at hk'; omega)))
        refine hK.out _ _ ?_ (fun hHeld => ?_)
        · exact ⟨(Ext.cell (w := wb) (by (repeat (first | (with_reducible exact x9.out) | (with_reducible exact Ext.refl _) | (with_reducible apply Ext.drew) | (with_reducible apply Ext.drewN) | (with_reducible apply Ext.alloc)))) q0_1), (Ext.cell (w := wb) (by (repeat (first | (with_reducible exact x9.out) | (with_reducible exact Ext.refl _) | (with_reducible apply Ext.drew) | (with_reducible apply Ext.drewN) | (with_reducible apply Ext.alloc)))) q0_2), (Ext.cell (w := wb) (by (repeat (first | (with_reducible exact x9.out) | (with_reducible exact Ext.refl _) | (with_reducible apply Ext.drew) | (with_reducible apply Ext.drewN) | (with_reducible apply Ext.alloc)))) q0_3), (Ext.cell (w := wb) (by (repeat (first | (with_reducible exact x9.out) | (with_reducible exact Ext.refl _) | (with_reducible apply Ext.drew) | (with_reducible apply Ext.drewN) | (with_reducible apply Ext.alloc)))) q0_4), (Ext.cell (w := wb) (by (repeat (first | (with_reducible exact x9.out) | (with_reducible exact Ext.refl _) | (with_reducible apply Ext.drew) | (with_reducible apply Ext.drewN) | (with_reducible apply Ext.alloc)))) q0_5), (Ext.cell (w := wb) (by (repeat (first | (with_reducible exact x9.out) | (with_reducible exact Ext.refl _) | (with_reducible apply Ext.drew) | (with_reducible apply Ext.drewN) | (with_reducible apply Ext.alloc)))) q0_6)⟩
        clear hK K
        try simp only [Act.put, List.getElem_toArray, List.getElem_cons_zero, List.getElem_cons_succ, List.setIfInBounds_toArray, List.set_cons_zero, List.set_cons_succ]
        refine wpAnyH_ready (rs := [12]) (by kernel_rfl) (by simp) ?_
        refine AllReadyH.cons rfl (fun K hK => ?_) AllReadyH.nil
        (refine step_app_st (by rfl) (.tmp 35) (.tmp 37) (by rfl) wb.heap.size v9 (0 + mI) ([] ++ cells L) (by rfl) ?_ (wb.heap.size) 1 1 [S] (by rfl) rfl ?_ ?_ ?_ ?_; (focus (refine own_extz o9 ?_; (repeat (first | (with_reducible exact Ext.refl _) | (with_reducible apply Ext.drew) | (with_reducible apply Ext.drewN) | (with_reducible apply Ext.alloc))))); (focus (refine RO.of_blk1 (s := S) ((g9.block _ (by simp <;> omega) (by simp [Value.ownBlock] <;> omega)).trans ?_); (repeat (first | (with_reducible exact blk_at rfl) | (with_reducible refine blk_at ?_; simp; done) | (with_reducible apply blk_drew) | (with_reducible apply blk_drewN) | (with_reducible apply blk_old))))); (focus omega); (focus (have := x9.out.size; simp; omega)); intro v12 w12 o12 g12; have x12 : Hid (Ext wb w12) := Lib.hid (Ext.grown (by (repeat (first | (with_reducible exact x9.out) | (with_reducible exact Ext.refl _) | (with_reducible apply Ext.drew) | (with_reducible apply Ext.drewN) | (with_reducible apply Ext.alloc)))) g12 (fun k' hk' => (o9.lt k' hk').1)); obtain ⟨a12, n12, c12, hv12, hn12⟩ := (RV.of_own (l := L ++ [S]) (by rw [cells_app]; exact o12)).1.form; subst hv12; clear hn12; have H12 : Hid (RV w12 (.slice a12 n12 c12) (L ++ [S])) := Lib.hid (RV.of_own (l := L ++ [S]) (by rw [cells_app]; exact o12)).1; have p1 := x12.out.cell q0_1; have p2 := x12.out.cell qrow; have p3 := HFr.out _ x12.out; have p4 := x12.out.cell q0_2; have p5 := x12.out.cell q0_3; have p6 := x12.out.cell q0_4; have p7 := x12.out.cell q0_5; have p8 := x12.out.cell q0_6)
        refine hK.out _ _ ?_ (fun hHeld => ?_)
        · exact ⟨p1, p4, p5, p6, p7, p8⟩
        clear hK K
        try simp only [Act.put, List.getElem_toArray, List.getElem_cons_zero, List.getElem_cons_succ, List.setIfInBounds_toArray, List.set_cons_zero, List.set_cons_succ]
        refine wpAnyH_ready (rs := [13]) (by kernel_rfl) (by simp) ?_
        refine AllReadyH.cons rfl (fun K hK => ?_) AllReadyH.nil
        go_simp
        refine hK.out _ _ ?_ (fun hHeld => ?_)
        · exact ⟨p1, p4, p5, p6, p7, p8⟩
        clear hK K
        try simp only [Act.put, List.getElem_toArray, List.getElem_cons_zero, List.getElem_cons_succ, List.setIfInBounds_toArray, List.set_cons_zero, List.set_cons_succ]
        refine wpAnyH_ready (rs := [14]) (by kernel_rfl) (by simp) ?_
        refine AllReadyH.cons rfl (fun K hK => ?_) AllReadyH.nil
        go_simp
        refine hK.out _ _ ?_ (fun hHeld => ?_)
        · exact ⟨cell_set1 p1 (by simpa using HNe.out.1) _, cell_set1 p4 (by simpa using HNe.out.2) _, cell_set1 p5 (by simpa using HNe.out.2) _, cell_set1 p6 (by simpa using HNe.out.2) _, cell_set1 p7 (by simpa using HNe.out.2) _, cell_set1 p8 (by simpa using HNe.out.2) _⟩
        clear hK K
        try simp only [Act.put, List.getElem_toArray, List.getElem_cons_zero, List.getElem_cons_succ, List.setIfInBounds_toArray, List.set_cons_zero, List.set_cons_succ]
        refine wpAnyH_done (by kernel_rfl) ?_ _
        go_wp2_with fail
        go_meet
        case rel => exact HFin.out _ _ x12.out H12.out
      · go_simp
        refine hK.out _ _ ?_ (fun hHeld => ?_)
        · exact ⟨(Ext.cell (w := wb) (by (repeat (first | (with_reducible exact Ext.refl _) | (with_reducible apply Ext.drew) | (with_reducible apply Ext.drewN) | (with_reducible apply Ext.alloc)))) q0_1), (Ext.cell (w := wb) (by (repeat (first | (with_reducible exact Ext.refl _) | (with_reducible apply Ext.drew) | (with_reducible apply Ext.drewN) | (with_reducible apply Ext.alloc)))) q0_2), (Ext.cell (w := wb) (by (repeat (first | (with_reducible exact Ext.refl _) | (with_reducible apply Ext.drew) | (with_reducible apply Ext.drewN) | (with_reducible apply Ext.alloc)))) q0_3), (Ext.cell (w := wb) (by (repeat (first | (with_reducible exact Ext.refl _) | (with_reducible apply Ext.drew) | (with_reducible apply Ext.drewN) | (with_reducible apply Ext.alloc)))) q0_4), (Ext.cell (w := wb) (by (repeat (first | (with_reducible exact Ext.refl _) | (with_reducible apply Ext.drew) | (with_reducible apply Ext.drewN) | (with_reducible apply Ext.alloc)))) q0_5), (Ext.cell (w := wb) (by (repeat (first | (with_reducible exact Ext.refl _) | (with_reducible apply Ext.drew) | (with_reducible apply Ext.drewN) | (with_reducible apply Ext.alloc)))) q0_6)⟩
        clear hK K
        try simp only [Act.put, List.getElem_toArray, List.getElem_cons_zero, List.getElem_cons_succ, List.setIfInBounds_toArray, List.set_cons_zero, List.set_cons_succ]
        refine wpAnyH_ready (rs := [3]) (by kernel_rfl) (by simp) ?_
        refine AllReadyH.cons rfl (fun K hK => ?_) AllReadyH.nil
        go_simp
        refine hK.out _ _ ?_ (fun hHeld => ?_)
        · exact ⟨(Ext.cell (w := wb) (by (repeat (first | (with_reducible exact Ext.refl _) | (with_reducible apply Ext.drew) | (with_reducible apply Ext.drewN) | (with_reducible apply Ext.alloc)))) q0_1), (Ext.cell (w := wb) (by (repeat (first | (with_reducible exact Ext.refl _) | (with_reducible apply Ext.drew) | (with_reducible apply Ext.drewN) | (with_reducible apply Ext.alloc)))) q0_2), (Ext.cell (w := wb) (by (repeat (first | (with_reducible exact Ext.refl _) | (with_reducible apply Ext.drew) | (with_reducible apply Ext.drewN) | (with_reducible apply Ext.alloc)))) q0_3), (Ext.cell (w := wb) (by (repeat (first | (with_reducible exact Ext.refl _) | (with_reducible apply Ext.drew) | (with_reducible apply Ext.drewN) | (with_reducible apply Ext.alloc)))) q0_4), (Ext.cell (w := wb) (by (repeat (first | (with_reducible exact Ext.refl _) | (with_reducible apply Ext.drew) | (with_reducible apply Ext.drewN) | (with_reducible apply Ext.alloc)))) q0_5), (Ext.cell (w := wb) (by (repeat (first | (with_reducible exact Ext.refl _) | (with_reducible apply Ext.drew) | (with_reducible apply Ext.drewN) | (with_reducible apply Ext.alloc)))) q0_6)⟩
        clear hK K
        try simp only [Act.put, List.getElem_toArray, List.getElem_cons_zero, List.getElem_cons_succ, List.setIfInBounds_toArray, List.set_cons_zero, List.set_cons_succ]
        refine wpAnyH_ready (rs := [9]) (by kernel_rfl) (by simp) ?_
        refine AllReadyH.cons rfl (fun K hK => ?_) AllReadyH.nil
        (refine step_app_st (by rfl) (.tmp 29) (.tmp 34) (by rfl) wb.heap.size (.slice (some ⟨(wb.heap.size + 1), 0, none⟩) 0 0) 0 [] (by rfl) ?_ gi' ci mI L (by rfl) HmI.out ?_ ?_ ?_ ?_; (focus (refine own0z ?_ ?_; (focus (repeat (first | (with_reducible exact blk_at rfl) | (with_reducible refine blk_at ?_; simp; done) | (with_reducible apply blk_drew) | (with_reducible apply blk_drewN) | (with_reducible apply blk_old)))); (focus (first | (exact Nat.le_refl _) | (exact Nat.le_succ _) | (simp; done) | (simp; omega))))); (focus (refine HRo2.out.ext ?_; (repeat (first | (with_reducible exact Ext.refl _) | (with_reducible apply Ext.drew) | (with_reducible apply Ext.drewN) | (with_reducible apply Ext.alloc))))); (focus omega); (focus (first | (exact Nat.le_refl _) | (simp; done) | (simp; omega))); intro v9 w9 o9 g9; have x9 : Hid (Ext wb w9) := Lib.hid (Ext.grown (by (repeat (first | (with_reducible exact Ext.refl _) | (with_reducible apply Ext.drew) | (with_reducible apply Ext.drewN) | (with_reducible apply Ext.alloc)))) g9 (by intro k' hk'; simp [Value.ownBlock] at hk'; omega)))
        refine hK.out _ _ ?_ (fun hHeld => ?_)
        · exact ⟨(Ext.cell (w := wb) (by (repeat (first | (with_reducible exact x9.out) | (with_reducible exact Ext.refl _) | (with_reducible apply Ext.drew) | (with_reducible apply Ext.drewN) | (with_reducible apply Ext.alloc)))) q0_1), (Ext.cell (w := wb) (by (repeat (first | (with_reducible exact x9.out) | (with_reducible exact Ext.refl _) | (with_reducible apply Ext.drew) | (with_reducible apply Ext.drewN) | (with_reducible apply Ext.alloc)))) q0_2), (Ext.cell (w := wb) (by (repeat (first | (with_reducible exact x9.out) | (with_reducible exact Ext.refl _) | (with_reducible apply Ext.drew) | (with_reducible apply Ext.drewN) | (with_reducible apply Ext.alloc)))) q0_3), (Ext.cell (w := wb) (by (repeat (first | (with_reducible exact x9.out) | (with_reducible exact Ext.refl _) | (with_reducible apply Ext.drew) | (with_reducible apply Ext.drewN) | (with_reducible apply Ext.alloc)))) q0_4), (Ext.cell (w := wb) (by (repeat (first | (with_reducible exact x9.out) | (with_reducible exact Ext.refl _) | (with_reducible apply Ext.drew) | (with_reducible apply Ext.drewN) | (with_reducible apply Ext.alloc)))) q0_5), (Ext.cell (w := wb) (by (repeat (first | (with_reducible exact x9.out) | (with_reducible exact Ext.refl _) | (with_reducible apply Ext.drew) | (with_reducible apply Ext.drewN) | (with_reducible apply Ext.alloc)))) q0_6)⟩
        clear hK K
        try simp only [Act.put, List.getElem_toArray, List.getElem_cons_zero, List.getElem_cons_succ, List.setIfInBounds_toArray, List.set_cons_zero, List.set_cons_succ]
        refine wpAnyH_ready (rs := [12]) (by kernel_rfl) (by simp) ?_
        refine AllReadyH.cons rfl (fun K hK => ?_) AllReadyH.nil
        (refine step_app_st (by rfl) (.tmp 35) (.tmp 37) (by rfl) wb.heap.size v9 (0 + mI) ([] ++ cells L) (by rfl) ?_ (wb.heap.size) 1 1 [S] (by rfl) rfl ?_ ?_ ?_ ?_; (focus (refine own_extz o9 ?_; (repeat (first | (with_reducible exact Ext.refl _) | (with_reducible apply Ext.drew) | (with_reducible apply Ext.drewN) | (with_reducible apply Ext.alloc))))); (focus (refine RO.of_blk1 (s := S) ((g9.block _ (by simp <;> omega) (by simp [Value.ownBlock] <;> omega)).trans ?_); (repeat (first | (with_reducible exact blk_at rfl) | (with_reducible refine blk_at ?_; simp; done) | (with_reducible apply blk_drew) | (with_reducible apply blk_drewN) | (with_reducible apply blk_old))))); (focus omega); (focus (have := x9.out.size; simp; omega)); intro v12 w12 o12 g12; have x12 : Hid (Ext wb w12) := Lib.hid (Ext.grown (by (repeat (first | (with_reducible exact x9.out) | (with_reducible exact Ext.refl _) | (with_reducible apply Ext.drew) | (with_reducible apply Ext.drewN) | (with_reducible apply Ext.alloc)))) g12 (fun k' hk' => (o9.lt k' hk').1)); obtain ⟨a12, n12, c12, hv12, hn12⟩ := (RV.of_own (l := L ++ [S]) (by rw [cells_app]; exact o12)).1.form; subst hv12; clear hn12; have H12 : Hid (RV w12 (.slice a12 n12 c12) (L ++ [S])) := Lib.hid (RV.of_own (l := L ++ [S]) (by rw [cells_app]; exact o12)).1; have p1 := x12.out.cell q0_1; have p2 := x12.out.cell qrow; have p3 := HFr.out _ x12.out; have p4 := x12.out.cell q0_2; have p5 := x12.out.cell q0_3; have p6 := x12.out.cell q0_4; have p7 := x12.out.cell q0_5; have p8 := x12.out.cell q0_6)
        refine hK.out _ _ ?_ (fun hHeld => ?_)
        · exact ⟨p1, p4, p5, p6, p7, p8⟩
        clear hK K
        try simp only [Act.put, List.getElem_toArray, List.getElem_cons_zero, List.getElem_cons_succ, List.setIfInBounds_toArray, List.set_cons_zero, List.set_cons_succ]
        refine wpAnyH_ready (rs := [13]) (by kernel_rfl) (by simp) ?_
        refine AllReadyH.cons rfl (fun K hK => ?_) AllReadyH.nil
        go_simp
        refine hK.out _ _ ?_ (fun hHeld => ?_)
        · exact ⟨p1, p4, p5, p6, p7, p8⟩
        clear hK K
        try simp only [Act.put, List.getElem_toArray, List.getElem_cons_zero, List.getElem_cons_succ, List.setIfInBounds_toArray, List.set_cons_zero, List.set_cons_succ]
        refine wpAnyH_ready (rs := [14]) (by kernel_rfl) (by simp) ?_
        refine AllReadyH.cons rfl (fun K hK => ?_) AllReadyH.nil
        go_simp
        refine hK.out _ _ ?_ (fun hHeld => ?_)
        · exact ⟨cell_set1 p1 (by simpa using HNe.out.1) _, cell_set1 p4 (by simpa using HNe.out.2) _, cell_set1 p5 (by simpa using HNe.out.2) _, cell_set1 p6 (by simpa using HNe.out.2) _, cell_set1 p7 (by simpa using HNe.out.2) _, cell_set1 p8 (by simpa using HNe.out.2) _⟩
        clear hK K
        try simp only [Act.put, List.getElem_toArray, List.getElem_cons_zero, List.getElem_cons_succ, List.setIfInBounds_toArray, List.set_cons_zero, List.set_cons_succ]
        refine wpAnyH_done (by kernel_rfl) ?_ _
        go_wp2_with fail
        go_meet
        case rel => exact HFin.out _ _ x12.out H12.out
  case rest =>
    rw [HR.out] at hcut
    obtain ⟨hco, hq, hb5⟩ := hcut
    have hlen2 : (more rows I S).length = M := by unfold more; rw [List.length_set]; exact HLen.out
    have hmi := more_in HOk.out (show I < rows.length by rw [HLen.out]; exact hIM) HS1.out
    have hme := fun h0 h3 => more_err HOk.out (show I < rows.length by rw [HLen.out]; exact hIM) h0 HS1.out h3
    obtain ⟨cc2, hrr⟩ := hco.rr
    have k2 := fun w' (x : Ext wc w') => RCLoads_calls _ _ _ w' (hrr.ext x) hmi
    have k5 := fun w' (x : Ext wc w') => CCheck_calls _ _ _ w' (hrr.ext x)
    obtain ⟨E, hE⟩ : ∃ E, E = (cloads (more rows I S)).1 := ⟨_, rfl⟩
    rw [← hE] at hme k2 k5
    have d1 : wc.cell? ⟨w1.heap.size, 0, none⟩ = some (.slice (some ⟨gR, 0, none⟩) M cR) := by simp [World.cell?, hq]
    have d2 : wc.cell? ⟨w4.heap.size, 0, none⟩ = some (.int .u8 S.k) := by have := hb5.at.1; exact this
    have K2 := Lib.hid k2; have K5 := Lib.hid k5; have HD1b := Lib.hid (fun w' (x : Ext wc w') => x.cell d1); have HD2 := Lib.hid (fun w' (x : Ext wc w') => x.cell d2); have XC := Lib.hid hco.1; have Hme := Lib.hid hme
    have y1 := Lib.hid (Ext.refl wc)
    clear hco hq hb5 hlen2 hmi hme hrr k2 k5 hE d2 q0_1 qrow q0_2 q0_3 q0_4 q0_5 q0_6 r1 r2 t5
    go_wp2_with fail
    refine ((K2.out _ y1.out)).mono ?_
    rintro e w5 ⟨vl, cl, rfl, _, x⟩
    have X5 := Lib.hid (y1.out.trans x)
    clear d1
    have d1 := HD1b.out _ X5.out
    clear x
    go_wp2_with fail
    refine ((K5.out _ X5.out)).mono ?_
    rintro e w6 ⟨rfl, x⟩
    have X6 := Lib.hid (X5.out.trans x)
    clear d1
    have d2 := HD2.out _ X6.out
    clear x
    have hEE : (E != E) = false := by rw [bne, beq_iff_eq.2 rfl]; rfl
    have HK6 := Lib.hid (K6.out _ (XC.out.trans X6.out))
    by_cases h0 : I = 0
    · have u1 : ¬ (0 : Int) < (I : Int) := by omega
      have u2 : ¬ 0 < I := by omega
      clear h0 hIM
      go_wp2_with fail
      refine HK6.out.mono ?_
      rintro e w8 ⟨rfl, x⟩
      have X8 := Lib.hid (XC.out.trans (X6.out.trans x))
      clear x HK6
      go_wp2
      go_ret
      exact ⟨rfl, X8.out⟩
    · have u1 : (0 : Int) < (I : Int) := by omega
      have u2 : 0 < I := by omega
      by_cases h3 : S.k = 3
      · have u3 : (S.k != 3) = false := by rw [bne, beq_iff_eq.2 h3]; rfl
        clear h0 h3 hIM
        go_wp2_with fail
        refine HK6.out.mono ?_
        rintro e w8 ⟨rfl, x⟩
        have X8 := Lib.hid (XC.out.trans (X6.out.trans x))
        clear x HK6
        go_wp2
        go_ret
        exact ⟨rfl, X8.out⟩
      · have u3 : (S.k != 3) = true := by rw [bne, beq_eq_false_iff_ne.2 h3]; rfl
        have u4 : (E == 0) = false := beq_eq_false_iff_ne.2 (Hme.out u2 h3)
        clear h0 h3 hIM
        go_wp2_with fail
        refine HK6.out.mono ?_
        rintro e w8 ⟨rfl, x⟩
        have X8 := Lib.hid (XC.out.trans (X6.out.trans x))
        clear x HK6
        go_wp2
        go_ret
        exact ⟨rfl, X8.out⟩
end Go.Proofs.YtkolebjpeaigcaaDoor
