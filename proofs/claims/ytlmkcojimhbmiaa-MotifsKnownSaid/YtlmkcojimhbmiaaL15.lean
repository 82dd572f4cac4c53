/- Texts of this claim in one file: libraries and walks. -/
import Derived.Deep.QuietTactic
import Derived.Deep.RegionHeld3
import Derived.BigQuiet
import Derived.Test.YtlmkcojimhbmiaaL4
import Derived.Test.YtlmkcojimhbmiaaL9
import Derived.Test.YtlmkcojimhbmiaaL14
/- motifs.Mirror. -/
namespace Go.Proofs.Ytlmkcojimhbmiaa
set_option linter.unusedVariables false
set_option linter.unusedSimpArgs false
set_option maxRecDepth 8000
open Go Go.RowKit

/-- A chart in blocks that are new since W. -/
def NewR (W w : World) (v : Value) (rows : List (List St)) : Prop := ∀ w2 : World, (∀ b, W.heap.size ≤ b → b < w.heap.size → w2.heap[b]? = w.heap[b]?) → RR w2 v rows.length rows
theorem NewR.later {W w w' : World} {v : Value} {rows : List (List St)} (h : NewR W w v rows) (x : Ext w w') (hs : W.heap.size ≤ w.heap.size) : NewR W w' v rows := fun w2 hb =>
  h w2 (fun b h1 h2 => (hb b h1 (Nat.lt_of_lt_of_le h2 x.size)).trans (Below.block x b h2))
theorem NewR.put3 {W w : World} {g : Nat} {v u0 u1 u2 : Value} {rows : List (List St)} (h : NewR W w v rows) (hg : g < W.heap.size) : RR (((w.setCell ⟨g, 0, none⟩ u0).setCell ⟨g, 1, none⟩ u1).setCell ⟨g, 2, none⟩ u2) v rows.length rows :=
  h _ (fun b h1 h2 => by
    have hne : b ≠ g := by omega
    rw [Deep.blk_setCell_other _ _ _ _ hne, Deep.blk_setCell_other _ _ _ _ hne, Deep.blk_setCell_other _ _ _ _ hne])
theorem blk_put3 {w : World} {b : Nat} {x y z : Value} {t : TypeId} (h : w.heap[b]? = some (.cells #[x, y, z] t (0, 0))) (u0 u1 u2 : Value) : (((w.setCell ⟨b, 0, none⟩ u0).setCell ⟨b, 1, none⟩ u1).setCell ⟨b, 2, none⟩ u2).heap[b]? = some (.cells #[u0, u1, u2] t (0, 0)) := by
  have h1 : ∀ (w : World) (x y z u : Value), w.heap[b]? = some (.cells #[x, y, z] t (0, 0)) → (w.setCell ⟨b, 0, none⟩ u).heap[b]? = some (.cells #[u, y, z] t (0, 0)) := fun w x y z u h => by
    have hlt := lt_of_block h
    have h' : w.heap[b] = .cells #[x, y, z] t (0, 0) := by simpa [Array.getElem?_eq_getElem hlt] using h
    show (w.heap.modify b _)[b]? = _
    rw [Array.getElem?_eq_getElem (by simpa using hlt), Array.getElem_modify_self, h']
    rfl
  have h2 : ∀ (w : World) (x y z u : Value), w.heap[b]? = some (.cells #[x, y, z] t (0, 0)) → (w.setCell ⟨b, 1, none⟩ u).heap[b]? = some (.cells #[x, u, z] t (0, 0)) := fun w x y z u h => by
    have hlt := lt_of_block h
    have h' : w.heap[b] = .cells #[x, y, z] t (0, 0) := by simpa [Array.getElem?_eq_getElem hlt] using h
    show (w.heap.modify b _)[b]? = _
    rw [Array.getElem?_eq_getElem (by simpa using hlt), Array.getElem_modify_self, h']
    rfl
  have h3 : ∀ (w : World) (x y z u : Value), w.heap[b]? = some (.cells #[x, y, z] t (0, 0)) → (w.setCell ⟨b, 2, none⟩ u).heap[b]? = some (.cells #[x, y, u] t (0, 0)) := fun w x y z u h => by
    have hlt := lt_of_block h
    have h' : w.heap[b] = .cells #[x, y, z] t (0, 0) := by simpa [Array.getElem?_eq_getElem hlt] using h
    show (w.heap.modify b _)[b]? = _
    rw [Array.getElem?_eq_getElem (by simpa using hlt), Array.getElem_modify_self, h']
    rfl
  exact h3 _ _ _ _ _ (h2 _ _ _ _ _ (h1 _ _ _ _ _ h))
/-- A motif is returned. -/
def RetMM (w0 : World) (L T R : List (List St)) (e : Ending) (w' : World) : Prop := ∃ u0 u1 u2, e = .returned (.agg #[u0, u1, u2]) ∧ RR w' u0 L.length L ∧ RR w' u1 T.length T ∧ RR w' u2 R.length R ∧ Ext w0 w'
set_option maxHeartbeats 8000000 in
theorem MMirror_calls (u0 u1 u2 : Value) (c0 c1 c2 : Nat) (L T R : List (List St)) (w : World) (h0 : RR w u0 c0 L) (h1 : RR w u1 c1 T) (h2 : RR w u2 c2 R)
    (l0 : L.length ≤ 1000 ∧ ∀ i, i < L.length → (sw L i).length ≤ 1000) (l1 : T.length ≤ 1000 ∧ ∀ i, i < T.length → (sw T i).length ≤ 1000) (l2 : R.length ≤ 1000 ∧ ∀ i, i < R.length → (sw R i).length ≤ 1000) :
    Calls Try.prog 24 #[.agg #[u0, u1, u2]] w (RetMM w (mirC R) (mirC T) (mirC L)) := by
  have k0 := fun w' (x : Ext w w') => CMirror2_calls _ _ _ w' (h0.ext x) l0.1 l0.2
  have k1 := fun w' (x : Ext w w') => CMirror2_calls _ _ _ w' (h1.ext x) l1.1 l1.2
  have k2 := fun w' (x : Ext w w') => CMirror2_calls _ _ _ w' (h2.ext x) l2.1 l2.2
  obtain ⟨a0, n0, rfl, d1, d2, d3, d4⟩ := h0.open
  obtain ⟨a1, n1, rfl, d5, d6, d7, d8⟩ := h1.open
  obtain ⟨a2, n2, rfl, d9, d10, d11, d12⟩ := h2.open
  clear d1 d2 d3 d4 d5 d6 d7 d8 d9 d10 d11 d12
  obtain ⟨W, hW⟩ : ∃ W, W = w.alloc (.cells #[.slice a0 n0 c0, .slice a1 n1 c1, .slice a2 n2 c2] 26) := ⟨_, rfl⟩
  have xW : Ext w W := by rw [hW]; exact (Ext.refl w).alloc _
  have hWs : W.heap.size = w.heap.size + 1 := by rw [hW]; simp
  have hbx : W.heap[w.heap.size]? = some (Obj.cells #[.slice a0 n0 c0, .slice a1 n1 c1, .slice a2 n2 c2] 26 (0, 0)) := by rw [hW]; exact blk_at rfl
  have b0 : W.cell? ⟨w.heap.size, 0, none⟩ = some (.slice a0 n0 c0) := by simp [World.cell?, hbx]
  have b1 : W.cell? ⟨w.heap.size, 1, none⟩ = some (.slice a1 n1 c1) := by simp [World.cell?, hbx]
  have b2 : W.cell? ⟨w.heap.size, 2, none⟩ = some (.slice a2 n2 c2) := by simp [World.cell?, hbx]
  have HB0 := Lib.hid (fun w' (x : Ext W w') => x.cell b0); have HB1 := Lib.hid (fun w' (x : Ext W w') => x.cell b1); have HB2 := Lib.hid (fun w' (x : Ext W w') => x.cell b2)
  obtain ⟨W2, hW2⟩ : ∃ W2, W2 = W.alloc (.cells #[.slice none 0 0, .slice none 0 0, .slice none 0 0] 26) := ⟨_, rfl⟩
  have x2 : Ext W W2 := by rw [hW2]; exact (Ext.refl W).alloc _
  have hres : W2.heap[w.heap.size + 1]? = some (Obj.cells #[.slice none 0 0, .slice none 0 0, .slice none 0 0] 26 (0, 0)) := by rw [hW2]; exact blk_at hWs.symm
  have hlt := lt_of_block hres
  have HRes := Lib.hid (fun w' (x : Ext W2 w') => x.block hres)
  have HFin := Lib.hid (show ∀ w' v0 v1 v2, Ext W2 w' → NewR W2 w' v0 (mirC L) → NewR W2 w' v1 (mirC T) → NewR W2 w' v2 (mirC R) → RetMM w (mirC R) (mirC T) (mirC L) (.returned (.agg #[v2, v1, v0])) (((w'.setCell ⟨w.heap.size + 1, 0, none⟩ v2).setCell ⟨w.heap.size + 1, 1, none⟩ v1).setCell ⟨w.heap.size + 1, 2, none⟩ v0) from fun w' v0 v1 v2 x g0 g1 g2 =>
    ⟨v2, v1, v0, rfl, g2.put3 hlt, g1.put3 hlt, g0.put3 hlt, (((xW.trans (x2.trans x)).setCell (Nat.le_succ _) _).setCell (Nat.le_succ _) _).setCell (Nat.le_succ _) _⟩)
  have K0 := Lib.hid (fun w' (x : Ext W w') => k0 w' (xW.trans x)); have K1 := Lib.hid (fun w' (x : Ext W w') => k1 w' (xW.trans x)); have K2 := Lib.hid (fun w' (x : Ext W w') => k2 w' (xW.trans x))
  have X2 := Lib.hid x2; have HWs := Lib.hid hWs; have HW := Lib.hid hW; have HW2 := Lib.hid hW2
  have Y0 : Hid (Ext W2 W2) := Lib.hid (Ext.refl _)
  have q0_1 := x2.cell b0; have q0_2 := x2.cell b1; have q0_3 := x2.cell b2
  clear h0 h1 h2 k0 k1 k2 l0 l1 l2 hW hW2 xW x2 hWs hbx hres hlt b0 b1 b2
  go_enter Try.func24, Try.ntmps24
  go_upto_region 1 with fail
  rw [← HW.out, ← HW2.out]
  refine wp_region_held_drew (S := fun w' => w'.cell? ⟨w.heap.size, 0, Option.none⟩ = some (.slice a0 n0 c0) ∧ w'.cell? ⟨w.heap.size, 1, Option.none⟩ = some (.slice a1 n1 c1) ∧ w'.cell? ⟨w.heap.size, 2, Option.none⟩ = some (.slice a2 n2 c2)) (by kernel_rfl) ?_ (fun hHeld => ?_)
  · exact ⟨q0_1, q0_2, q0_3⟩
  refine wpAnyH_take (i := 0) (v := ?va79_0) rfl (by kernel_rfl) (by kernel_rfl) (by kernel_rfl) (fun _ _ _ h => h) (Or.inl ⟨by rfl, fun w hSw => ?ti79_0⟩) (by assumption) ?rest79_0
  case ti79_0 => ((try dsimp only at hSw); go_simp; (first | done | with_reducible rfl))
  try simp only [Act.put, List.getElem_toArray, List.getElem_cons_zero, List.getElem_cons_succ, List.setIfInBounds_toArray, List.set_cons_zero, List.set_cons_succ]
  refine wpAnyH_take (i := 1) (v := ?va82_1) rfl (by kernel_rfl) (by kernel_rfl) (by kernel_rfl) (fun _ _ _ h => h) (Or.inl ⟨by rfl, fun w hSw => ?ti82_1⟩) (by assumption) ?rest82_1
  case ti82_1 => ((try dsimp only at hSw); go_simp; (first | done | with_reducible rfl))
  try simp only [Act.put, List.getElem_toArray, List.getElem_cons_zero, List.getElem_cons_succ, List.setIfInBounds_toArray, List.set_cons_zero, List.set_cons_succ]
  refine wpAnyH_take (i := 3) (v := ?va85_3) rfl (by kernel_rfl) (by kernel_rfl) (by kernel_rfl) (fun _ _ _ h => h) (Or.inl ⟨by rfl, fun w hSw => ?ti85_3⟩) (by assumption) ?rest85_3
  case ti85_3 => ((try dsimp only at hSw); go_simp; (first | done | with_reducible rfl))
  try simp only [Act.put, List.getElem_toArray, List.getElem_cons_zero, List.getElem_cons_succ, List.setIfInBounds_toArray, List.set_cons_zero, List.set_cons_succ]
  refine wpAnyH_take (i := 4) (v := ?va88_4) rfl (by kernel_rfl) (by kernel_rfl) (by kernel_rfl) (fun _ _ _ h => h) (Or.inl ⟨by rfl, fun w hSw => ?ti88_4⟩) (by assumption) ?rest88_4
  case ti88_4 => ((try dsimp only at hSw); go_simp; (first | done | with_reducible rfl))
  try simp only [Act.put, List.getElem_toArray, List.getElem_cons_zero, List.getElem_cons_succ, List.setIfInBounds_toArray, List.set_cons_zero, List.set_cons_succ]
  refine wpAnyH_take (i := 6) (v := ?va91_6) rfl (by kernel_rfl) (by kernel_rfl) (by kernel_rfl) (fun _ _ _ h => h) (Or.inl ⟨by rfl, fun w hSw => ?ti91_6⟩) (by assumption) ?rest91_6
  case ti91_6 => ((try dsimp only at hSw); go_simp; (first | done | with_reducible rfl))
  try simp only [Act.put, List.getElem_toArray, List.getElem_cons_zero, List.getElem_cons_succ, List.setIfInBounds_toArray, List.set_cons_zero, List.set_cons_succ]
  refine wpAnyH_take (i := 7) (v := ?va94_7) rfl (by kernel_rfl) (by kernel_rfl) (by kernel_rfl) (fun _ _ _ h => h) (Or.inl ⟨by rfl, fun w hSw => ?ti94_7⟩) (by assumption) ?rest94_7
  case ti94_7 => ((try dsimp only at hSw); go_simp; (first | done | with_reducible rfl))
  try simp only [Act.put, List.getElem_toArray, List.getElem_cons_zero, List.getElem_cons_succ, List.setIfInBounds_toArray, List.set_cons_zero, List.set_cons_succ]
  refine wpAnyH_ready (rs := [2]) (by kernel_rfl) (by simp) ?_
  refine AllReadyH.cons rfl (fun K hK => ?_) AllReadyH.nil
  go_simp
  refine (K2.out _ (X2.out.trans (Y0.out.trans (by (repeat (first | (with_reducible exact Ext.refl _) | (with_reducible apply Ext.drew) | (with_reducible apply Ext.drewN) | (with_reducible apply Ext.alloc))))))).mono ?_
  intro e w1 hh
  obtain ⟨v, rfl, hr, x, hf⟩ := hh
  obtain ⟨p2, q2, hv, m1, m2, m3, m4⟩ := hr.open
  subst hv
  clear m1 m2 m3 m4
  have Y1 : Hid (Ext W2 w1) := Lib.hid ((Y0.out.trans (by (repeat (first | (with_reducible exact Ext.refl _) | (with_reducible apply Ext.drew) | (with_reducible apply Ext.drewN) | (with_reducible apply Ext.alloc))))).trans x)
  have R2 : Hid (NewR W2 w1 (.slice p2 q2 _) (mirC R)) := Lib.hid (fun w2 hb => hf w2 (fun b h1 h2 => hb b (Nat.le_trans (Ext.size (Y0.out.trans (by (repeat (first | (with_reducible exact Ext.refl _) | (with_reducible apply Ext.drew) | (with_reducible apply Ext.drewN) | (with_reducible apply Ext.alloc)))))) h1) h2))
  clear hr hf
  go_simp
  refine hK.out _ _ ?_ (fun hHeld => ?_)
  · exact ⟨HB0.out _ (X2.out.trans Y1.out), HB1.out _ (X2.out.trans Y1.out), HB2.out _ (X2.out.trans Y1.out)⟩
  clear hK K x
  try simp only [Act.put, List.getElem_toArray, List.getElem_cons_zero, List.getElem_cons_succ, List.setIfInBounds_toArray, List.set_cons_zero, List.set_cons_succ]
  refine wpAnyH_ready (rs := [5]) (by kernel_rfl) (by simp) ?_
  refine AllReadyH.cons rfl (fun K hK => ?_) AllReadyH.nil
  go_simp
  refine (K1.out _ (X2.out.trans (Y1.out.trans (by (repeat (first | (with_reducible exact Ext.refl _) | (with_reducible apply Ext.drew) | (with_reducible apply Ext.drewN) | (with_reducible apply Ext.alloc))))))).mono ?_
  intro e w2 hh
  obtain ⟨v, rfl, hr, x, hf⟩ := hh
  obtain ⟨p1, q1, hv, m1, m2, m3, m4⟩ := hr.open
  subst hv
  clear m1 m2 m3 m4
  have Y2 : Hid (Ext W2 w2) := Lib.hid ((Y1.out.trans (by (repeat (first | (with_reducible exact Ext.refl _) | (with_reducible apply Ext.drew) | (with_reducible apply Ext.drewN) | (with_reducible apply Ext.alloc))))).trans x)
  replace R2 := Lib.hid (R2.out.later (show Ext w1 w2 from Ext.trans (by (repeat (first | (with_reducible exact Ext.refl _) | (with_reducible apply Ext.drew) | (with_reducible apply Ext.drewN) | (with_reducible apply Ext.alloc)))) x) Y1.out.size)
  have R1 : Hid (NewR W2 w2 (.slice p1 q1 _) (mirC T)) := Lib.hid (fun w2 hb => hf w2 (fun b h1 h2 => hb b (Nat.le_trans (Ext.size (Y1.out.trans (by (repeat (first | (with_reducible exact Ext.refl _) | (with_reducible apply Ext.drew) | (with_reducible apply Ext.drewN) | (with_reducible apply Ext.alloc)))))) h1) h2))
  clear hr hf
  go_simp
  refine hK.out _ _ ?_ (fun hHeld => ?_)
  · exact ⟨HB0.out _ (X2.out.trans Y2.out), HB1.out _ (X2.out.trans Y2.out), HB2.out _ (X2.out.trans Y2.out)⟩
  clear hK K x
  try simp only [Act.put, List.getElem_toArray, List.getElem_cons_zero, List.getElem_cons_succ, List.setIfInBounds_toArray, List.set_cons_zero, List.set_cons_succ]
  refine wpAnyH_ready (rs := [8]) (by kernel_rfl) (by simp) ?_
  refine AllReadyH.cons rfl (fun K hK => ?_) AllReadyH.nil
  go_simp
  refine (K0.out _ (X2.out.trans (Y2.out.trans (by (repeat (first | (with_reducible exact Ext.refl _) | (with_reducible apply Ext.drew) | (with_reducible apply Ext.drewN) | (with_reducible apply Ext.alloc))))))).mono ?_
  intro e w3 hh
  obtain ⟨v, rfl, hr, x, hf⟩ := hh
  obtain ⟨p0, q0, hv, m1, m2, m3, m4⟩ := hr.open
  subst hv
  clear m1 m2 m3 m4
  have Y3 : Hid (Ext W2 w3) := Lib.hid ((Y2.out.trans (by (repeat (first | (with_reducible exact Ext.refl _) | (with_reducible apply Ext.drew) | (with_reducible apply Ext.drewN) | (with_reducible apply Ext.alloc))))).trans x)
  replace R2 := Lib.hid (R2.out.later (show Ext w2 w3 from Ext.trans (by (repeat (first | (with_reducible exact Ext.refl _) | (with_reducible apply Ext.drew) | (with_reducible apply Ext.drewN) | (with_reducible apply Ext.alloc)))) x) Y2.out.size)
  replace R1 := Lib.hid (R1.out.later (show Ext w2 w3 from Ext.trans (by (repeat (first | (with_reducible exact Ext.refl _) | (with_reducible apply Ext.drew) | (with_reducible apply Ext.drewN) | (with_reducible apply Ext.alloc)))) x) Y2.out.size)
  have R0 : Hid (NewR W2 w3 (.slice p0 q0 _) (mirC L)) := Lib.hid (fun w2 hb => hf w2 (fun b h1 h2 => hb b (Nat.le_trans (Ext.size (Y2.out.trans (by (repeat (first | (with_reducible exact Ext.refl _) | (with_reducible apply Ext.drew) | (with_reducible apply Ext.drewN) | (with_reducible apply Ext.alloc)))))) h1) h2))
  clear hr hf
  go_simp
  refine hK.out _ _ ?_ (fun hHeld => ?_)
  · exact ⟨HB0.out _ (X2.out.trans Y3.out), HB1.out _ (X2.out.trans Y3.out), HB2.out _ (X2.out.trans Y3.out)⟩
  clear hK K x
  try simp only [Act.put, List.getElem_toArray, List.getElem_cons_zero, List.getElem_cons_succ, List.setIfInBounds_toArray, List.set_cons_zero, List.set_cons_succ]
  refine wpAnyH_ready (rs := [9]) (by kernel_rfl) (by simp) ?_
  refine AllReadyH.cons rfl (fun K hK => ?_) AllReadyH.nil
  go_simp
  refine hK.out _ _ ?_ (fun hHeld => ?_)
  · exact ⟨HB0.out _ (X2.out.trans Y3.out), HB1.out _ (X2.out.trans Y3.out), HB2.out _ (X2.out.trans Y3.out)⟩
  clear hK K
  try simp only [Act.put, List.getElem_toArray, List.getElem_cons_zero, List.getElem_cons_succ, List.setIfInBounds_toArray, List.set_cons_zero, List.set_cons_succ]
  refine wpAnyH_ready (rs := [10]) (by kernel_rfl) (by simp) ?_
  refine AllReadyH.cons rfl (fun K hK => ?_) AllReadyH.nil
  have hR := HRes.out _ Y3.out
  have g0 : w3.cell? ⟨w.heap.size + 1, 0, none⟩ = some (.slice none 0 0) := by simp [World.cell?, hR]
  have g1 : w3.cell? ⟨w.heap.size + 1, 1, none⟩ = some (.slice none 0 0) := by simp [World.cell?, hR]
  have g2 : w3.cell? ⟨w.heap.size + 1, 2, none⟩ = some (.slice none 0 0) := by simp [World.cell?, hR]
  have f0 : w3.frozen? ⟨w.heap.size + 1, 0, none⟩ = false := by simp [World.frozen?, hR]
  have f1 : w3.frozen? ⟨w.heap.size + 1, 1, none⟩ = false := by simp [World.frozen?, hR]
  have f2 : w3.frozen? ⟨w.heap.size + 1, 2, none⟩ = false := by simp [World.frozen?, hR]
  go_simp
  refine hK.out _ _ ?_ (fun hHeld => ?_)
  · exact ⟨HB0.out _ ((((X2.out.trans Y3.out).setCell (by rw [HWs.out]; exact Nat.le_refl _) _).setCell (by rw [HWs.out]; exact Nat.le_refl _) _).setCell (by rw [HWs.out]; exact Nat.le_refl _) _), HB1.out _ ((((X2.out.trans Y3.out).setCell (by rw [HWs.out]; exact Nat.le_refl _) _).setCell (by rw [HWs.out]; exact Nat.le_refl _) _).setCell (by rw [HWs.out]; exact Nat.le_refl _) _), HB2.out _ ((((X2.out.trans Y3.out).setCell (by rw [HWs.out]; exact Nat.le_refl _) _).setCell (by rw [HWs.out]; exact Nat.le_refl _) _).setCell (by rw [HWs.out]; exact Nat.le_refl _) _)⟩
  clear hK K
  try simp only [Act.put, List.getElem_toArray, List.getElem_cons_zero, List.getElem_cons_succ, List.setIfInBounds_toArray, List.set_cons_zero, List.set_cons_succ]
  refine wpAnyH_done (by kernel_rfl) ?_ _
  have HF := Lib.hid (HFin.out w3 _ _ _ Y3.out R0.out R1.out R2.out)
  have HP := Lib.hid (blk_put3 hR (.slice p2 q2 (mirC R).length) (.slice p1 q1 (mirC T).length) (.slice p0 q0 (mirC L).length))
  clear hR g0 g1 g2 f0 f1 f2 q0_1 q0_2 q0_3
  go_wp2
  have hP := HP.out
  exact bodyPost_ret (v := .agg #[.slice p2 q2 (mirC R).length, .slice p1 q1 (mirC T).length, .slice p0 q0 (mirC L).length]) (by simp [results, Try.results24, go_sem, World.cell?, hP]) rfl HF.out
end Go.Proofs.Ytlmkcojimhbmiaa
