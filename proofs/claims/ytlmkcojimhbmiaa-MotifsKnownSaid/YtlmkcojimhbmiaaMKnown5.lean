/- Texts of this claim in one file: libraries and walks. -/
import Derived.Deep.CutRange
import Derived.Deep.CutBlock
import Derived.Test.YtlmkcojimhbmiaaMKnown1
import Derived.Test.YtlmkcojimhbmiaaMKnown4
/- MotifsAssociate: the walk. -/
namespace Go.Proofs.Ytlmkcojimhbmiaa
set_option linter.unusedVariables false
set_option linter.unusedSimpArgs false
set_option maxRecDepth 20000
open Go Go.RowKit

theorem blk_setAt {w : World} {b o : Nat} {cs : Array Value} {t : TypeId} (h : w.heap[b]? = some (.cells cs t (0, 0))) (u : Value) : (w.setCell ⟨b, o, none⟩ u).heap[b]? = some (.cells (cs.setIfInBounds o u) t (0, 0)) := by
  have hlt := lt_of_block h
  have h' : w.heap[b] = .cells cs t (0, 0) := by simpa [Array.getElem?_eq_getElem hlt] using h
  show (w.heap.modify b _)[b]? = _
  rw [Array.getElem?_eq_getElem (by simpa using hlt), Array.getElem_modify_self, h']
  rfl
theorem blk_set3 {w : World} {g b : Nat} {u0 u1 u2 : Value} (h : b ≠ g) : (((w.setCell ⟨g, 0, none⟩ u0).setCell ⟨g, 1, none⟩ u1).setCell ⟨g, 2, none⟩ u2).heap[b]? = w.heap[b]? := by
  rw [Deep.blk_setCell_other _ _ _ _ h, Deep.blk_setCell_other _ _ _ _ h, Deep.blk_setCell_other _ _ _ _ h]
/-- Two motifs of the same height have been made. -/
def AS (V : World) (ht : Int) (w : World) (x y : Value) : Prop :=
  ∃ b5 b6 a0 m0 d0 a1 m1 d1 a2 m2 d2 a3 m3 d3 a4 m4 d4 a5 m5 d5 L T R L' T' R', x = .pointer (some ⟨b5, 0, none⟩) ∧ y = .pointer (some ⟨b6, 0, none⟩) ∧
    w.heap[b5]? = some (.cells #[.slice a0 m0 d0, .slice a1 m1 d1, .slice a2 m2 d2] 26 (0, 0)) ∧ w.heap[b6]? = some (.cells #[.slice a3 m3 d3, .slice a4 m4 d4, .slice a5 m5 d5] 26 (0, 0)) ∧
    CO V w (.slice a0 m0 d0) L ∧ CO V w (.slice a1 m1 d1) T ∧ CO V w (.slice a2 m2 d2) R ∧ CO V w (.slice a3 m3 d3) L' ∧ CO V w (.slice a4 m4 d4) T' ∧ CO V w (.slice a5 m5 d5) R' ∧ MOK ht 3 L T R ∧ MOK ht 3 L' T' R'
theorem CO.mk {w wr : World} {v : Value} {rows : List (List St)} (h : CO w wr v rows) : ∃ a n c, v = .slice a n c ∧ RR wr v c rows := by
  obtain ⟨c, h1⟩ := h.rr
  obtain ⟨a, n, hv, _⟩ := h1.open
  exact ⟨a, n, c, hv, h1⟩
theorem bes2_c {w : World} {g : Nat} (hg : g = w.heap.size) {u0 u1 : Value} {c0 c1 : Nat} {A B P : List (List St)} {E : Int} (h0 : RR w u0 c0 A) (h1 : RR w u1 c1 B) (bA : Bd A) (bB : Bd B) (hE : besE [A, B] = E) (hP : besR [A, B] = P) :
    Calls Try.prog 19 #[.slice (some ⟨g, 0, none⟩) 2 2] (w.alloc (.cells #[u0, u1] 24)) (RetCE w P E) := by
  have x : Ext w (w.alloc (.cells #[u0, u1] 24)) := (Ext.refl w).alloc _
  refine (Beside_calls _ 2 [A, B] _ (BB.lit2 (blk_at hg) (h0.ext x) (h1.ext x)) (by simp) (fun k hk => ?_)).mono ?_
  · have hk' : k < 2 := hk
    rcases (show k = 0 ∨ k = 1 by omega) with rfl | rfl
    · exact bA.2
    · exact bB.2
  · rintro e w' ⟨v, rfl, h3, h4⟩
    rw [hE, hP] at *
    exact ⟨v, rfl, h3, x.trans h4⟩
theorem bes3_c {w : World} {g : Nat} (hg : g = w.heap.size) {u0 u1 u2 : Value} {c0 c1 c2 : Nat} {A B C P : List (List St)} {E : Int} (h0 : RR w u0 c0 A) (h1 : RR w u1 c1 B) (h2 : RR w u2 c2 C) (bA : Bd A) (bB : Bd B) (bC : Bd C) (hE : besE [A, B, C] = E) (hP : besR [A, B, C] = P) :
    Calls Try.prog 19 #[.slice (some ⟨g, 0, none⟩) 3 3] (w.alloc (.cells #[u0, u1, u2] 24)) (RetCE w P E) := by
  have x : Ext w (w.alloc (.cells #[u0, u1, u2] 24)) := (Ext.refl w).alloc _
  refine (Beside_calls _ 3 [A, B, C] _ (BB.lit3 (blk_at hg) (h0.ext x) (h1.ext x) (h2.ext x)) (by simp) (fun k hk => ?_)).mono ?_
  · have hk' : k < 3 := hk
    rcases (show k = 0 ∨ k = 1 ∨ k = 2 by omega) with rfl | rfl | rfl
    · exact bA.2
    · exact bB.2
    · exact bC.2
  · rintro e w' ⟨v, rfl, h3, h4⟩
    rw [hE, hP] at *
    exact ⟨v, rfl, h3, x.trans h4⟩
theorem abo2_c {w : World} {g : Nat} (hg : g = w.heap.size) {u0 u1 : Value} {c0 c1 : Nat} {A B P : List (List St)} {E : Int} (h0 : RR w u0 c0 A) (h1 : RR w u1 c1 B) (hE : aboE [A, B] = E) (hP : aboR [A, B] = P) :
    Calls Try.prog 21 #[.slice (some ⟨g, 0, none⟩) 2 2] (w.alloc (.cells #[u0, u1] 24)) (RetCE w P E) := by
  have x : Ext w (w.alloc (.cells #[u0, u1] 24)) := (Ext.refl w).alloc _
  refine (Above_calls _ 2 [A, B] _ (BB.lit2 (blk_at hg) (h0.ext x) (h1.ext x))).mono ?_
  rintro e w' ⟨v, rfl, h3, h4⟩
  rw [hE, hP] at *
  exact ⟨v, rfl, h3, x.trans h4⟩
theorem Bd.bes (bs : List (List (List St))) : Bd (besR bs) := by
  unfold besR
  by_cases e : besE bs = 0
  · rw [if_pos e]
    by_cases hb : bs = []
    · subst hb; exact ⟨by simp [besRows, bw], fun i hi => by simp [besRows, bw] at hi⟩
    unfold besE at e
    rw [if_neg hb] at e
    by_cases h5 : bs.any (fun b => decide (b.length ≠ (bw bs 0).length)) = true
    · rw [if_pos h5] at e; exact absurd e (by decide)
    rw [if_neg h5] at e
    by_cases h3 : 64 < bs.length ∨ 31 < (bw bs 0).length
    · rw [if_pos h3] at e; exact absurd e (by decide)
    rw [if_neg h3] at e
    by_cases hw : (besRows bs).any (fun r => decide (16 < r.length)) = true
    · rw [if_pos hw] at e; exact absurd e (by decide)
    refine ⟨by rw [besRows_len]; omega, fun i hi => ?_⟩
    by_cases h16 : 16 < (sw (besRows bs) i).length
    · exact absurd (List.any_eq_true.2 ⟨_, sw_mem hi, decide_eq_true h16⟩) hw
    · omega
  · rw [if_neg e]; exact Bd.nil
theorem Bd.app {A B : List (List St)} (hA : Bd A) (hB : Bd B) (h : (A ++ B).length ≤ 1000) : Bd (A ++ B) := by
  refine ⟨h, fun i hi => ?_⟩
  by_cases e : i < A.length
  · have : sw (A ++ B) i = sw A i := by unfold sw; simp [List.getD, List.getElem?_append_left e]
    rw [this]; exact hA.2 i e
  · have : sw (A ++ B) i = sw B (i - A.length) := by unfold sw; simp [List.getD, List.getElem?_append_right (by omega : A.length ≤ i)]
    rw [this]; exact hB.2 _ (by rw [List.length_append] at hi; omega)
set_option maxHeartbeats 16000000 in
theorem MotifsAssociate_walk (ht ed wL wT wR : Int) (uL uT uR : Value) (cL cT cR : Nat) (xL xT xR : List (List Int)) (ht2 ed2 vL vT vR : Int) (uL2 uT2 uR2 : Value) (cL2 cT2 cR2 : Nat) (yL yT yR : List (List Int)) (w : World) (hh : 0 ≤ ht ∧ ht ≤ 255)
    (hL : ISS .u8 w uL cL xL) (hT : ISS .u8 w uT cT xT) (hR : ISS .u8 w uR cR xR) (bL : 0 ≤ wL ∧ wL ≤ 255) (bT : 0 ≤ wT ∧ wT ≤ 255) (bR : 0 ≤ wR ∧ wR ≤ 255) (tL : bt8 xL) (tT : bt8 xT) (tR : bt8 xR)
    (hL2 : ISS .u8 w uL2 cL2 yL) (hT2 : ISS .u8 w uT2 cT2 yT) (hR2 : ISS .u8 w uR2 cR2 yR) (bL2 : 0 ≤ vL ∧ vL ≤ 255) (bT2 : 0 ≤ vT ∧ vT ≤ 255) (bR2 : 0 ≤ vR ∧ vR ≤ 255) (tL2 : bt8 yL) (tT2 : bt8 yT) (tR2 : bt8 yR) :
    Calls Try.prog 7 #[.agg #[.int .u8 ht, .int .u8 ed, .int .u8 wL, uL, .int .u8 wT, uT, .int .u8 wR, uR], .agg #[.int .u8 ht2, .int .u8 ed2, .int .u8 vL, uL2, .int .u8 vT, uT2, .int .u8 vR, uR2]] w fun e w' => e = .returned (.bool true) ∧ Ext w w' := by
  have hM := fun w' (x : Ext w w') => MOf2_calls ht 3 wL wT wR uL uT uR cL cT cR xL xT xR w' hh (by omega) (hL.ext x) (hT.ext x) (hR.ext x) bL bT bR tL tT tR
  have hM2 := fun w' (x : Ext w w') => MOf2_calls ht 3 vL vT vR uL2 uT2 uR2 cL2 cT2 cR2 yL yT yR w' hh (by omega) (hL2.ext x) (hT2.ext x) (hR2.ext x) bL2 bT2 bR2 tL2 tT2 tR2
  obtain ⟨vsL, cpL, gL⟩ := hL
  obtain ⟨aL, nL, rfl, j1, j2, j3, j4⟩ := gL.outs
  clear j1 j2 j3 j4 gL
  obtain ⟨vsT, cpT, gT⟩ := hT
  obtain ⟨aT, nT, rfl, j1, j2, j3, j4⟩ := gT.outs
  clear j1 j2 j3 j4 gT
  obtain ⟨vsR, cpR, gR⟩ := hR
  obtain ⟨aR, nR, rfl, j1, j2, j3, j4⟩ := gR.outs
  clear j1 j2 j3 j4 gR
  obtain ⟨vsL2, cpL2, gL2⟩ := hL2
  obtain ⟨aL2, nL2, rfl, j1, j2, j3, j4⟩ := gL2.outs
  clear j1 j2 j3 j4 gL2
  obtain ⟨vsT2, cpT2, gT2⟩ := hT2
  obtain ⟨aT2, nT2, rfl, j1, j2, j3, j4⟩ := gT2.outs
  clear j1 j2 j3 j4 gT2
  obtain ⟨vsR2, cpR2, gR2⟩ := hR2
  obtain ⟨aR2, nR2, rfl, j1, j2, j3, j4⟩ := gR2.outs
  clear j1 j2 j3 j4 gR2
  have Hht := Lib.hid hh.1
  clear bL bT bR tL tT tR bL2 bT2 bR2 tL2 tT2 tR2 hh
  obtain ⟨W, hW⟩ : ∃ W, W = w.alloc (.cells #[.int .u8 ht, .int .u8 3, .int .u8 wL, .slice aL nL cL, .int .u8 wT, .slice aT nT cT, .int .u8 wR, .slice aR nR cR] 48) := ⟨_, rfl⟩
  have xW : Ext w W := by rw [hW]; exact (Ext.refl w).alloc _
  have hWs : W.heap.size = w.heap.size + 1 := by rw [hW]; simp
  have hbx : W.heap[w.heap.size]? = some (Obj.cells #[.int .u8 ht, .int .u8 3, .int .u8 wL, .slice aL nL cL, .int .u8 wT, .slice aT nT cT, .int .u8 wR, .slice aR nR cR] 48 (0, 0)) := by rw [hW]; exact blk_at rfl
  obtain ⟨V, hV⟩ : ∃ V, V = W.alloc (.cells #[.int .u8 ht, .int .u8 3, .int .u8 vL, .slice aL2 nL2 cL2, .int .u8 vT, .slice aT2 nT2 cT2, .int .u8 vR, .slice aR2 nR2 cR2] 48) := ⟨_, rfl⟩
  have x2 : Ext W V := by rw [hV]; exact (Ext.refl W).alloc _
  have xV : Ext w V := xW.trans x2
  have vbx := x2.block hbx
  have vby : V.heap[w.heap.size + 1]? = some (Obj.cells #[.int .u8 ht, .int .u8 3, .int .u8 vL, .slice aL2 nL2 cL2, .int .u8 vT, .slice aT2 nT2 cT2, .int .u8 vR, .slice aR2 nR2 cR2] 48 (0, 0)) := by rw [hV]; exact blk_at hWs.symm
  have hS : ∀ w', Ext V w' → (w'.cell? ⟨w.heap.size, 0, none⟩ = some (.int .u8 ht) ∧ w'.cell? ⟨w.heap.size, 1, none⟩ = some (.int .u8 3) ∧ w'.cell? ⟨w.heap.size, 2, none⟩ = some (.int .u8 wL) ∧ w'.cell? ⟨w.heap.size, 3, none⟩ = some (.slice aL nL cL) ∧ w'.cell? ⟨w.heap.size, 4, none⟩ = some (.int .u8 wT) ∧ w'.cell? ⟨w.heap.size, 5, none⟩ = some (.slice aT nT cT) ∧ w'.cell? ⟨w.heap.size, 6, none⟩ = some (.int .u8 wR) ∧ w'.cell? ⟨w.heap.size, 7, none⟩ = some (.slice aR nR cR) ∧ w'.cell? ⟨w.heap.size + 1, 0, none⟩ = some (.int .u8 ht) ∧ w'.cell? ⟨w.heap.size + 1, 1, none⟩ = some (.int .u8 3) ∧ w'.cell? ⟨w.heap.size + 1, 2, none⟩ = some (.int .u8 vL) ∧ w'.cell? ⟨w.heap.size + 1, 3, none⟩ = some (.slice aL2 nL2 cL2) ∧ w'.cell? ⟨w.heap.size + 1, 4, none⟩ = some (.int .u8 vT) ∧ w'.cell? ⟨w.heap.size + 1, 5, none⟩ = some (.slice aT2 nT2 cT2) ∧ w'.cell? ⟨w.heap.size + 1, 6, none⟩ = some (.int .u8 vR) ∧ w'.cell? ⟨w.heap.size + 1, 7, none⟩ = some (.slice aR2 nR2 cR2)) := fun w' x => by
    have h1 := x.block vbx
    have h2 := x.block vby
    simp [World.cell?, h1, h2]
  have HS := Lib.hid hS; have HM := Lib.hid (fun w' (x : Ext V w') => hM w' (xV.trans x)); have HM2 := Lib.hid (fun w' (x : Ext V w') => hM2 w' (xV.trans x)); have XV := Lib.hid xV
  have HW := Lib.hid hW; have HV := Lib.hid hV
  clear hM hM2 xW hWs hbx x2 xV vbx vby hS hV hW
  go_enter Try.func7, Try.ntmps7
  go_upto_region 2 with fail
  rw [← HW.out, ← HV.out]
  go_cut [5, 6] from 34 to 37 (fun x y wx => AS V ht wx x y)
  case first =>
    refine wp_region_held_drew (S := fun w' => w'.cell? ⟨w.heap.size, 0, none⟩ = some (.int .u8 ht) ∧ w'.cell? ⟨w.heap.size, 1, none⟩ = some (.int .u8 3) ∧ w'.cell? ⟨w.heap.size, 2, none⟩ = some (.int .u8 wL) ∧ w'.cell? ⟨w.heap.size, 3, none⟩ = some (.slice aL nL cL) ∧ w'.cell? ⟨w.heap.size, 4, none⟩ = some (.int .u8 wT) ∧ w'.cell? ⟨w.heap.size, 5, none⟩ = some (.slice aT nT cT) ∧ w'.cell? ⟨w.heap.size, 6, none⟩ = some (.int .u8 wR) ∧ w'.cell? ⟨w.heap.size, 7, none⟩ = some (.slice aR nR cR) ∧ w'.cell? ⟨w.heap.size + 1, 0, none⟩ = some (.int .u8 ht) ∧ w'.cell? ⟨w.heap.size + 1, 1, none⟩ = some (.int .u8 3) ∧ w'.cell? ⟨w.heap.size + 1, 2, none⟩ = some (.int .u8 vL) ∧ w'.cell? ⟨w.heap.size + 1, 3, none⟩ = some (.slice aL2 nL2 cL2) ∧ w'.cell? ⟨w.heap.size + 1, 4, none⟩ = some (.int .u8 vT) ∧ w'.cell? ⟨w.heap.size + 1, 5, none⟩ = some (.slice aT2 nT2 cT2) ∧ w'.cell? ⟨w.heap.size + 1, 6, none⟩ = some (.int .u8 vR) ∧ w'.cell? ⟨w.heap.size + 1, 7, none⟩ = some (.slice aR2 nR2 cR2)) (by kernel_rfl) ?_ (fun hHeld => ?_)
    · exact HS.out _ ((Ext.refl V).drew)
    refine wpAnyH_take (i := 0) (v := ?va0) rfl (by kernel_rfl) (by kernel_rfl) (by kernel_rfl) (fun _ _ _ h => h) (Or.inl ⟨by rfl, fun w hSw => ?ti0⟩) (by assumption) ?rest0
    case ti0 => ((try dsimp only at hSw); go_simp; (first | done | with_reducible rfl))
    try simp only [Act.put, List.getElem_toArray, List.getElem_cons_zero, List.getElem_cons_succ, List.setIfInBounds_toArray, List.set_cons_zero, List.set_cons_succ]
    refine wpAnyH_take (i := 2) (v := ?va2) rfl (by kernel_rfl) (by kernel_rfl) (by kernel_rfl) (fun _ _ _ h => h) (Or.inl ⟨by rfl, fun w hSw => ?ti2⟩) (by assumption) ?rest2
    case ti2 => ((try dsimp only at hSw); go_simp; (first | done | with_reducible rfl))
    try simp only [Act.put, List.getElem_toArray, List.getElem_cons_zero, List.getElem_cons_succ, List.setIfInBounds_toArray, List.set_cons_zero, List.set_cons_succ]
    refine wpAnyH_ready (rs := [1, 4, 5]) (by kernel_rfl) (by simp) ?_
    refine AllReadyH.cons rfl (fun K hK => ?_) (AllReadyH.cons rfl (fun K hK => ?_) (AllReadyH.cons rfl (fun K hK => ?_) AllReadyH.nil))
    · skip
      go_simp
      refine (HM.out _ ((Ext.refl V).drew)).mono ?_
      intro e z1 hh
      obtain ⟨q0, q1, q2, L, T, R, rfl, c1, c2, c3, hok⟩ := hh
      obtain ⟨a0, m0, d0, hv0, hx0⟩ := c1.form
      subst hv0
      clear hx0
      obtain ⟨a1, m1, d1, hv1, hx1⟩ := c2.form
      subst hv1
      clear hx1
      obtain ⟨a2, m2, d2, hv2, hx2⟩ := c3.form
      subst hv2
      clear hx2
      have x := c1.1
      have XZ1 := Lib.hid ((((Ext.refl V).drew)).trans x)
      have G1 := Lib.hid (And.intro (c1.base (((Ext.refl V).drew))) (And.intro (c2.base (((Ext.refl V).drew))) (And.intro (c3.base (((Ext.refl V).drew))) hok)))
      clear c1 c2 c3 hok x
      go_simp
      refine hK.out _ _ ?_ (fun hHeld => ?_)
      · exact HS.out _ XZ1.out
      clear hK K
      try simp only [Act.put, List.getElem_toArray, List.getElem_cons_zero, List.getElem_cons_succ, List.setIfInBounds_toArray, List.set_cons_zero, List.set_cons_succ]
      refine wpAnyH_ready (rs := [3, 4, 5]) (by kernel_rfl) (by simp) ?_
      refine AllReadyH.cons rfl (fun K hK => ?_) (AllReadyH.cons rfl (fun K hK => ?_) (AllReadyH.cons rfl (fun K hK => ?_) AllReadyH.nil))
      · skip
        go_simp
        refine (HM2.out _ XZ1.out).mono ?_
        intro e z2 hh
        obtain ⟨q0, q1, q2, L2, T2, R2, rfl, c1, c2, c3, hok⟩ := hh
        obtain ⟨a02, m02, d02, hv0, hx0⟩ := c1.form
        subst hv0
        clear hx0
        obtain ⟨a12, m12, d12, hv1, hx1⟩ := c2.form
        subst hv1
        clear hx1
        obtain ⟨a22, m22, d22, hv2, hx2⟩ := c3.form
        subst hv2
        clear hx2
        have x := c1.1
        have XZ2 := Lib.hid ((XZ1.out).trans x)
        have G1 := Lib.hid (show CO V z2 _ _ ∧ CO V z2 _ _ ∧ CO V z2 _ _ ∧ _ from ⟨G1.out.1.later x, G1.out.2.1.later x, G1.out.2.2.1.later x, G1.out.2.2.2⟩)
        have G3 := Lib.hid (And.intro (c1.base (XZ1.out)) (And.intro (c2.base (XZ1.out)) (And.intro (c3.base (XZ1.out)) hok)))
        clear c1 c2 c3 hok x
        go_simp
        refine hK.out _ _ ?_ (fun hHeld => ?_)
        · exact HS.out _ XZ2.out
        clear hK K
        try simp only [Act.put, List.getElem_toArray, List.getElem_cons_zero, List.getElem_cons_succ, List.setIfInBounds_toArray, List.set_cons_zero, List.set_cons_succ]
        refine wpAnyH_ready (rs := [4, 5]) (by kernel_rfl) (by simp) ?_
        refine AllReadyH.cons rfl (fun K hK => ?_) (AllReadyH.cons rfl (fun K hK => ?_) AllReadyH.nil)
        · skip
          go_simp
          obtain ⟨z3, hwn⟩ : ∃ z3 : World, z3 = z2.alloc (.cells #[.slice none 0 0, .slice none 0 0, .slice none 0 0] 26) := ⟨_, rfl⟩
          rw [← hwn]
          have x : Ext z2 z3 := by rw [hwn]; exact (Ext.refl _).alloc _
          have hb : z3.heap[z2.heap.size]? = some (Obj.cells #[.slice none 0 0, .slice none 0 0, .slice none 0 0] 26 (0, 0)) := by rw [hwn]; exact blk_at rfl
          have XZ3 := Lib.hid (XZ2.out.trans x)
          have PP4 : Hid (V.heap.size ≤ z2.heap.size) := Lib.hid (XZ2.out.size)
          have G1 := Lib.hid (show CO V z3 _ _ ∧ CO V z3 _ _ ∧ CO V z3 _ _ ∧ _ from ⟨G1.out.1.later x, G1.out.2.1.later x, G1.out.2.2.1.later x, G1.out.2.2.2⟩)
          have G3 := Lib.hid (show CO V z3 _ _ ∧ CO V z3 _ _ ∧ CO V z3 _ _ ∧ _ from ⟨G3.out.1.later x, G3.out.2.1.later x, G3.out.2.2.1.later x, G3.out.2.2.2⟩)
          have H5 := Lib.hid hb
          clear hwn hb x
          refine hK.out _ _ ?_ (fun hHeld => ?_)
          · exact HS.out _ XZ3.out
          clear hK K
          try simp only [Act.put, List.getElem_toArray, List.getElem_cons_zero, List.getElem_cons_succ, List.setIfInBounds_toArray, List.set_cons_zero, List.set_cons_succ]
          refine wpAnyH_ready (rs := [5]) (by kernel_rfl) (by simp) ?_
          refine AllReadyH.cons rfl (fun K hK => ?_) AllReadyH.nil
          go_simp
          obtain ⟨z4, hwn⟩ : ∃ z4 : World, z4 = z3.alloc (.cells #[.slice none 0 0, .slice none 0 0, .slice none 0 0] 26) := ⟨_, rfl⟩
          rw [← hwn]
          have x : Ext z3 z4 := by rw [hwn]; exact (Ext.refl _).alloc _
          have hb : z4.heap[z3.heap.size]? = some (Obj.cells #[.slice none 0 0, .slice none 0 0, .slice none 0 0] 26 (0, 0)) := by rw [hwn]; exact blk_at rfl
          have XZ4 := Lib.hid (XZ3.out.trans x)
          have PP5 : Hid (V.heap.size ≤ z3.heap.size) := Lib.hid (XZ3.out.size)
          have NE : Hid (z2.heap.size ≠ z3.heap.size) := Lib.hid (by have := lt_of_block H5.out; omega)
          have G1 := Lib.hid (show CO V z4 _ _ ∧ CO V z4 _ _ ∧ CO V z4 _ _ ∧ _ from ⟨G1.out.1.later x, G1.out.2.1.later x, G1.out.2.2.1.later x, G1.out.2.2.2⟩)
          have G3 := Lib.hid (show CO V z4 _ _ ∧ CO V z4 _ _ ∧ CO V z4 _ _ ∧ _ from ⟨G3.out.1.later x, G3.out.2.1.later x, G3.out.2.2.1.later x, G3.out.2.2.2⟩)
          have H5 := Lib.hid (x.block H5.out)
          have H6 := Lib.hid hb
          clear hwn hb x
          refine hK.out _ _ ?_ (fun hHeld => ?_)
          · exact HS.out _ XZ4.out
          clear hK K
          try simp only [Act.put, List.getElem_toArray, List.getElem_cons_zero, List.getElem_cons_succ, List.setIfInBounds_toArray, List.set_cons_zero, List.set_cons_succ]
          refine wpAnyH_ready (rs := [6]) (by kernel_rfl) (by simp) ?_
          refine AllReadyH.cons rfl (fun K hK => ?_) AllReadyH.nil
          have hb := H5.out
          have g0 : z4.cell? ⟨z2.heap.size, 0, none⟩ = some (.slice none 0 0) := by simp [World.cell?, hb]
          have g1 : z4.cell? ⟨z2.heap.size, 1, none⟩ = some (.slice none 0 0) := by simp [World.cell?, hb]
          have g2 : z4.cell? ⟨z2.heap.size, 2, none⟩ = some (.slice none 0 0) := by simp [World.cell?, hb]
          have f0 : z4.frozen? ⟨z2.heap.size, 0, none⟩ = false := by simp [World.frozen?, hb]
          have f1 : z4.frozen? ⟨z2.heap.size, 1, none⟩ = false := by simp [World.frozen?, hb]
          have f2 : z4.frozen? ⟨z2.heap.size, 2, none⟩ = false := by simp [World.frozen?, hb]
          have HBB := Lib.hid hb
          clear hb
          go_simp
          obtain ⟨z5, hwn⟩ : ∃ z5 : World, z5 = ((z4.setCell ⟨z2.heap.size, 0, none⟩ (.slice a0 m0 d0)).setCell ⟨z2.heap.size, 1, none⟩ (.slice a1 m1 d1)).setCell ⟨z2.heap.size, 2, none⟩ (.slice a2 m2 d2) := ⟨_, rfl⟩
          rw [← hwn]
          have XZ5 := Lib.hid (show Ext V z5 by rw [hwn]; exact ((XZ4.out.setCell (p := ⟨z2.heap.size, 0, none⟩) PP4.out _).setCell (p := ⟨z2.heap.size, 1, none⟩) PP4.out _).setCell (p := ⟨z2.heap.size, 2, none⟩) PP4.out _)
          have G1 := Lib.hid (show CO V z5 _ _ ∧ CO V z5 _ _ ∧ CO V z5 _ _ ∧ _ from by rw [hwn]; exact ⟨G1.out.1.put3 HBB.out PP4.out _ _ _, G1.out.2.1.put3 HBB.out PP4.out _ _ _, G1.out.2.2.1.put3 HBB.out PP4.out _ _ _, G1.out.2.2.2⟩)
          have G3 := Lib.hid (show CO V z5 _ _ ∧ CO V z5 _ _ ∧ CO V z5 _ _ ∧ _ from by rw [hwn]; exact ⟨G3.out.1.put3 HBB.out PP4.out _ _ _, G3.out.2.1.put3 HBB.out PP4.out _ _ _, G3.out.2.2.1.put3 HBB.out PP4.out _ _ _, G3.out.2.2.2⟩)
          have H6 := Lib.hid (show z5.heap[z3.heap.size]? = some (.cells #[.slice none 0 0, .slice none 0 0, .slice none 0 0] 26 (0, 0)) from by rw [hwn]; exact (blk_set3 (Ne.symm NE.out)).trans H6.out)
          have H5 := Lib.hid (show z5.heap[z2.heap.size]? = some (.cells #[.slice a0 m0 d0, .slice a1 m1 d1, .slice a2 m2 d2] 26 (0, 0)) from by rw [hwn]; exact blk3_2 (blk3_1 (blk3_0 HBB.out (.slice a0 m0 d0)) (.slice a1 m1 d1)) (.slice a2 m2 d2))
          clear hwn HBB g0 g1 g2 f0 f1 f2
          refine hK.out _ _ ?_ (fun hHeld => ?_)
          · exact HS.out _ XZ5.out
          clear hK K
          try simp only [Act.put, List.getElem_toArray, List.getElem_cons_zero, List.getElem_cons_succ, List.setIfInBounds_toArray, List.set_cons_zero, List.set_cons_succ]
          refine wpAnyH_ready (rs := [7]) (by kernel_rfl) (by simp) ?_
          refine AllReadyH.cons rfl (fun K hK => ?_) AllReadyH.nil
          have hb := H6.out
          have g0 : z5.cell? ⟨z3.heap.size, 0, none⟩ = some (.slice none 0 0) := by simp [World.cell?, hb]
          have g1 : z5.cell? ⟨z3.heap.size, 1, none⟩ = some (.slice none 0 0) := by simp [World.cell?, hb]
          have g2 : z5.cell? ⟨z3.heap.size, 2, none⟩ = some (.slice none 0 0) := by simp [World.cell?, hb]
          have f0 : z5.frozen? ⟨z3.heap.size, 0, none⟩ = false := by simp [World.frozen?, hb]
          have f1 : z5.frozen? ⟨z3.heap.size, 1, none⟩ = false := by simp [World.frozen?, hb]
          have f2 : z5.frozen? ⟨z3.heap.size, 2, none⟩ = false := by simp [World.frozen?, hb]
          have HBB := Lib.hid hb
          clear hb
          go_simp
          obtain ⟨z6, hwn⟩ : ∃ z6 : World, z6 = ((z5.setCell ⟨z3.heap.size, 0, none⟩ (.slice a02 m02 d02)).setCell ⟨z3.heap.size, 1, none⟩ (.slice a12 m12 d12)).setCell ⟨z3.heap.size, 2, none⟩ (.slice a22 m22 d22) := ⟨_, rfl⟩
          rw [← hwn]
          have XZ6 := Lib.hid (show Ext V z6 by rw [hwn]; exact ((XZ5.out.setCell (p := ⟨z3.heap.size, 0, none⟩) PP5.out _).setCell (p := ⟨z3.heap.size, 1, none⟩) PP5.out _).setCell (p := ⟨z3.heap.size, 2, none⟩) PP5.out _)
          have G1 := Lib.hid (show CO V z6 _ _ ∧ CO V z6 _ _ ∧ CO V z6 _ _ ∧ _ from by rw [hwn]; exact ⟨G1.out.1.put3 HBB.out PP5.out _ _ _, G1.out.2.1.put3 HBB.out PP5.out _ _ _, G1.out.2.2.1.put3 HBB.out PP5.out _ _ _, G1.out.2.2.2⟩)
          have G3 := Lib.hid (show CO V z6 _ _ ∧ CO V z6 _ _ ∧ CO V z6 _ _ ∧ _ from by rw [hwn]; exact ⟨G3.out.1.put3 HBB.out PP5.out _ _ _, G3.out.2.1.put3 HBB.out PP5.out _ _ _, G3.out.2.2.1.put3 HBB.out PP5.out _ _ _, G3.out.2.2.2⟩)
          have H5 := Lib.hid (show z6.heap[z2.heap.size]? = some (.cells #[.slice a0 m0 d0, .slice a1 m1 d1, .slice a2 m2 d2] 26 (0, 0)) from by rw [hwn]; exact (blk_set3 NE.out).trans H5.out)
          have H6 := Lib.hid (show z6.heap[z3.heap.size]? = some (.cells #[.slice a02 m02 d02, .slice a12 m12 d12, .slice a22 m22 d22] 26 (0, 0)) from by rw [hwn]; exact blk3_2 (blk3_1 (blk3_0 HBB.out (.slice a02 m02 d02)) (.slice a12 m12 d12)) (.slice a22 m22 d22))
          clear hwn HBB g0 g1 g2 f0 f1 f2
          refine hK.out _ _ ?_ (fun hHeld => ?_)
          · exact HS.out _ XZ6.out
          clear hK K
          try simp only [Act.put, List.getElem_toArray, List.getElem_cons_zero, List.getElem_cons_succ, List.setIfInBounds_toArray, List.set_cons_zero, List.set_cons_succ]
          refine wpAnyH_done (by kernel_rfl) ?_ _
          go_wp2_with fail
          go_meet
          case rel => exact ⟨_, _, _, _, _, _, _, _, _, _, _, _, _, _, _, _, _, _, _, _, _, _, _, _, _, _, rfl, rfl, H5.out, H6.out, G1.out.1, G1.out.2.1, G1.out.2.2.1, G3.out.1, G3.out.2.1, G3.out.2.2.1, G1.out.2.2.2, G3.out.2.2.2⟩
        · skip
          go_simp
          obtain ⟨z3, hwn⟩ : ∃ z3 : World, z3 = z2.alloc (.cells #[.slice none 0 0, .slice none 0 0, .slice none 0 0] 26) := ⟨_, rfl⟩
          rw [← hwn]
          have x : Ext z2 z3 := by rw [hwn]; exact (Ext.refl _).alloc _
          have hb : z3.heap[z2.heap.size]? = some (Obj.cells #[.slice none 0 0, .slice none 0 0, .slice none 0 0] 26 (0, 0)) := by rw [hwn]; exact blk_at rfl
          have XZ3 := Lib.hid (XZ2.out.trans x)
          have PP5 : Hid (V.heap.size ≤ z2.heap.size) := Lib.hid (XZ2.out.size)
          have G1 := Lib.hid (show CO V z3 _ _ ∧ CO V z3 _ _ ∧ CO V z3 _ _ ∧ _ from ⟨G1.out.1.later x, G1.out.2.1.later x, G1.out.2.2.1.later x, G1.out.2.2.2⟩)
          have G3 := Lib.hid (show CO V z3 _ _ ∧ CO V z3 _ _ ∧ CO V z3 _ _ ∧ _ from ⟨G3.out.1.later x, G3.out.2.1.later x, G3.out.2.2.1.later x, G3.out.2.2.2⟩)
          have H6 := Lib.hid hb
          clear hwn hb x
          refine hK.out _ _ ?_ (fun hHeld => ?_)
          · exact HS.out _ XZ3.out
          clear hK K
          try simp only [Act.put, List.getElem_toArray, List.getElem_cons_zero, List.getElem_cons_succ, List.setIfInBounds_toArray, List.set_cons_zero, List.set_cons_succ]
          refine wpAnyH_ready (rs := [4]) (by kernel_rfl) (by simp) ?_
          refine AllReadyH.cons rfl (fun K hK => ?_) AllReadyH.nil
          go_simp
          obtain ⟨z4, hwn⟩ : ∃ z4 : World, z4 = z3.alloc (.cells #[.slice none 0 0, .slice none 0 0, .slice none 0 0] 26) := ⟨_, rfl⟩
          rw [← hwn]
          have x : Ext z3 z4 := by rw [hwn]; exact (Ext.refl _).alloc _
          have hb : z4.heap[z3.heap.size]? = some (Obj.cells #[.slice none 0 0, .slice none 0 0, .slice none 0 0] 26 (0, 0)) := by rw [hwn]; exact blk_at rfl
          have XZ4 := Lib.hid (XZ3.out.trans x)
          have PP4 : Hid (V.heap.size ≤ z3.heap.size) := Lib.hid (XZ3.out.size)
          have NE : Hid (z3.heap.size ≠ z2.heap.size) := Lib.hid (by have := lt_of_block H6.out; omega)
          have G1 := Lib.hid (show CO V z4 _ _ ∧ CO V z4 _ _ ∧ CO V z4 _ _ ∧ _ from ⟨G1.out.1.later x, G1.out.2.1.later x, G1.out.2.2.1.later x, G1.out.2.2.2⟩)
          have G3 := Lib.hid (show CO V z4 _ _ ∧ CO V z4 _ _ ∧ CO V z4 _ _ ∧ _ from ⟨G3.out.1.later x, G3.out.2.1.later x, G3.out.2.2.1.later x, G3.out.2.2.2⟩)
          have H6 := Lib.hid (x.block H6.out)
          have H5 := Lib.hid hb
          clear hwn hb x
          refine hK.out _ _ ?_ (fun hHeld => ?_)
          · exact HS.out _ XZ4.out
          clear hK K
          try simp only [Act.put, List.getElem_toArray, List.getElem_cons_zero, List.getElem_cons_succ, List.setIfInBounds_toArray, List.set_cons_zero, List.set_cons_succ]
          refine wpAnyH_ready (rs := [6]) (by kernel_rfl) (by simp) ?_
          refine AllReadyH.cons rfl (fun K hK => ?_) AllReadyH.nil
          have hb := H5.out
          have g0 : z4.cell? ⟨z3.heap.size, 0, none⟩ = some (.slice none 0 0) := by simp [World.cell?, hb]
          have g1 : z4.cell? ⟨z3.heap.size, 1, none⟩ = some (.slice none 0 0) := by simp [World.cell?, hb]
          have g2 : z4.cell? ⟨z3.heap.size, 2, none⟩ = some (.slice none 0 0) := by simp [World.cell?, hb]
          have f0 : z4.frozen? ⟨z3.heap.size, 0, none⟩ = false := by simp [World.frozen?, hb]
          have f1 : z4.frozen? ⟨z3.heap.size, 1, none⟩ = false := by simp [World.frozen?, hb]
          have f2 : z4.frozen? ⟨z3.heap.size, 2, none⟩ = false := by simp [World.frozen?, hb]
          have HBB := Lib.hid hb
          clear hb
          go_simp
          obtain ⟨z5, hwn⟩ : ∃ z5 : World, z5 = ((z4.setCell ⟨z3.heap.size, 0, none⟩ (.slice a0 m0 d0)).setCell ⟨z3.heap.size, 1, none⟩ (.slice a1 m1 d1)).setCell ⟨z3.heap.size, 2, none⟩ (.slice a2 m2 d2) := ⟨_, rfl⟩
          rw [← hwn]
          have XZ5 := Lib.hid (show Ext V z5 by rw [hwn]; exact ((XZ4.out.setCell (p := ⟨z3.heap.size, 0, none⟩) PP4.out _).setCell (p := ⟨z3.heap.size, 1, none⟩) PP4.out _).setCell (p := ⟨z3.heap.size, 2, none⟩) PP4.out _)
          have G1 := Lib.hid (show CO V z5 _ _ ∧ CO V z5 _ _ ∧ CO V z5 _ _ ∧ _ from by rw [hwn]; exact ⟨G1.out.1.put3 HBB.out PP4.out _ _ _, G1.out.2.1.put3 HBB.out PP4.out _ _ _, G1.out.2.2.1.put3 HBB.out PP4.out _ _ _, G1.out.2.2.2⟩)
          have G3 := Lib.hid (show CO V z5 _ _ ∧ CO V z5 _ _ ∧ CO V z5 _ _ ∧ _ from by rw [hwn]; exact ⟨G3.out.1.put3 HBB.out PP4.out _ _ _, G3.out.2.1.put3 HBB.out PP4.out _ _ _, G3.out.2.2.1.put3 HBB.out PP4.out _ _ _, G3.out.2.2.2⟩)
          have H6 := Lib.hid (show z5.heap[z2.heap.size]? = some (.cells #[.slice none 0 0, .slice none 0 0, .slice none 0 0] 26 (0, 0)) from by rw [hwn]; exact (blk_set3 (Ne.symm NE.out)).trans H6.out)
          have H5 := Lib.hid (show z5.heap[z3.heap.size]? = some (.cells #[.slice a0 m0 d0, .slice a1 m1 d1, .slice a2 m2 d2] 26 (0, 0)) from by rw [hwn]; exact blk3_2 (blk3_1 (blk3_0 HBB.out (.slice a0 m0 d0)) (.slice a1 m1 d1)) (.slice a2 m2 d2))
          clear hwn HBB g0 g1 g2 f0 f1 f2
          refine hK.out _ _ ?_ (fun hHeld => ?_)
          · exact HS.out _ XZ5.out
          clear hK K
          try simp only [Act.put, List.getElem_toArray, List.getElem_cons_zero, List.getElem_cons_succ, List.setIfInBounds_toArray, List.set_cons_zero, List.set_cons_succ]
          refine wpAnyH_ready (rs := [7]) (by kernel_rfl) (by simp) ?_
          refine AllReadyH.cons rfl (fun K hK => ?_) AllReadyH.nil
          have hb := H6.out
          have g0 : z5.cell? ⟨z2.heap.size, 0, none⟩ = some (.slice none 0 0) := by simp [World.cell?, hb]
          have g1 : z5.cell? ⟨z2.heap.size, 1, none⟩ = some (.slice none 0 0) := by simp [World.cell?, hb]
          have g2 : z5.cell? ⟨z2.heap.size, 2, none⟩ = some (.slice none 0 0) := by simp [World.cell?, hb]
          have f0 : z5.frozen? ⟨z2.heap.size, 0, none⟩ = false := by simp [World.frozen?, hb]
          have f1 : z5.frozen? ⟨z2.heap.size, 1, none⟩ = false := by simp [World.frozen?, hb]
          have f2 : z5.frozen? ⟨z2.heap.size, 2, none⟩ = false := by simp [World.frozen?, hb]
          have HBB := Lib.hid hb
          clear hb
          go_simp
          obtain ⟨z6, hwn⟩ : ∃ z6 : World, z6 = ((z5.setCell ⟨z2.heap.size, 0, none⟩ (.slice a02 m02 d02)).setCell ⟨z2.heap.size, 1, none⟩ (.slice a12 m12 d12)).setCell ⟨z2.heap.size, 2, none⟩ (.slice a22 m22 d22) := ⟨_, rfl⟩
          rw [← hwn]
          have XZ6 := Lib.hid (show Ext V z6 by rw [hwn]; exact ((XZ5.out.setCell (p := ⟨z2.heap.size, 0, none⟩) PP5.out _).setCell (p := ⟨z2.heap.size, 1, none⟩) PP5.out _).setCell (p := ⟨z2.heap.size, 2, none⟩) PP5.out _)
          have G1 := Lib.hid (show CO V z6 _ _ ∧ CO V z6 _ _ ∧ CO V z6 _ _ ∧ _ from by rw [hwn]; exact ⟨G1.out.1.put3 HBB.out PP5.out _ _ _, G1.out.2.1.put3 HBB.out PP5.out _ _ _, G1.out.2.2.1.put3 HBB.out PP5.out _ _ _, G1.out.2.2.2⟩)
          have G3 := Lib.hid (show CO V z6 _ _ ∧ CO V z6 _ _ ∧ CO V z6 _ _ ∧ _ from by rw [hwn]; exact ⟨G3.out.1.put3 HBB.out PP5.out _ _ _, G3.out.2.1.put3 HBB.out PP5.out _ _ _, G3.out.2.2.1.put3 HBB.out PP5.out _ _ _, G3.out.2.2.2⟩)
          have H5 := Lib.hid (show z6.heap[z3.heap.size]? = some (.cells #[.slice a0 m0 d0, .slice a1 m1 d1, .slice a2 m2 d2] 26 (0, 0)) from by rw [hwn]; exact (blk_set3 NE.out).trans H5.out)
          have H6 := Lib.hid (show z6.heap[z2.heap.size]? = some (.cells #[.slice a02 m02 d02, .slice a12 m12 d12, .slice a22 m22 d22] 26 (0, 0)) from by rw [hwn]; exact blk3_2 (blk3_1 (blk3_0 HBB.out (.slice a02 m02 d02)) (.slice a12 m12 d12)) (.slice a22 m22 d22))
          clear hwn HBB g0 g1 g2 f0 f1 f2
          refine hK.out _ _ ?_ (fun hHeld => ?_)
          · exact HS.out _ XZ6.out
          clear hK K
          try simp only [Act.put, List.getElem_toArray, List.getElem_cons_zero, List.getElem_cons_succ, List.setIfInBounds_toArray, List.set_cons_zero, List.set_cons_succ]
          refine wpAnyH_done (by kernel_rfl) ?_ _
          go_wp2_with fail
          go_meet
          case rel => exact ⟨_, _, _, _, _, _, _, _, _, _, _, _, _, _, _, _, _, _, _, _, _, _, _, _, _, _, rfl, rfl, H5.out, H6.out, G1.out.1, G1.out.2.1, G1.out.2.2.1, G3.out.1, G3.out.2.1, G3.out.2.2.1, G1.out.2.2.2, G3.out.2.2.2⟩
      · skip
        go_simp
        obtain ⟨z2, hwn⟩ : ∃ z2 : World, z2 = z1.alloc (.cells #[.slice none 0 0, .slice none 0 0, .slice none 0 0] 26) := ⟨_, rfl⟩
        rw [← hwn]
        have x : Ext z1 z2 := by rw [hwn]; exact (Ext.refl _).alloc _
        have hb : z2.heap[z1.heap.size]? = some (Obj.cells #[.slice none 0 0, .slice none 0 0, .slice none 0 0] 26 (0, 0)) := by rw [hwn]; exact blk_at rfl
        have XZ2 := Lib.hid (XZ1.out.trans x)
        have PP4 : Hid (V.heap.size ≤ z1.heap.size) := Lib.hid (XZ1.out.size)
        have G1 := Lib.hid (show CO V z2 _ _ ∧ CO V z2 _ _ ∧ CO V z2 _ _ ∧ _ from ⟨G1.out.1.later x, G1.out.2.1.later x, G1.out.2.2.1.later x, G1.out.2.2.2⟩)
        have H5 := Lib.hid hb
        clear hwn hb x
        refine hK.out _ _ ?_ (fun hHeld => ?_)
        · exact HS.out _ XZ2.out
        clear hK K
        try simp only [Act.put, List.getElem_toArray, List.getElem_cons_zero, List.getElem_cons_succ, List.setIfInBounds_toArray, List.set_cons_zero, List.set_cons_succ]
        refine wpAnyH_ready (rs := [3, 5]) (by kernel_rfl) (by simp) ?_
        refine AllReadyH.cons rfl (fun K hK => ?_) (AllReadyH.cons rfl (fun K hK => ?_) AllReadyH.nil)
        · skip
          go_simp
          refine (HM2.out _ XZ2.out).mono ?_
          intro e z3 hh
          obtain ⟨q0, q1, q2, L2, T2, R2, rfl, c1, c2, c3, hok⟩ := hh
          obtain ⟨a02, m02, d02, hv0, hx0⟩ := c1.form
          subst hv0
          clear hx0
          obtain ⟨a12, m12, d12, hv1, hx1⟩ := c2.form
          subst hv1
          clear hx1
          obtain ⟨a22, m22, d22, hv2, hx2⟩ := c3.form
          subst hv2
          clear hx2
          have x := c1.1
          have XZ3 := Lib.hid ((XZ2.out).trans x)
          have G1 := Lib.hid (show CO V z3 _ _ ∧ CO V z3 _ _ ∧ CO V z3 _ _ ∧ _ from ⟨G1.out.1.later x, G1.out.2.1.later x, G1.out.2.2.1.later x, G1.out.2.2.2⟩)
          have H5 := Lib.hid (x.block H5.out)
          have G3 := Lib.hid (And.intro (c1.base (XZ2.out)) (And.intro (c2.base (XZ2.out)) (And.intro (c3.base (XZ2.out)) hok)))
          clear c1 c2 c3 hok x
          go_simp
          refine hK.out _ _ ?_ (fun hHeld => ?_)
          · exact HS.out _ XZ3.out
          clear hK K
          try simp only [Act.put, List.getElem_toArray, List.getElem_cons_zero, List.getElem_cons_succ, List.setIfInBounds_toArray, List.set_cons_zero, List.set_cons_succ]
          refine wpAnyH_ready (rs := [5]) (by kernel_rfl) (by simp) ?_
          refine AllReadyH.cons rfl (fun K hK => ?_) AllReadyH.nil
          go_simp
          obtain ⟨z4, hwn⟩ : ∃ z4 : World, z4 = z3.alloc (.cells #[.slice none 0 0, .slice none 0 0, .slice none 0 0] 26) := ⟨_, rfl⟩
          rw [← hwn]
          have x : Ext z3 z4 := by rw [hwn]; exact (Ext.refl _).alloc _
          have hb : z4.heap[z3.heap.size]? = some (Obj.cells #[.slice none 0 0, .slice none 0 0, .slice none 0 0] 26 (0, 0)) := by rw [hwn]; exact blk_at rfl
          have XZ4 := Lib.hid (XZ3.out.trans x)
          have PP5 : Hid (V.heap.size ≤ z3.heap.size) := Lib.hid (XZ3.out.size)
          have NE : Hid (z1.heap.size ≠ z3.heap.size) := Lib.hid (by have := lt_of_block H5.out; omega)
          have G1 := Lib.hid (show CO V z4 _ _ ∧ CO V z4 _ _ ∧ CO V z4 _ _ ∧ _ from ⟨G1.out.1.later x, G1.out.2.1.later x, G1.out.2.2.1.later x, G1.out.2.2.2⟩)
          have G3 := Lib.hid (show CO V z4 _ _ ∧ CO V z4 _ _ ∧ CO V z4 _ _ ∧ _ from ⟨G3.out.1.later x, G3.out.2.1.later x, G3.out.2.2.1.later x, G3.out.2.2.2⟩)
          have H5 := Lib.hid (x.block H5.out)
          have H6 := Lib.hid hb
          clear hwn hb x
          refine hK.out _ _ ?_ (fun hHeld => ?_)
          · exact HS.out _ XZ4.out
          clear hK K
          try simp only [Act.put, List.getElem_toArray, List.getElem_cons_zero, List.getElem_cons_succ, List.setIfInBounds_toArray, List.set_cons_zero, List.set_cons_succ]
          refine wpAnyH_ready (rs := [6]) (by kernel_rfl) (by simp) ?_
          refine AllReadyH.cons rfl (fun K hK => ?_) AllReadyH.nil
          have hb := H5.out
          have g0 : z4.cell? ⟨z1.heap.size, 0, none⟩ = some (.slice none 0 0) := by simp [World.cell?, hb]
          have g1 : z4.cell? ⟨z1.heap.size, 1, none⟩ = some (.slice none 0 0) := by simp [World.cell?, hb]
          have g2 : z4.cell? ⟨z1.heap.size, 2, none⟩ = some (.slice none 0 0) := by simp [World.cell?, hb]
          have f0 : z4.frozen? ⟨z1.heap.size, 0, none⟩ = false := by simp [World.frozen?, hb]
          have f1 : z4.frozen? ⟨z1.heap.size, 1, none⟩ = false := by simp [World.frozen?, hb]
          have f2 : z4.frozen? ⟨z1.heap.size, 2, none⟩ = false := by simp [World.frozen?, hb]
          have HBB := Lib.hid hb
          clear hb
          go_simp
          obtain ⟨z5, hwn⟩ : ∃ z5 : World, z5 = ((z4.setCell ⟨z1.heap.size, 0, none⟩ (.slice a0 m0 d0)).setCell ⟨z1.heap.size, 1, none⟩ (.slice a1 m1 d1)).setCell ⟨z1.heap.size, 2, none⟩ (.slice a2 m2 d2) := ⟨_, rfl⟩
          rw [← hwn]
          have XZ5 := Lib.hid (show Ext V z5 by rw [hwn]; exact ((XZ4.out.setCell (p := ⟨z1.heap.size, 0, none⟩) PP4.out _).setCell (p := ⟨z1.heap.size, 1, none⟩) PP4.out _).setCell (p := ⟨z1.heap.size, 2, none⟩) PP4.out _)
          have G1 := Lib.hid (show CO V z5 _ _ ∧ CO V z5 _ _ ∧ CO V z5 _ _ ∧ _ from by rw [hwn]; exact ⟨G1.out.1.put3 HBB.out PP4.out _ _ _, G1.out.2.1.put3 HBB.out PP4.out _ _ _, G1.out.2.2.1.put3 HBB.out PP4.out _ _ _, G1.out.2.2.2⟩)
          have G3 := Lib.hid (show CO V z5 _ _ ∧ CO V z5 _ _ ∧ CO V z5 _ _ ∧ _ from by rw [hwn]; exact ⟨G3.out.1.put3 HBB.out PP4.out _ _ _, G3.out.2.1.put3 HBB.out PP4.out _ _ _, G3.out.2.2.1.put3 HBB.out PP4.out _ _ _, G3.out.2.2.2⟩)
          have H6 := Lib.hid (show z5.heap[z3.heap.size]? = some (.cells #[.slice none 0 0, .slice none 0 0, .slice none 0 0] 26 (0, 0)) from by rw [hwn]; exact (blk_set3 (Ne.symm NE.out)).trans H6.out)
          have H5 := Lib.hid (show z5.heap[z1.heap.size]? = some (.cells #[.slice a0 m0 d0, .slice a1 m1 d1, .slice a2 m2 d2] 26 (0, 0)) from by rw [hwn]; exact blk3_2 (blk3_1 (blk3_0 HBB.out (.slice a0 m0 d0)) (.slice a1 m1 d1)) (.slice a2 m2 d2))
          clear hwn HBB g0 g1 g2 f0 f1 f2
          refine hK.out _ _ ?_ (fun hHeld => ?_)
          · exact HS.out _ XZ5.out
          clear hK K
          try simp only [Act.put, List.getElem_toArray, List.getElem_cons_zero, List.getElem_cons_succ, List.setIfInBounds_toArray, List.set_cons_zero, List.set_cons_succ]
          refine wpAnyH_ready (rs := [7]) (by kernel_rfl) (by simp) ?_
          refine AllReadyH.cons rfl (fun K hK => ?_) AllReadyH.nil
          have hb := H6.out
          have g0 : z5.cell? ⟨z3.heap.size, 0, none⟩ = some (.slice none 0 0) := by simp [World.cell?, hb]
          have g1 : z5.cell? ⟨z3.heap.size, 1, none⟩ = some (.slice none 0 0) := by simp [World.cell?, hb]
          have g2 : z5.cell? ⟨z3.heap.size, 2, none⟩ = some (.slice none 0 0) := by simp [World.cell?, hb]
          have f0 : z5.frozen? ⟨z3.heap.size, 0, none⟩ = false := by simp [World.frozen?, hb]
          have f1 : z5.frozen? ⟨z3.heap.size, 1, none⟩ = false := by simp [World.frozen?, hb]
          have f2 : z5.frozen? ⟨z3.heap.size, 2, none⟩ = false := by simp [World.frozen?, hb]
          have HBB := Lib.hid hb
          clear hb
          go_simp
          obtain ⟨z6, hwn⟩ : ∃ z6 : World, z6 = ((z5.setCell ⟨z3.heap.size, 0, none⟩ (.slice a02 m02 d02)).setCell ⟨z3.heap.size, 1, none⟩ (.slice a12 m12 d12)).setCell ⟨z3.heap.size, 2, none⟩ (.slice a22 m22 d22) := ⟨_, rfl⟩
          rw [← hwn]
          have XZ6 := Lib.hid (show Ext V z6 by rw [hwn]; exact ((XZ5.out.setCell (p := ⟨z3.heap.size, 0, none⟩) PP5.out _).setCell (p := ⟨z3.heap.size, 1, none⟩) PP5.out _).setCell (p := ⟨z3.heap.size, 2, none⟩) PP5.out _)
          have G1 := Lib.hid (show CO V z6 _ _ ∧ CO V z6 _ _ ∧ CO V z6 _ _ ∧ _ from by rw [hwn]; exact ⟨G1.out.1.put3 HBB.out PP5.out _ _ _, G1.out.2.1.put3 HBB.out PP5.out _ _ _, G1.out.2.2.1.put3 HBB.out PP5.out _ _ _, G1.out.2.2.2⟩)
          have G3 := Lib.hid (show CO V z6 _ _ ∧ CO V z6 _ _ ∧ CO V z6 _ _ ∧ _ from by rw [hwn]; exact ⟨G3.out.1.put3 HBB.out PP5.out _ _ _, G3.out.2.1.put3 HBB.out PP5.out _ _ _, G3.out.2.2.1.put3 HBB.out PP5.out _ _ _, G3.out.2.2.2⟩)
          have H5 := Lib.hid (show z6.heap[z1.heap.size]? = some (.cells #[.slice a0 m0 d0, .slice a1 m1 d1, .slice a2 m2 d2] 26 (0, 0)) from by rw [hwn]; exact (blk_set3 NE.out).trans H5.out)
          have H6 := Lib.hid (show z6.heap[z3.heap.size]? = some (.cells #[.slice a02 m02 d02, .slice a12 m12 d12, .slice a22 m22 d22] 26 (0, 0)) from by rw [hwn]; exact blk3_2 (blk3_1 (blk3_0 HBB.out (.slice a02 m02 d02)) (.slice a12 m12 d12)) (.slice a22 m22 d22))
          clear hwn HBB g0 g1 g2 f0 f1 f2
          refine hK.out _ _ ?_ (fun hHeld => ?_)
          · exact HS.out _ XZ6.out
          clear hK K
          try simp only [Act.put, List.getElem_toArray, List.getElem_cons_zero, List.getElem_cons_succ, List.setIfInBounds_toArray, List.set_cons_zero, List.set_cons_succ]
          refine wpAnyH_done (by kernel_rfl) ?_ _
          go_wp2_with fail
          go_meet
          case rel => exact ⟨_, _, _, _, _, _, _, _, _, _, _, _, _, _, _, _, _, _, _, _, _, _, _, _, _, _, rfl, rfl, H5.out, H6.out, G1.out.1, G1.out.2.1, G1.out.2.2.1, G3.out.1, G3.out.2.1, G3.out.2.2.1, G1.out.2.2.2, G3.out.2.2.2⟩
        · skip
          go_simp
          obtain ⟨z3, hwn⟩ : ∃ z3 : World, z3 = z2.alloc (.cells #[.slice none 0 0, .slice none 0 0, .slice none 0 0] 26) := ⟨_, rfl⟩
          rw [← hwn]
          have x : Ext z2 z3 := by rw [hwn]; exact (Ext.refl _).alloc _
          have hb : z3.heap[z2.heap.size]? = some (Obj.cells #[.slice none 0 0, .slice none 0 0, .slice none 0 0] 26 (0, 0)) := by rw [hwn]; exact blk_at rfl
          have XZ3 := Lib.hid (XZ2.out.trans x)
          have PP5 : Hid (V.heap.size ≤ z2.heap.size) := Lib.hid (XZ2.out.size)
          have NE : Hid (z1.heap.size ≠ z2.heap.size) := Lib.hid (by have := lt_of_block H5.out; omega)
          have G1 := Lib.hid (show CO V z3 _ _ ∧ CO V z3 _ _ ∧ CO V z3 _ _ ∧ _ from ⟨G1.out.1.later x, G1.out.2.1.later x, G1.out.2.2.1.later x, G1.out.2.2.2⟩)
          have H5 := Lib.hid (x.block H5.out)
          have H6 := Lib.hid hb
          clear hwn hb x
          refine hK.out _ _ ?_ (fun hHeld => ?_)
          · exact HS.out _ XZ3.out
          clear hK K
          try simp only [Act.put, List.getElem_toArray, List.getElem_cons_zero, List.getElem_cons_succ, List.setIfInBounds_toArray, List.set_cons_zero, List.set_cons_succ]
          refine wpAnyH_ready (rs := [3]) (by kernel_rfl) (by simp) ?_
          refine AllReadyH.cons rfl (fun K hK => ?_) AllReadyH.nil
          go_simp
          refine (HM2.out _ XZ3.out).mono ?_
          intro e z4 hh
          obtain ⟨q0, q1, q2, L2, T2, R2, rfl, c1, c2, c3, hok⟩ := hh
          obtain ⟨a02, m02, d02, hv0, hx0⟩ := c1.form
          subst hv0
          clear hx0
          obtain ⟨a12, m12, d12, hv1, hx1⟩ := c2.form
          subst hv1
          clear hx1
          obtain ⟨a22, m22, d22, hv2, hx2⟩ := c3.form
          subst hv2
          clear hx2
          have x := c1.1
          have XZ4 := Lib.hid ((XZ3.out).trans x)
          have G1 := Lib.hid (show CO V z4 _ _ ∧ CO V z4 _ _ ∧ CO V z4 _ _ ∧ _ from ⟨G1.out.1.later x, G1.out.2.1.later x, G1.out.2.2.1.later x, G1.out.2.2.2⟩)
          have H5 := Lib.hid (x.block H5.out)
          have H6 := Lib.hid (x.block H6.out)
          have G3 := Lib.hid (And.intro (c1.base (XZ3.out)) (And.intro (c2.base (XZ3.out)) (And.intro (c3.base (XZ3.out)) hok)))
          clear c1 c2 c3 hok x
          go_simp
          refine hK.out _ _ ?_ (fun hHeld => ?_)
          · exact HS.out _ XZ4.out
          clear hK K
          try simp only [Act.put, List.getElem_toArray, List.getElem_cons_zero, List.getElem_cons_succ, List.setIfInBounds_toArray, List.set_cons_zero, List.set_cons_succ]
          refine wpAnyH_ready (rs := [6]) (by kernel_rfl) (by simp) ?_
          refine AllReadyH.cons rfl (fun K hK => ?_) AllReadyH.nil
          have hb := H5.out
          have g0 : z4.cell? ⟨z1.heap.size, 0, none⟩ = some (.slice none 0 0) := by simp [World.cell?, hb]
          have g1 : z4.cell? ⟨z1.heap.size, 1, none⟩ = some (.slice none 0 0) := by simp [World.cell?, hb]
          have g2 : z4.cell? ⟨z1.heap.size, 2, none⟩ = some (.slice none 0 0) := by simp [World.cell?, hb]
          have f0 : z4.frozen? ⟨z1.heap.size, 0, none⟩ = false := by simp [World.frozen?, hb]
          have f1 : z4.frozen? ⟨z1.heap.size, 1, none⟩ = false := by simp [World.frozen?, hb]
          have f2 : z4.frozen? ⟨z1.heap.size, 2, none⟩ = false := by simp [World.frozen?, hb]
          have HBB := Lib.hid hb
          clear hb
          go_simp
          obtain ⟨z5, hwn⟩ : ∃ z5 : World, z5 = ((z4.setCell ⟨z1.heap.size, 0, none⟩ (.slice a0 m0 d0)).setCell ⟨z1.heap.size, 1, none⟩ (.slice a1 m1 d1)).setCell ⟨z1.heap.size, 2, none⟩ (.slice a2 m2 d2) := ⟨_, rfl⟩
          rw [← hwn]
          have XZ5 := Lib.hid (show Ext V z5 by rw [hwn]; exact ((XZ4.out.setCell (p := ⟨z1.heap.size, 0, none⟩) PP4.out _).setCell (p := ⟨z1.heap.size, 1, none⟩) PP4.out _).setCell (p := ⟨z1.heap.size, 2, none⟩) PP4.out _)
          have G1 := Lib.hid (show CO V z5 _ _ ∧ CO V z5 _ _ ∧ CO V z5 _ _ ∧ _ from by rw [hwn]; exact ⟨G1.out.1.put3 HBB.out PP4.out _ _ _, G1.out.2.1.put3 HBB.out PP4.out _ _ _, G1.out.2.2.1.put3 HBB.out PP4.out _ _ _, G1.out.2.2.2⟩)
          have G3 := Lib.hid (show CO V z5 _ _ ∧ CO V z5 _ _ ∧ CO V z5 _ _ ∧ _ from by rw [hwn]; exact ⟨G3.out.1.put3 HBB.out PP4.out _ _ _, G3.out.2.1.put3 HBB.out PP4.out _ _ _, G3.out.2.2.1.put3 HBB.out PP4.out _ _ _, G3.out.2.2.2⟩)
          have H6 := Lib.hid (show z5.heap[z2.heap.size]? = some (.cells #[.slice none 0 0, .slice none 0 0, .slice none 0 0] 26 (0, 0)) from by rw [hwn]; exact (blk_set3 (Ne.symm NE.out)).trans H6.out)
          have H5 := Lib.hid (show z5.heap[z1.heap.size]? = some (.cells #[.slice a0 m0 d0, .slice a1 m1 d1, .slice a2 m2 d2] 26 (0, 0)) from by rw [hwn]; exact blk3_2 (blk3_1 (blk3_0 HBB.out (.slice a0 m0 d0)) (.slice a1 m1 d1)) (.slice a2 m2 d2))
          clear hwn HBB g0 g1 g2 f0 f1 f2
          refine hK.out _ _ ?_ (fun hHeld => ?_)
          · exact HS.out _ XZ5.out
          clear hK K
          try simp only [Act.put, List.getElem_toArray, List.getElem_cons_zero, List.getElem_cons_succ, List.setIfInBounds_toArray, List.set_cons_zero, List.set_cons_succ]
          refine wpAnyH_ready (rs := [7]) (by kernel_rfl) (by simp) ?_
          refine AllReadyH.cons rfl (fun K hK => ?_) AllReadyH.nil
          have hb := H6.out
          have g0 : z5.cell? ⟨z2.heap.size, 0, none⟩ = some (.slice none 0 0) := by simp [World.cell?, hb]
          have g1 : z5.cell? ⟨z2.heap.size, 1, none⟩ = some (.slice none 0 0) := by simp [World.cell?, hb]
          have g2 : z5.cell? ⟨z2.heap.size, 2, none⟩ = some (.slice none 0 0) := by simp [World.cell?, hb]
          have f0 : z5.frozen? ⟨z2.heap.size, 0, none⟩ = false := by simp [World.frozen?, hb]
          have f1 : z5.frozen? ⟨z2.heap.size, 1, none⟩ = false := by simp [World.frozen?, hb]
          have f2 : z5.frozen? ⟨z2.heap.size, 2, none⟩ = false := by simp [World.frozen?, hb]
          have HBB := Lib.hid hb
          clear hb
          go_simp
          obtain ⟨z6, hwn⟩ : ∃ z6 : World, z6 = ((z5.setCell ⟨z2.heap.size, 0, none⟩ (.slice a02 m02 d02)).setCell ⟨z2.heap.size, 1, none⟩ (.slice a12 m12 d12)).setCell ⟨z2.heap.size, 2, none⟩ (.slice a22 m22 d22) := ⟨_, rfl⟩
          rw [← hwn]
          have XZ6 := Lib.hid (show Ext V z6 by rw [hwn]; exact ((XZ5.out.setCell (p := ⟨z2.heap.size, 0, none⟩) PP5.out _).setCell (p := ⟨z2.heap.size, 1, none⟩) PP5.out _).setCell (p := ⟨z2.heap.size, 2, none⟩) PP5.out _)
          have G1 := Lib.hid (show CO V z6 _ _ ∧ CO V z6 _ _ ∧ CO V z6 _ _ ∧ _ from by rw [hwn]; exact ⟨G1.out.1.put3 HBB.out PP5.out _ _ _, G1.out.2.1.put3 HBB.out PP5.out _ _ _, G1.out.2.2.1.put3 HBB.out PP5.out _ _ _, G1.out.2.2.2⟩)
          have G3 := Lib.hid (show CO V z6 _ _ ∧ CO V z6 _ _ ∧ CO V z6 _ _ ∧ _ from by rw [hwn]; exact ⟨G3.out.1.put3 HBB.out PP5.out _ _ _, G3.out.2.1.put3 HBB.out PP5.out _ _ _, G3.out.2.2.1.put3 HBB.out PP5.out _ _ _, G3.out.2.2.2⟩)
          have H5 := Lib.hid (show z6.heap[z1.heap.size]? = some (.cells #[.slice a0 m0 d0, .slice a1 m1 d1, .slice a2 m2 d2] 26 (0, 0)) from by rw [hwn]; exact (blk_set3 NE.out).trans H5.out)
          have H6 := Lib.hid (show z6.heap[z2.heap.size]? = some (.cells #[.slice a02 m02 d02, .slice a12 m12 d12, .slice a22 m22 d22] 26 (0, 0)) from by rw [hwn]; exact blk3_2 (blk3_1 (blk3_0 HBB.out (.slice a02 m02 d02)) (.slice a12 m12 d12)) (.slice a22 m22 d22))
          clear hwn HBB g0 g1 g2 f0 f1 f2
          refine hK.out _ _ ?_ (fun hHeld => ?_)
          · exact HS.out _ XZ6.out
          clear hK K
          try simp only [Act.put, List.getElem_toArray, List.getElem_cons_zero, List.getElem_cons_succ, List.setIfInBounds_toArray, List.set_cons_zero, List.set_cons_succ]
          refine wpAnyH_done (by kernel_rfl) ?_ _
          go_wp2_with fail
          go_meet
          case rel => exact ⟨_, _, _, _, _, _, _, _, _, _, _, _, _, _, _, _, _, _, _, _, _, _, _, _, _, _, rfl, rfl, H5.out, H6.out, G1.out.1, G1.out.2.1, G1.out.2.2.1, G3.out.1, G3.out.2.1, G3.out.2.2.1, G1.out.2.2.2, G3.out.2.2.2⟩
      · skip
        go_simp
        obtain ⟨z2, hwn⟩ : ∃ z2 : World, z2 = z1.alloc (.cells #[.slice none 0 0, .slice none 0 0, .slice none 0 0] 26) := ⟨_, rfl⟩
        rw [← hwn]
        have x : Ext z1 z2 := by rw [hwn]; exact (Ext.refl _).alloc _
        have hb : z2.heap[z1.heap.size]? = some (Obj.cells #[.slice none 0 0, .slice none 0 0, .slice none 0 0] 26 (0, 0)) := by rw [hwn]; exact blk_at rfl
        have XZ2 := Lib.hid (XZ1.out.trans x)
        have PP5 : Hid (V.heap.size ≤ z1.heap.size) := Lib.hid (XZ1.out.size)
        have G1 := Lib.hid (show CO V z2 _ _ ∧ CO V z2 _ _ ∧ CO V z2 _ _ ∧ _ from ⟨G1.out.1.later x, G1.out.2.1.later x, G1.out.2.2.1.later x, G1.out.2.2.2⟩)
        have H6 := Lib.hid hb
        clear hwn hb x
        refine hK.out _ _ ?_ (fun hHeld => ?_)
        · exact HS.out _ XZ2.out
        clear hK K
        try simp only [Act.put, List.getElem_toArray, List.getElem_cons_zero, List.getElem_cons_succ, List.setIfInBounds_toArray, List.set_cons_zero, List.set_cons_succ]
        refine wpAnyH_ready (rs := [3, 4]) (by kernel_rfl) (by simp) ?_
        refine AllReadyH.cons rfl (fun K hK => ?_) (AllReadyH.cons rfl (fun K hK => ?_) AllReadyH.nil)
        · skip
          go_simp
          refine (HM2.out _ XZ2.out).mono ?_
          intro e z3 hh
          obtain ⟨q0, q1, q2, L2, T2, R2, rfl, c1, c2, c3, hok⟩ := hh
          obtain ⟨a02, m02, d02, hv0, hx0⟩ := c1.form
          subst hv0
          clear hx0
          obtain ⟨a12, m12, d12, hv1, hx1⟩ := c2.form
          subst hv1
          clear hx1
          obtain ⟨a22, m22, d22, hv2, hx2⟩ := c3.form
          subst hv2
          clear hx2
          have x := c1.1
          have XZ3 := Lib.hid ((XZ2.out).trans x)
          have G1 := Lib.hid (show CO V z3 _ _ ∧ CO V z3 _ _ ∧ CO V z3 _ _ ∧ _ from ⟨G1.out.1.later x, G1.out.2.1.later x, G1.out.2.2.1.later x, G1.out.2.2.2⟩)
          have H6 := Lib.hid (x.block H6.out)
          have G3 := Lib.hid (And.intro (c1.base (XZ2.out)) (And.intro (c2.base (XZ2.out)) (And.intro (c3.base (XZ2.out)) hok)))
          clear c1 c2 c3 hok x
          go_simp
          refine hK.out _ _ ?_ (fun hHeld => ?_)
          · exact HS.out _ XZ3.out
          clear hK K
          try simp only [Act.put, List.getElem_toArray, List.getElem_cons_zero, List.getElem_cons_succ, List.setIfInBounds_toArray, List.set_cons_zero, List.set_cons_succ]
          refine wpAnyH_ready (rs := [4]) (by kernel_rfl) (by simp) ?_
          refine AllReadyH.cons rfl (fun K hK => ?_) AllReadyH.nil
          go_simp
          obtain ⟨z4, hwn⟩ : ∃ z4 : World, z4 = z3.alloc (.cells #[.slice none 0 0, .slice none 0 0, .slice none 0 0] 26) := ⟨_, rfl⟩
          rw [← hwn]
          have x : Ext z3 z4 := by rw [hwn]; exact (Ext.refl _).alloc _
          have hb : z4.heap[z3.heap.size]? = some (Obj.cells #[.slice none 0 0, .slice none 0 0, .slice none 0 0] 26 (0, 0)) := by rw [hwn]; exact blk_at rfl
          have XZ4 := Lib.hid (XZ3.out.trans x)
          have PP4 : Hid (V.heap.size ≤ z3.heap.size) := Lib.hid (XZ3.out.size)
          have NE : Hid (z3.heap.size ≠ z1.heap.size) := Lib.hid (by have := lt_of_block H6.out; omega)
          have G1 := Lib.hid (show CO V z4 _ _ ∧ CO V z4 _ _ ∧ CO V z4 _ _ ∧ _ from ⟨G1.out.1.later x, G1.out.2.1.later x, G1.out.2.2.1.later x, G1.out.2.2.2⟩)
          have G3 := Lib.hid (show CO V z4 _ _ ∧ CO V z4 _ _ ∧ CO V z4 _ _ ∧ _ from ⟨G3.out.1.later x, G3.out.2.1.later x, G3.out.2.2.1.later x, G3.out.2.2.2⟩)
          have H6 := Lib.hid (x.block H6.out)
          have H5 := Lib.hid hb
          clear hwn hb x
          refine hK.out _ _ ?_ (fun hHeld => ?_)
          · exact HS.out _ XZ4.out
          clear hK K
          try simp only [Act.put, List.getElem_toArray, List.getElem_cons_zero, List.getElem_cons_succ, List.setIfInBounds_toArray, List.set_cons_zero, List.set_cons_succ]
          refine wpAnyH_ready (rs := [6]) (by kernel_rfl) (by simp) ?_
          refine AllReadyH.cons rfl (fun K hK => ?_) AllReadyH.nil
          have hb := H5.out
          have g0 : z4.cell? ⟨z3.heap.size, 0, none⟩ = some (.slice none 0 0) := by simp [World.cell?, hb]
          have g1 : z4.cell? ⟨z3.heap.size, 1, none⟩ = some (.slice none 0 0) := by simp [World.cell?, hb]
          have g2 : z4.cell? ⟨z3.heap.size, 2, none⟩ = some (.slice none 0 0) := by simp [World.cell?, hb]
          have f0 : z4.frozen? ⟨z3.heap.size, 0, none⟩ = false := by simp [World.frozen?, hb]
          have f1 : z4.frozen? ⟨z3.heap.size, 1, none⟩ = false := by simp [World.frozen?, hb]
          have f2 : z4.frozen? ⟨z3.heap.size, 2, none⟩ = false := by simp [World.frozen?, hb]
          have HBB := Lib.hid hb
          clear hb
          go_simp
          obtain ⟨z5, hwn⟩ : ∃ z5 : World, z5 = ((z4.setCell ⟨z3.heap.size, 0, none⟩ (.slice a0 m0 d0)).setCell ⟨z3.heap.size, 1, none⟩ (.slice a1 m1 d1)).setCell ⟨z3.heap.size, 2, none⟩ (.slice a2 m2 d2) := ⟨_, rfl⟩
          rw [← hwn]
          have XZ5 := Lib.hid (show Ext V z5 by rw [hwn]; exact ((XZ4.out.setCell (p := ⟨z3.heap.size, 0, none⟩) PP4.out _).setCell (p := ⟨z3.heap.size, 1, none⟩) PP4.out _).setCell (p := ⟨z3.heap.size, 2, none⟩) PP4.out _)
          have G1 := Lib.hid (show CO V z5 _ _ ∧ CO V z5 _ _ ∧ CO V z5 _ _ ∧ _ from by rw [hwn]; exact ⟨G1.out.1.put3 HBB.out PP4.out _ _ _, G1.out.2.1.put3 HBB.out PP4.out _ _ _, G1.out.2.2.1.put3 HBB.out PP4.out _ _ _, G1.out.2.2.2⟩)
          have G3 := Lib.hid (show CO V z5 _ _ ∧ CO V z5 _ _ ∧ CO V z5 _ _ ∧ _ from by rw [hwn]; exact ⟨G3.out.1.put3 HBB.out PP4.out _ _ _, G3.out.2.1.put3 HBB.out PP4.out _ _ _, G3.out.2.2.1.put3 HBB.out PP4.out _ _ _, G3.out.2.2.2⟩)
          have H6 := Lib.hid (show z5.heap[z1.heap.size]? = some (.cells #[.slice none 0 0, .slice none 0 0, .slice none 0 0] 26 (0, 0)) from by rw [hwn]; exact (blk_set3 (Ne.symm NE.out)).trans H6.out)
          have H5 := Lib.hid (show z5.heap[z3.heap.size]? = some (.cells #[.slice a0 m0 d0, .slice a1 m1 d1, .slice a2 m2 d2] 26 (0, 0)) from by rw [hwn]; exact blk3_2 (blk3_1 (blk3_0 HBB.out (.slice a0 m0 d0)) (.slice a1 m1 d1)) (.slice a2 m2 d2))
          clear hwn HBB g0 g1 g2 f0 f1 f2
          refine hK.out _ _ ?_ (fun hHeld => ?_)
          · exact HS.out _ XZ5.out
          clear hK K
          try simp only [Act.put, List.getElem_toArray, List.getElem_cons_zero, List.getElem_cons_succ, List.setIfInBounds_toArray, List.set_cons_zero, List.set_cons_succ]
          refine wpAnyH_ready (rs := [7]) (by kernel_rfl) (by simp) ?_
          refine AllReadyH.cons rfl (fun K hK => ?_) AllReadyH.nil
          have hb := H6.out
          have g0 : z5.cell? ⟨z1.heap.size, 0, none⟩ = some (.slice none 0 0) := by simp [World.cell?, hb]
          have g1 : z5.cell? ⟨z1.heap.size, 1, none⟩ = some (.slice none 0 0) := by simp [World.cell?, hb]
          have g2 : z5.cell? ⟨z1.heap.size, 2, none⟩ = some (.slice none 0 0) := by simp [World.cell?, hb]
          have f0 : z5.frozen? ⟨z1.heap.size, 0, none⟩ = false := by simp [World.frozen?, hb]
          have f1 : z5.frozen? ⟨z1.heap.size, 1, none⟩ = false := by simp [World.frozen?, hb]
          have f2 : z5.frozen? ⟨z1.heap.size, 2, none⟩ = false := by simp [World.frozen?, hb]
          have HBB := Lib.hid hb
          clear hb
          go_simp
          obtain ⟨z6, hwn⟩ : ∃ z6 : World, z6 = ((z5.setCell ⟨z1.heap.size, 0, none⟩ (.slice a02 m02 d02)).setCell ⟨z1.heap.size, 1, none⟩ (.slice a12 m12 d12)).setCell ⟨z1.heap.size, 2, none⟩ (.slice a22 m22 d22) := ⟨_, rfl⟩
          rw [← hwn]
          have XZ6 := Lib.hid (show Ext V z6 by rw [hwn]; exact ((XZ5.out.setCell (p := ⟨z1.heap.size, 0, none⟩) PP5.out _).setCell (p := ⟨z1.heap.size, 1, none⟩) PP5.out _).setCell (p := ⟨z1.heap.size, 2, none⟩) PP5.out _)
          have G1 := Lib.hid (show CO V z6 _ _ ∧ CO V z6 _ _ ∧ CO V z6 _ _ ∧ _ from by rw [hwn]; exact ⟨G1.out.1.put3 HBB.out PP5.out _ _ _, G1.out.2.1.put3 HBB.out PP5.out _ _ _, G1.out.2.2.1.put3 HBB.out PP5.out _ _ _, G1.out.2.2.2⟩)
          have G3 := Lib.hid (show CO V z6 _ _ ∧ CO V z6 _ _ ∧ CO V z6 _ _ ∧ _ from by rw [hwn]; exact ⟨G3.out.1.put3 HBB.out PP5.out _ _ _, G3.out.2.1.put3 HBB.out PP5.out _ _ _, G3.out.2.2.1.put3 HBB.out PP5.out _ _ _, G3.out.2.2.2⟩)
          have H5 := Lib.hid (show z6.heap[z3.heap.size]? = some (.cells #[.slice a0 m0 d0, .slice a1 m1 d1, .slice a2 m2 d2] 26 (0, 0)) from by rw [hwn]; exact (blk_set3 NE.out).trans H5.out)
          have H6 := Lib.hid (show z6.heap[z1.heap.size]? = some (.cells #[.slice a02 m02 d02, .slice a12 m12 d12, .slice a22 m22 d22] 26 (0, 0)) from by rw [hwn]; exact blk3_2 (blk3_1 (blk3_0 HBB.out (.slice a02 m02 d02)) (.slice a12 m12 d12)) (.slice a22 m22 d22))
          clear hwn HBB g0 g1 g2 f0 f1 f2
          refine hK.out _ _ ?_ (fun hHeld => ?_)
          · exact HS.out _ XZ6.out
          clear hK K
          try simp only [Act.put, List.getElem_toArray, List.getElem_cons_zero, List.getElem_cons_succ, List.setIfInBounds_toArray, List.set_cons_zero, List.set_cons_succ]
          refine wpAnyH_done (by kernel_rfl) ?_ _
          go_wp2_with fail
          go_meet
          case rel => exact ⟨_, _, _, _, _, _, _, _, _, _, _, _, _, _, _, _, _, _, _, _, _, _, _, _, _, _, rfl, rfl, H5.out, H6.out, G1.out.1, G1.out.2.1, G1.out.2.2.1, G3.out.1, G3.out.2.1, G3.out.2.2.1, G1.out.2.2.2, G3.out.2.2.2⟩
        · skip
          go_simp
          obtain ⟨z3, hwn⟩ : ∃ z3 : World, z3 = z2.alloc (.cells #[.slice none 0 0, .slice none 0 0, .slice none 0 0] 26) := ⟨_, rfl⟩
          rw [← hwn]
          have x : Ext z2 z3 := by rw [hwn]; exact (Ext.refl _).alloc _
          have hb : z3.heap[z2.heap.size]? = some (Obj.cells #[.slice none 0 0, .slice none 0 0, .slice none 0 0] 26 (0, 0)) := by rw [hwn]; exact blk_at rfl
          have XZ3 := Lib.hid (XZ2.out.trans x)
          have PP4 : Hid (V.heap.size ≤ z2.heap.size) := Lib.hid (XZ2.out.size)
          have NE : Hid (z2.heap.size ≠ z1.heap.size) := Lib.hid (by have := lt_of_block H6.out; omega)
          have G1 := Lib.hid (show CO V z3 _ _ ∧ CO V z3 _ _ ∧ CO V z3 _ _ ∧ _ from ⟨G1.out.1.later x, G1.out.2.1.later x, G1.out.2.2.1.later x, G1.out.2.2.2⟩)
          have H6 := Lib.hid (x.block H6.out)
          have H5 := Lib.hid hb
          clear hwn hb x
          refine hK.out _ _ ?_ (fun hHeld => ?_)
          · exact HS.out _ XZ3.out
          clear hK K
          try simp only [Act.put, List.getElem_toArray, List.getElem_cons_zero, List.getElem_cons_succ, List.setIfInBounds_toArray, List.set_cons_zero, List.set_cons_succ]
          refine wpAnyH_ready (rs := [3]) (by kernel_rfl) (by simp) ?_
          refine AllReadyH.cons rfl (fun K hK => ?_) AllReadyH.nil
          go_simp
          refine (HM2.out _ XZ3.out).mono ?_
          intro e z4 hh
          obtain ⟨q0, q1, q2, L2, T2, R2, rfl, c1, c2, c3, hok⟩ := hh
          obtain ⟨a02, m02, d02, hv0, hx0⟩ := c1.form
          subst hv0
          clear hx0
          obtain ⟨a12, m12, d12, hv1, hx1⟩ := c2.form
          subst hv1
          clear hx1
          obtain ⟨a22, m22, d22, hv2, hx2⟩ := c3.form
          subst hv2
          clear hx2
          have x := c1.1
          have XZ4 := Lib.hid ((XZ3.out).trans x)
          have G1 := Lib.hid (show CO V z4 _ _ ∧ CO V z4 _ _ ∧ CO V z4 _ _ ∧ _ from ⟨G1.out.1.later x, G1.out.2.1.later x, G1.out.2.2.1.later x, G1.out.2.2.2⟩)
          have H5 := Lib.hid (x.block H5.out)
          have H6 := Lib.hid (x.block H6.out)
          have G3 := Lib.hid (And.intro (c1.base (XZ3.out)) (And.intro (c2.base (XZ3.out)) (And.intro (c3.base (XZ3.out)) hok)))
          clear c1 c2 c3 hok x
          go_simp
          refine hK.out _ _ ?_ (fun hHeld => ?_)
          · exact HS.out _ XZ4.out
          clear hK K
          try simp only [Act.put, List.getElem_toArray, List.getElem_cons_zero, List.getElem_cons_succ, List.setIfInBounds_toArray, List.set_cons_zero, List.set_cons_succ]
          refine wpAnyH_ready (rs := [6]) (by kernel_rfl) (by simp) ?_
          refine AllReadyH.cons rfl (fun K hK => ?_) AllReadyH.nil
          have hb := H5.out
          have g0 : z4.cell? ⟨z2.heap.size, 0, none⟩ = some (.slice none 0 0) := by simp [World.cell?, hb]
          have g1 : z4.cell? ⟨z2.heap.size, 1, none⟩ = some (.slice none 0 0) := by simp [World.cell?, hb]
          have g2 : z4.cell? ⟨z2.heap.size, 2, none⟩ = some (.slice none 0 0) := by simp [World.cell?, hb]
          have f0 : z4.frozen? ⟨z2.heap.size, 0, none⟩ = false := by simp [World.frozen?, hb]
          have f1 : z4.frozen? ⟨z2.heap.size, 1, none⟩ = false := by simp [World.frozen?, hb]
          have f2 : z4.frozen? ⟨z2.heap.size, 2, none⟩ = false := by simp [World.frozen?, hb]
          have HBB := Lib.hid hb
          clear hb
          go_simp
          obtain ⟨z5, hwn⟩ : ∃ z5 : World, z5 = ((z4.setCell ⟨z2.heap.size, 0, none⟩ (.slice a0 m0 d0)).setCell ⟨z2.heap.size, 1, none⟩ (.slice a1 m1 d1)).setCell ⟨z2.heap.size, 2, none⟩ (.slice a2 m2 d2) := ⟨_, rfl⟩
          rw [← hwn]
          have XZ5 := Lib.hid (show Ext V z5 by rw [hwn]; exact ((XZ4.out.setCell (p := ⟨z2.heap.size, 0, none⟩) PP4.out _).setCell (p := ⟨z2.heap.size, 1, none⟩) PP4.out _).setCell (p := ⟨z2.heap.size, 2, none⟩) PP4.out _)
          have G1 := Lib.hid (show CO V z5 _ _ ∧ CO V z5 _ _ ∧ CO V z5 _ _ ∧ _ from by rw [hwn]; exact ⟨G1.out.1.put3 HBB.out PP4.out _ _ _, G1.out.2.1.put3 HBB.out PP4.out _ _ _, G1.out.2.2.1.put3 HBB.out PP4.out _ _ _, G1.out.2.2.2⟩)
          have G3 := Lib.hid (show CO V z5 _ _ ∧ CO V z5 _ _ ∧ CO V z5 _ _ ∧ _ from by rw [hwn]; exact ⟨G3.out.1.put3 HBB.out PP4.out _ _ _, G3.out.2.1.put3 HBB.out PP4.out _ _ _, G3.out.2.2.1.put3 HBB.out PP4.out _ _ _, G3.out.2.2.2⟩)
          have H6 := Lib.hid (show z5.heap[z1.heap.size]? = some (.cells #[.slice none 0 0, .slice none 0 0, .slice none 0 0] 26 (0, 0)) from by rw [hwn]; exact (blk_set3 (Ne.symm NE.out)).trans H6.out)
          have H5 := Lib.hid (show z5.heap[z2.heap.size]? = some (.cells #[.slice a0 m0 d0, .slice a1 m1 d1, .slice a2 m2 d2] 26 (0, 0)) from by rw [hwn]; exact blk3_2 (blk3_1 (blk3_0 HBB.out (.slice a0 m0 d0)) (.slice a1 m1 d1)) (.slice a2 m2 d2))
          clear hwn HBB g0 g1 g2 f0 f1 f2
          refine hK.out _ _ ?_ (fun hHeld => ?_)
          · exact HS.out _ XZ5.out
          clear hK K
          try simp only [Act.put, List.getElem_toArray, List.getElem_cons_zero, List.getElem_cons_succ, List.setIfInBounds_toArray, List.set_cons_zero, List.set_cons_succ]
          refine wpAnyH_ready (rs := [7]) (by kernel_rfl) (by simp) ?_
          refine AllReadyH.cons rfl (fun K hK => ?_) AllReadyH.nil
          have hb := H6.out
          have g0 : z5.cell? ⟨z1.heap.size, 0, none⟩ = some (.slice none 0 0) := by simp [World.cell?, hb]
          have g1 : z5.cell? ⟨z1.heap.size, 1, none⟩ = some (.slice none 0 0) := by simp [World.cell?, hb]
          have g2 : z5.cell? ⟨z1.heap.size, 2, none⟩ = some (.slice none 0 0) := by simp [World.cell?, hb]
          have f0 : z5.frozen? ⟨z1.heap.size, 0, none⟩ = false := by simp [World.frozen?, hb]
          have f1 : z5.frozen? ⟨z1.heap.size, 1, none⟩ = false := by simp [World.frozen?, hb]
          have f2 : z5.frozen? ⟨z1.heap.size, 2, none⟩ = false := by simp [World.frozen?, hb]
          have HBB := Lib.hid hb
          clear hb
          go_simp
          obtain ⟨z6, hwn⟩ : ∃ z6 : World, z6 = ((z5.setCell ⟨z1.heap.size, 0, none⟩ (.slice a02 m02 d02)).setCell ⟨z1.heap.size, 1, none⟩ (.slice a12 m12 d12)).setCell ⟨z1.heap.size, 2, none⟩ (.slice a22 m22 d22) := ⟨_, rfl⟩
          rw [← hwn]
          have XZ6 := Lib.hid (show Ext V z6 by rw [hwn]; exact ((XZ5.out.setCell (p := ⟨z1.heap.size, 0, none⟩) PP5.out _).setCell (p := ⟨z1.heap.size, 1, none⟩) PP5.out _).setCell (p := ⟨z1.heap.size, 2, none⟩) PP5.out _)
          have G1 := Lib.hid (show CO V z6 _ _ ∧ CO V z6 _ _ ∧ CO V z6 _ _ ∧ _ from by rw [hwn]; exact ⟨G1.out.1.put3 HBB.out PP5.out _ _ _, G1.out.2.1.put3 HBB.out PP5.out _ _ _, G1.out.2.2.1.put3 HBB.out PP5.out _ _ _, G1.out.2.2.2⟩)
          have G3 := Lib.hid (show CO V z6 _ _ ∧ CO V z6 _ _ ∧ CO V z6 _ _ ∧ _ from by rw [hwn]; exact ⟨G3.out.1.put3 HBB.out PP5.out _ _ _, G3.out.2.1.put3 HBB.out PP5.out _ _ _, G3.out.2.2.1.put3 HBB.out PP5.out _ _ _, G3.out.2.2.2⟩)
          have H5 := Lib.hid (show z6.heap[z2.heap.size]? = some (.cells #[.slice a0 m0 d0, .slice a1 m1 d1, .slice a2 m2 d2] 26 (0, 0)) from by rw [hwn]; exact (blk_set3 NE.out).trans H5.out)
          have H6 := Lib.hid (show z6.heap[z1.heap.size]? = some (.cells #[.slice a02 m02 d02, .slice a12 m12 d12, .slice a22 m22 d22] 26 (0, 0)) from by rw [hwn]; exact blk3_2 (blk3_1 (blk3_0 HBB.out (.slice a02 m02 d02)) (.slice a12 m12 d12)) (.slice a22 m22 d22))
          clear hwn HBB g0 g1 g2 f0 f1 f2
          refine hK.out _ _ ?_ (fun hHeld => ?_)
          · exact HS.out _ XZ6.out
          clear hK K
          try simp only [Act.put, List.getElem_toArray, List.getElem_cons_zero, List.getElem_cons_succ, List.setIfInBounds_toArray, List.set_cons_zero, List.set_cons_succ]
          refine wpAnyH_done (by kernel_rfl) ?_ _
          go_wp2_with fail
          go_meet
          case rel => exact ⟨_, _, _, _, _, _, _, _, _, _, _, _, _, _, _, _, _, _, _, _, _, _, _, _, _, _, rfl, rfl, H5.out, H6.out, G1.out.1, G1.out.2.1, G1.out.2.2.1, G3.out.1, G3.out.2.1, G3.out.2.2.1, G1.out.2.2.2, G3.out.2.2.2⟩
    · skip
      go_simp
      obtain ⟨z1, hwn⟩ : ∃ z1 : World, z1 = (V.alloc (.cells #[.slice none 0 0, .slice none 0 0, .slice none 0 0] 26)).drew := ⟨_, rfl⟩
      rw [← hwn]
      have x : Ext V z1 := by rw [hwn]; exact ((Ext.refl _).alloc _).drew
      have hb : z1.heap[V.heap.size]? = some (Obj.cells #[.slice none 0 0, .slice none 0 0, .slice none 0 0] 26 (0, 0)) := by rw [hwn]; show (V.alloc _).heap[_]? = _; exact blk_at rfl
      have XZ1 := Lib.hid ((Ext.refl V).trans x)
      have PP4 : Hid (V.heap.size ≤ V.heap.size) := Lib.hid ((Ext.refl V).size)
      have H5 := Lib.hid hb
      clear hwn hb x
      refine hK.out _ _ ?_ (fun hHeld => ?_)
      · exact HS.out _ XZ1.out
      clear hK K
      try simp only [Act.put, List.getElem_toArray, List.getElem_cons_zero, List.getElem_cons_succ, List.setIfInBounds_toArray, List.set_cons_zero, List.set_cons_succ]
      refine wpAnyH_ready (rs := [1, 5]) (by kernel_rfl) (by simp) ?_
      refine AllReadyH.cons rfl (fun K hK => ?_) (AllReadyH.cons rfl (fun K hK => ?_) AllReadyH.nil)
      · skip
        go_simp
        refine (HM.out _ XZ1.out).mono ?_
        intro e z2 hh
        obtain ⟨q0, q1, q2, L, T, R, rfl, c1, c2, c3, hok⟩ := hh
        obtain ⟨a0, m0, d0, hv0, hx0⟩ := c1.form
        subst hv0
        clear hx0
        obtain ⟨a1, m1, d1, hv1, hx1⟩ := c2.form
        subst hv1
        clear hx1
        obtain ⟨a2, m2, d2, hv2, hx2⟩ := c3.form
        subst hv2
        clear hx2
        have x := c1.1
        have XZ2 := Lib.hid ((XZ1.out).trans x)
        have H5 := Lib.hid (x.block H5.out)
        have G1 := Lib.hid (And.intro (c1.base (XZ1.out)) (And.intro (c2.base (XZ1.out)) (And.intro (c3.base (XZ1.out)) hok)))
        clear c1 c2 c3 hok x
        go_simp
        refine hK.out _ _ ?_ (fun hHeld => ?_)
        · exact HS.out _ XZ2.out
        clear hK K
        try simp only [Act.put, List.getElem_toArray, List.getElem_cons_zero, List.getElem_cons_succ, List.setIfInBounds_toArray, List.set_cons_zero, List.set_cons_succ]
        refine wpAnyH_ready (rs := [3, 5]) (by kernel_rfl) (by simp) ?_
        refine AllReadyH.cons rfl (fun K hK => ?_) (AllReadyH.cons rfl (fun K hK => ?_) AllReadyH.nil)
        · skip
          go_simp
          refine (HM2.out _ XZ2.out).mono ?_
          intro e z3 hh
          obtain ⟨q0, q1, q2, L2, T2, R2, rfl, c1, c2, c3, hok⟩ := hh
          obtain ⟨a02, m02, d02, hv0, hx0⟩ := c1.form
          subst hv0
          clear hx0
          obtain ⟨a12, m12, d12, hv1, hx1⟩ := c2.form
          subst hv1
          clear hx1
          obtain ⟨a22, m22, d22, hv2, hx2⟩ := c3.form
          subst hv2
          clear hx2
          have x := c1.1
          have XZ3 := Lib.hid ((XZ2.out).trans x)
          have G1 := Lib.hid (show CO V z3 _ _ ∧ CO V z3 _ _ ∧ CO V z3 _ _ ∧ _ from ⟨G1.out.1.later x, G1.out.2.1.later x, G1.out.2.2.1.later x, G1.out.2.2.2⟩)
          have H5 := Lib.hid (x.block H5.out)
          have G3 := Lib.hid (And.intro (c1.base (XZ2.out)) (And.intro (c2.base (XZ2.out)) (And.intro (c3.base (XZ2.out)) hok)))
          clear c1 c2 c3 hok x
          go_simp
          refine hK.out _ _ ?_ (fun hHeld => ?_)
          · exact HS.out _ XZ3.out
          clear hK K
          try simp only [Act.put, List.getElem_toArray, List.getElem_cons_zero, List.getElem_cons_succ, List.setIfInBounds_toArray, List.set_cons_zero, List.set_cons_succ]
          refine wpAnyH_ready (rs := [5]) (by kernel_rfl) (by simp) ?_
          refine AllReadyH.cons rfl (fun K hK => ?_) AllReadyH.nil
          go_simp
          obtain ⟨z4, hwn⟩ : ∃ z4 : World, z4 = z3.alloc (.cells #[.slice none 0 0, .slice none 0 0, .slice none 0 0] 26) := ⟨_, rfl⟩
          rw [← hwn]
          have x : Ext z3 z4 := by rw [hwn]; exact (Ext.refl _).alloc _
          have hb : z4.heap[z3.heap.size]? = some (Obj.cells #[.slice none 0 0, .slice none 0 0, .slice none 0 0] 26 (0, 0)) := by rw [hwn]; exact blk_at rfl
          have XZ4 := Lib.hid (XZ3.out.trans x)
          have PP5 : Hid (V.heap.size ≤ z3.heap.size) := Lib.hid (XZ3.out.size)
          have NE : Hid (V.heap.size ≠ z3.heap.size) := Lib.hid (by have := lt_of_block H5.out; omega)
          have G1 := Lib.hid (show CO V z4 _ _ ∧ CO V z4 _ _ ∧ CO V z4 _ _ ∧ _ from ⟨G1.out.1.later x, G1.out.2.1.later x, G1.out.2.2.1.later x, G1.out.2.2.2⟩)
          have G3 := Lib.hid (show CO V z4 _ _ ∧ CO V z4 _ _ ∧ CO V z4 _ _ ∧ _ from ⟨G3.out.1.later x, G3.out.2.1.later x, G3.out.2.2.1.later x, G3.out.2.2.2⟩)
          have H5 := Lib.hid (x.block H5.out)
          have H6 := Lib.hid hb
          clear hwn hb x
          refine hK.out _ _ ?_ (fun hHeld => ?_)
          · exact HS.out _ XZ4.out
          clear hK K
          try simp only [Act.put, List.getElem_toArray, List.getElem_cons_zero, List.getElem_cons_succ, List.setIfInBounds_toArray, List.set_cons_zero, List.set_cons_succ]
          refine wpAnyH_ready (rs := [6]) (by kernel_rfl) (by simp) ?_
          refine AllReadyH.cons rfl (fun K hK => ?_) AllReadyH.nil
          have hb := H5.out
          have g0 : z4.cell? ⟨V.heap.size, 0, none⟩ = some (.slice none 0 0) := by simp [World.cell?, hb]
          have g1 : z4.cell? ⟨V.heap.size, 1, none⟩ = some (.slice none 0 0) := by simp [World.cell?, hb]
          have g2 : z4.cell? ⟨V.heap.size, 2, none⟩ = some (.slice none 0 0) := by simp [World.cell?, hb]
          have f0 : z4.frozen? ⟨V.heap.size, 0, none⟩ = false := by simp [World.frozen?, hb]
          have f1 : z4.frozen? ⟨V.heap.size, 1, none⟩ = false := by simp [World.frozen?, hb]
          have f2 : z4.frozen? ⟨V.heap.size, 2, none⟩ = false := by simp [World.frozen?, hb]
          have HBB := Lib.hid hb
          clear hb
          go_simp
          obtain ⟨z5, hwn⟩ : ∃ z5 : World, z5 = ((z4.setCell ⟨V.heap.size, 0, none⟩ (.slice a0 m0 d0)).setCell ⟨V.heap.size, 1, none⟩ (.slice a1 m1 d1)).setCell ⟨V.heap.size, 2, none⟩ (.slice a2 m2 d2) := ⟨_, rfl⟩
          rw [← hwn]
          have XZ5 := Lib.hid (show Ext V z5 by rw [hwn]; exact ((XZ4.out.setCell (p := ⟨V.heap.size, 0, none⟩) PP4.out _).setCell (p := ⟨V.heap.size, 1, none⟩) PP4.out _).setCell (p := ⟨V.heap.size, 2, none⟩) PP4.out _)
          have G1 := Lib.hid (show CO V z5 _ _ ∧ CO V z5 _ _ ∧ CO V z5 _ _ ∧ _ from by rw [hwn]; exact ⟨G1.out.1.put3 HBB.out PP4.out _ _ _, G1.out.2.1.put3 HBB.out PP4.out _ _ _, G1.out.2.2.1.put3 HBB.out PP4.out _ _ _, G1.out.2.2.2⟩)
          have G3 := Lib.hid (show CO V z5 _ _ ∧ CO V z5 _ _ ∧ CO V z5 _ _ ∧ _ from by rw [hwn]; exact ⟨G3.out.1.put3 HBB.out PP4.out _ _ _, G3.out.2.1.put3 HBB.out PP4.out _ _ _, G3.out.2.2.1.put3 HBB.out PP4.out _ _ _, G3.out.2.2.2⟩)
          have H6 := Lib.hid (show z5.heap[z3.heap.size]? = some (.cells #[.slice none 0 0, .slice none 0 0, .slice none 0 0] 26 (0, 0)) from by rw [hwn]; exact (blk_set3 (Ne.symm NE.out)).trans H6.out)
          have H5 := Lib.hid (show z5.heap[V.heap.size]? = some (.cells #[.slice a0 m0 d0, .slice a1 m1 d1, .slice a2 m2 d2] 26 (0, 0)) from by rw [hwn]; exact blk3_2 (blk3_1 (blk3_0 HBB.out (.slice a0 m0 d0)) (.slice a1 m1 d1)) (.slice a2 m2 d2))
          clear hwn HBB g0 g1 g2 f0 f1 f2
          refine hK.out _ _ ?_ (fun hHeld => ?_)
          · exact HS.out _ XZ5.out
          clear hK K
          try simp only [Act.put, List.getElem_toArray, List.getElem_cons_zero, List.getElem_cons_succ, List.setIfInBounds_toArray, List.set_cons_zero, List.set_cons_succ]
          refine wpAnyH_ready (rs := [7]) (by kernel_rfl) (by simp) ?_
          refine AllReadyH.cons rfl (fun K hK => ?_) AllReadyH.nil
          have hb := H6.out
          have g0 : z5.cell? ⟨z3.heap.size, 0, none⟩ = some (.slice none 0 0) := by simp [World.cell?, hb]
          have g1 : z5.cell? ⟨z3.heap.size, 1, none⟩ = some (.slice none 0 0) := by simp [World.cell?, hb]
          have g2 : z5.cell? ⟨z3.heap.size, 2, none⟩ = some (.slice none 0 0) := by simp [World.cell?, hb]
          have f0 : z5.frozen? ⟨z3.heap.size, 0, none⟩ = false := by simp [World.frozen?, hb]
          have f1 : z5.frozen? ⟨z3.heap.size, 1, none⟩ = false := by simp [World.frozen?, hb]
          have f2 : z5.frozen? ⟨z3.heap.size, 2, none⟩ = false := by simp [World.frozen?, hb]
          have HBB := Lib.hid hb
          clear hb
          go_simp
          obtain ⟨z6, hwn⟩ : ∃ z6 : World, z6 = ((z5.setCell ⟨z3.heap.size, 0, none⟩ (.slice a02 m02 d02)).setCell ⟨z3.heap.size, 1, none⟩ (.slice a12 m12 d12)).setCell ⟨z3.heap.size, 2, none⟩ (.slice a22 m22 d22) := ⟨_, rfl⟩
          rw [← hwn]
          have XZ6 := Lib.hid (show Ext V z6 by rw [hwn]; exact ((XZ5.out.setCell (p := ⟨z3.heap.size, 0, none⟩) PP5.out _).setCell (p := ⟨z3.heap.size, 1, none⟩) PP5.out _).setCell (p := ⟨z3.heap.size, 2, none⟩) PP5.out _)
          have G1 := Lib.hid (show CO V z6 _ _ ∧ CO V z6 _ _ ∧ CO V z6 _ _ ∧ _ from by rw [hwn]; exact ⟨G1.out.1.put3 HBB.out PP5.out _ _ _, G1.out.2.1.put3 HBB.out PP5.out _ _ _, G1.out.2.2.1.put3 HBB.out PP5.out _ _ _, G1.out.2.2.2⟩)
          have G3 := Lib.hid (show CO V z6 _ _ ∧ CO V z6 _ _ ∧ CO V z6 _ _ ∧ _ from by rw [hwn]; exact ⟨G3.out.1.put3 HBB.out PP5.out _ _ _, G3.out.2.1.put3 HBB.out PP5.out _ _ _, G3.out.2.2.1.put3 HBB.out PP5.out _ _ _, G3.out.2.2.2⟩)
          have H5 := Lib.hid (show z6.heap[V.heap.size]? = some (.cells #[.slice a0 m0 d0, .slice a1 m1 d1, .slice a2 m2 d2] 26 (0, 0)) from by rw [hwn]; exact (blk_set3 NE.out).trans H5.out)
          have H6 := Lib.hid (show z6.heap[z3.heap.size]? = some (.cells #[.slice a02 m02 d02, .slice a12 m12 d12, .slice a22 m22 d22] 26 (0, 0)) from by rw [hwn]; exact blk3_2 (blk3_1 (blk3_0 HBB.out (.slice a02 m02 d02)) (.slice a12 m12 d12)) (.slice a22 m22 d22))
          clear hwn HBB g0 g1 g2 f0 f1 f2
          refine hK.out _ _ ?_ (fun hHeld => ?_)
          · exact HS.out _ XZ6.out
          clear hK K
          try simp only [Act.put, List.getElem_toArray, List.getElem_cons_zero, List.getElem_cons_succ, List.setIfInBounds_toArray, List.set_cons_zero, List.set_cons_succ]
          refine wpAnyH_done (by kernel_rfl) ?_ _
          go_wp2_with fail
          go_meet
          case rel => exact ⟨_, _, _, _, _, _, _, _, _, _, _, _, _, _, _, _, _, _, _, _, _, _, _, _, _, _, rfl, rfl, H5.out, H6.out, G1.out.1, G1.out.2.1, G1.out.2.2.1, G3.out.1, G3.out.2.1, G3.out.2.2.1, G1.out.2.2.2, G3.out.2.2.2⟩
        · skip
          go_simp
          obtain ⟨z3, hwn⟩ : ∃ z3 : World, z3 = z2.alloc (.cells #[.slice none 0 0, .slice none 0 0, .slice none 0 0] 26) := ⟨_, rfl⟩
          rw [← hwn]
          have x : Ext z2 z3 := by rw [hwn]; exact (Ext.refl _).alloc _
          have hb : z3.heap[z2.heap.size]? = some (Obj.cells #[.slice none 0 0, .slice none 0 0, .slice none 0 0] 26 (0, 0)) := by rw [hwn]; exact blk_at rfl
          have XZ3 := Lib.hid (XZ2.out.trans x)
          have PP5 : Hid (V.heap.size ≤ z2.heap.size) := Lib.hid (XZ2.out.size)
          have NE : Hid (V.heap.size ≠ z2.heap.size) := Lib.hid (by have := lt_of_block H5.out; omega)
          have G1 := Lib.hid (show CO V z3 _ _ ∧ CO V z3 _ _ ∧ CO V z3 _ _ ∧ _ from ⟨G1.out.1.later x, G1.out.2.1.later x, G1.out.2.2.1.later x, G1.out.2.2.2⟩)
          have H5 := Lib.hid (x.block H5.out)
          have H6 := Lib.hid hb
          clear hwn hb x
          refine hK.out _ _ ?_ (fun hHeld => ?_)
          · exact HS.out _ XZ3.out
          clear hK K
          try simp only [Act.put, List.getElem_toArray, List.getElem_cons_zero, List.getElem_cons_succ, List.setIfInBounds_toArray, List.set_cons_zero, List.set_cons_succ]
          refine wpAnyH_ready (rs := [3]) (by kernel_rfl) (by simp) ?_
          refine AllReadyH.cons rfl (fun K hK => ?_) AllReadyH.nil
          go_simp
          refine (HM2.out _ XZ3.out).mono ?_
          intro e z4 hh
          obtain ⟨q0, q1, q2, L2, T2, R2, rfl, c1, c2, c3, hok⟩ := hh
          obtain ⟨a02, m02, d02, hv0, hx0⟩ := c1.form
          subst hv0
          clear hx0
          obtain ⟨a12, m12, d12, hv1, hx1⟩ := c2.form
          subst hv1
          clear hx1
          obtain ⟨a22, m22, d22, hv2, hx2⟩ := c3.form
          subst hv2
          clear hx2
          have x := c1.1
          have XZ4 := Lib.hid ((XZ3.out).trans x)
          have G1 := Lib.hid (show CO V z4 _ _ ∧ CO V z4 _ _ ∧ CO V z4 _ _ ∧ _ from ⟨G1.out.1.later x, G1.out.2.1.later x, G1.out.2.2.1.later x, G1.out.2.2.2⟩)
          have H5 := Lib.hid (x.block H5.out)
          have H6 := Lib.hid (x.block H6.out)
          have G3 := Lib.hid (And.intro (c1.base (XZ3.out)) (And.intro (c2.base (XZ3.out)) (And.intro (c3.base (XZ3.out)) hok)))
          clear c1 c2 c3 hok x
          go_simp
          refine hK.out _ _ ?_ (fun hHeld => ?_)
          · exact HS.out _ XZ4.out
          clear hK K
          try simp only [Act.put, List.getElem_toArray, List.getElem_cons_zero, List.getElem_cons_succ, List.setIfInBounds_toArray, List.set_cons_zero, List.set_cons_succ]
          refine wpAnyH_ready (rs := [6]) (by kernel_rfl) (by simp) ?_
          refine AllReadyH.cons rfl (fun K hK => ?_) AllReadyH.nil
          have hb := H5.out
          have g0 : z4.cell? ⟨V.heap.size, 0, none⟩ = some (.slice none 0 0) := by simp [World.cell?, hb]
          have g1 : z4.cell? ⟨V.heap.size, 1, none⟩ = some (.slice none 0 0) := by simp [World.cell?, hb]
          have g2 : z4.cell? ⟨V.heap.size, 2, none⟩ = some (.slice none 0 0) := by simp [World.cell?, hb]
          have f0 : z4.frozen? ⟨V.heap.size, 0, none⟩ = false := by simp [World.frozen?, hb]
          have f1 : z4.frozen? ⟨V.heap.size, 1, none⟩ = false := by simp [World.frozen?, hb]
          have f2 : z4.frozen? ⟨V.heap.size, 2, none⟩ = false := by simp [World.frozen?, hb]
          have HBB := Lib.hid hb
          clear hb
          go_simp
          obtain ⟨z5, hwn⟩ : ∃ z5 : World, z5 = ((z4.setCell ⟨V.heap.size, 0, none⟩ (.slice a0 m0 d0)).setCell ⟨V.heap.size, 1, none⟩ (.slice a1 m1 d1)).setCell ⟨V.heap.size, 2, none⟩ (.slice a2 m2 d2) := ⟨_, rfl⟩
          rw [← hwn]
          have XZ5 := Lib.hid (show Ext V z5 by rw [hwn]; exact ((XZ4.out.setCell (p := ⟨V.heap.size, 0, none⟩) PP4.out _).setCell (p := ⟨V.heap.size, 1, none⟩) PP4.out _).setCell (p := ⟨V.heap.size, 2, none⟩) PP4.out _)
          have G1 := Lib.hid (show CO V z5 _ _ ∧ CO V z5 _ _ ∧ CO V z5 _ _ ∧ _ from by rw [hwn]; exact ⟨G1.out.1.put3 HBB.out PP4.out _ _ _, G1.out.2.1.put3 HBB.out PP4.out _ _ _, G1.out.2.2.1.put3 HBB.out PP4.out _ _ _, G1.out.2.2.2⟩)
          have G3 := Lib.hid (show CO V z5 _ _ ∧ CO V z5 _ _ ∧ CO V z5 _ _ ∧ _ from by rw [hwn]; exact ⟨G3.out.1.put3 HBB.out PP4.out _ _ _, G3.out.2.1.put3 HBB.out PP4.out _ _ _, G3.out.2.2.1.put3 HBB.out PP4.out _ _ _, G3.out.2.2.2⟩)
          have H6 := Lib.hid (show z5.heap[z2.heap.size]? = some (.cells #[.slice none 0 0, .slice none 0 0, .slice none 0 0] 26 (0, 0)) from by rw [hwn]; exact (blk_set3 (Ne.symm NE.out)).trans H6.out)
          have H5 := Lib.hid (show z5.heap[V.heap.size]? = some (.cells #[.slice a0 m0 d0, .slice a1 m1 d1, .slice a2 m2 d2] 26 (0, 0)) from by rw [hwn]; exact blk3_2 (blk3_1 (blk3_0 HBB.out (.slice a0 m0 d0)) (.slice a1 m1 d1)) (.slice a2 m2 d2))
          clear hwn HBB g0 g1 g2 f0 f1 f2
          refine hK.out _ _ ?_ (fun hHeld => ?_)
          · exact HS.out _ XZ5.out
          clear hK K
          try simp only [Act.put, List.getElem_toArray, List.getElem_cons_zero, List.getElem_cons_succ, List.setIfInBounds_toArray, List.set_cons_zero, List.set_cons_succ]
          refine wpAnyH_ready (rs := [7]) (by kernel_rfl) (by simp) ?_
          refine AllReadyH.cons rfl (fun K hK => ?_) AllReadyH.nil
          have hb := H6.out
          have g0 : z5.cell? ⟨z2.heap.size, 0, none⟩ = some (.slice none 0 0) := by simp [World.cell?, hb]
          have g1 : z5.cell? ⟨z2.heap.size, 1, none⟩ = some (.slice none 0 0) := by simp [World.cell?, hb]
          have g2 : z5.cell? ⟨z2.heap.size, 2, none⟩ = some (.slice none 0 0) := by simp [World.cell?, hb]
          have f0 : z5.frozen? ⟨z2.heap.size, 0, none⟩ = false := by simp [World.frozen?, hb]
          have f1 : z5.frozen? ⟨z2.heap.size, 1, none⟩ = false := by simp [World.frozen?, hb]
          have f2 : z5.frozen? ⟨z2.heap.size, 2, none⟩ = false := by simp [World.frozen?, hb]
          have HBB := Lib.hid hb
          clear hb
          go_simp
          obtain ⟨z6, hwn⟩ : ∃ z6 : World, z6 = ((z5.setCell ⟨z2.heap.size, 0, none⟩ (.slice a02 m02 d02)).setCell ⟨z2.heap.size, 1, none⟩ (.slice a12 m12 d12)).setCell ⟨z2.heap.size, 2, none⟩ (.slice a22 m22 d22) := ⟨_, rfl⟩
          rw [← hwn]
          have XZ6 := Lib.hid (show Ext V z6 by rw [hwn]; exact ((XZ5.out.setCell (p := ⟨z2.heap.size, 0, none⟩) PP5.out _).setCell (p := ⟨z2.heap.size, 1, none⟩) PP5.out _).setCell (p := ⟨z2.heap.size, 2, none⟩) PP5.out _)
          have G1 := Lib.hid (show CO V z6 _ _ ∧ CO V z6 _ _ ∧ CO V z6 _ _ ∧ _ from by rw [hwn]; exact ⟨G1.out.1.put3 HBB.out PP5.out _ _ _, G1.out.2.1.put3 HBB.out PP5.out _ _ _, G1.out.2.2.1.put3 HBB.out PP5.out _ _ _, G1.out.2.2.2⟩)
          have G3 := Lib.hid (show CO V z6 _ _ ∧ CO V z6 _ _ ∧ CO V z6 _ _ ∧ _ from by rw [hwn]; exact ⟨G3.out.1.put3 HBB.out PP5.out _ _ _, G3.out.2.1.put3 HBB.out PP5.out _ _ _, G3.out.2.2.1.put3 HBB.out PP5.out _ _ _, G3.out.2.2.2⟩)
          have H5 := Lib.hid (show z6.heap[V.heap.size]? = some (.cells #[.slice a0 m0 d0, .slice a1 m1 d1, .slice a2 m2 d2] 26 (0, 0)) from by rw [hwn]; exact (blk_set3 NE.out).trans H5.out)
          have H6 := Lib.hid (show z6.heap[z2.heap.size]? = some (.cells #[.slice a02 m02 d02, .slice a12 m12 d12, .slice a22 m22 d22] 26 (0, 0)) from by rw [hwn]; exact blk3_2 (blk3_1 (blk3_0 HBB.out (.slice a02 m02 d02)) (.slice a12 m12 d12)) (.slice a22 m22 d22))
          clear hwn HBB g0 g1 g2 f0 f1 f2
          refine hK.out _ _ ?_ (fun hHeld => ?_)
          · exact HS.out _ XZ6.out
          clear hK K
          try simp only [Act.put, List.getElem_toArray, List.getElem_cons_zero, List.getElem_cons_succ, List.setIfInBounds_toArray, List.set_cons_zero, List.set_cons_succ]
          refine wpAnyH_done (by kernel_rfl) ?_ _
          go_wp2_with fail
          go_meet
          case rel => exact ⟨_, _, _, _, _, _, _, _, _, _, _, _, _, _, _, _, _, _, _, _, _, _, _, _, _, _, rfl, rfl, H5.out, H6.out, G1.out.1, G1.out.2.1, G1.out.2.2.1, G3.out.1, G3.out.2.1, G3.out.2.2.1, G1.out.2.2.2, G3.out.2.2.2⟩
      · skip
        go_simp
        obtain ⟨z2, hwn⟩ : ∃ z2 : World, z2 = z1.alloc (.cells #[.slice none 0 0, .slice none 0 0, .slice none 0 0] 26) := ⟨_, rfl⟩
        rw [← hwn]
        have x : Ext z1 z2 := by rw [hwn]; exact (Ext.refl _).alloc _
        have hb : z2.heap[z1.heap.size]? = some (Obj.cells #[.slice none 0 0, .slice none 0 0, .slice none 0 0] 26 (0, 0)) := by rw [hwn]; exact blk_at rfl
        have XZ2 := Lib.hid (XZ1.out.trans x)
        have PP5 : Hid (V.heap.size ≤ z1.heap.size) := Lib.hid (XZ1.out.size)
        have NE : Hid (V.heap.size ≠ z1.heap.size) := Lib.hid (by have := lt_of_block H5.out; omega)
        have H5 := Lib.hid (x.block H5.out)
        have H6 := Lib.hid hb
        clear hwn hb x
        refine hK.out _ _ ?_ (fun hHeld => ?_)
        · exact HS.out _ XZ2.out
        clear hK K
        try simp only [Act.put, List.getElem_toArray, List.getElem_cons_zero, List.getElem_cons_succ, List.setIfInBounds_toArray, List.set_cons_zero, List.set_cons_succ]
        refine wpAnyH_ready (rs := [1]) (by kernel_rfl) (by simp) ?_
        refine AllReadyH.cons rfl (fun K hK => ?_) AllReadyH.nil
        go_simp
        refine (HM.out _ XZ2.out).mono ?_
        intro e z3 hh
        obtain ⟨q0, q1, q2, L, T, R, rfl, c1, c2, c3, hok⟩ := hh
        obtain ⟨a0, m0, d0, hv0, hx0⟩ := c1.form
        subst hv0
        clear hx0
        obtain ⟨a1, m1, d1, hv1, hx1⟩ := c2.form
        subst hv1
        clear hx1
        obtain ⟨a2, m2, d2, hv2, hx2⟩ := c3.form
        subst hv2
        clear hx2
        have x := c1.1
        have XZ3 := Lib.hid ((XZ2.out).trans x)
        have H5 := Lib.hid (x.block H5.out)
        have H6 := Lib.hid (x.block H6.out)
        have G1 := Lib.hid (And.intro (c1.base (XZ2.out)) (And.intro (c2.base (XZ2.out)) (And.intro (c3.base (XZ2.out)) hok)))
        clear c1 c2 c3 hok x
        go_simp
        refine hK.out _ _ ?_ (fun hHeld => ?_)
        · exact HS.out _ XZ3.out
        clear hK K
        try simp only [Act.put, List.getElem_toArray, List.getElem_cons_zero, List.getElem_cons_succ, List.setIfInBounds_toArray, List.set_cons_zero, List.set_cons_succ]
        refine wpAnyH_ready (rs := [3]) (by kernel_rfl) (by simp) ?_
        refine AllReadyH.cons rfl (fun K hK => ?_) AllReadyH.nil
        go_simp
        refine (HM2.out _ XZ3.out).mono ?_
        intro e z4 hh
        obtain ⟨q0, q1, q2, L2, T2, R2, rfl, c1, c2, c3, hok⟩ := hh
        obtain ⟨a02, m02, d02, hv0, hx0⟩ := c1.form
        subst hv0
        clear hx0
        obtain ⟨a12, m12, d12, hv1, hx1⟩ := c2.form
        subst hv1
        clear hx1
        obtain ⟨a22, m22, d22, hv2, hx2⟩ := c3.form
        subst hv2
        clear hx2
        have x := c1.1
        have XZ4 := Lib.hid ((XZ3.out).trans x)
        have G1 := Lib.hid (show CO V z4 _ _ ∧ CO V z4 _ _ ∧ CO V z4 _ _ ∧ _ from ⟨G1.out.1.later x, G1.out.2.1.later x, G1.out.2.2.1.later x, G1.out.2.2.2⟩)
        have H5 := Lib.hid (x.block H5.out)
        have H6 := Lib.hid (x.block H6.out)
        have G3 := Lib.hid (And.intro (c1.base (XZ3.out)) (And.intro (c2.base (XZ3.out)) (And.intro (c3.base (XZ3.out)) hok)))
        clear c1 c2 c3 hok x
        go_simp
        refine hK.out _ _ ?_ (fun hHeld => ?_)
        · exact HS.out _ XZ4.out
        clear hK K
        try simp only [Act.put, List.getElem_toArray, List.getElem_cons_zero, List.getElem_cons_succ, List.setIfInBounds_toArray, List.set_cons_zero, List.set_cons_succ]
        refine wpAnyH_ready (rs := [6]) (by kernel_rfl) (by simp) ?_
        refine AllReadyH.cons rfl (fun K hK => ?_) AllReadyH.nil
        have hb := H5.out
        have g0 : z4.cell? ⟨V.heap.size, 0, none⟩ = some (.slice none 0 0) := by simp [World.cell?, hb]
        have g1 : z4.cell? ⟨V.heap.size, 1, none⟩ = some (.slice none 0 0) := by simp [World.cell?, hb]
        have g2 : z4.cell? ⟨V.heap.size, 2, none⟩ = some (.slice none 0 0) := by simp [World.cell?, hb]
        have f0 : z4.frozen? ⟨V.heap.size, 0, none⟩ = false := by simp [World.frozen?, hb]
        have f1 : z4.frozen? ⟨V.heap.size, 1, none⟩ = false := by simp [World.frozen?, hb]
        have f2 : z4.frozen? ⟨V.heap.size, 2, none⟩ = false := by simp [World.frozen?, hb]
        have HBB := Lib.hid hb
        clear hb
        go_simp
        obtain ⟨z5, hwn⟩ : ∃ z5 : World, z5 = ((z4.setCell ⟨V.heap.size, 0, none⟩ (.slice a0 m0 d0)).setCell ⟨V.heap.size, 1, none⟩ (.slice a1 m1 d1)).setCell ⟨V.heap.size, 2, none⟩ (.slice a2 m2 d2) := ⟨_, rfl⟩
        rw [← hwn]
        have XZ5 := Lib.hid (show Ext V z5 by rw [hwn]; exact ((XZ4.out.setCell (p := ⟨V.heap.size, 0, none⟩) PP4.out _).setCell (p := ⟨V.heap.size, 1, none⟩) PP4.out _).setCell (p := ⟨V.heap.size, 2, none⟩) PP4.out _)
        have G1 := Lib.hid (show CO V z5 _ _ ∧ CO V z5 _ _ ∧ CO V z5 _ _ ∧ _ from by rw [hwn]; exact ⟨G1.out.1.put3 HBB.out PP4.out _ _ _, G1.out.2.1.put3 HBB.out PP4.out _ _ _, G1.out.2.2.1.put3 HBB.out PP4.out _ _ _, G1.out.2.2.2⟩)
        have G3 := Lib.hid (show CO V z5 _ _ ∧ CO V z5 _ _ ∧ CO V z5 _ _ ∧ _ from by rw [hwn]; exact ⟨G3.out.1.put3 HBB.out PP4.out _ _ _, G3.out.2.1.put3 HBB.out PP4.out _ _ _, G3.out.2.2.1.put3 HBB.out PP4.out _ _ _, G3.out.2.2.2⟩)
        have H6 := Lib.hid (show z5.heap[z1.heap.size]? = some (.cells #[.slice none 0 0, .slice none 0 0, .slice none 0 0] 26 (0, 0)) from by rw [hwn]; exact (blk_set3 (Ne.symm NE.out)).trans H6.out)
        have H5 := Lib.hid (show z5.heap[V.heap.size]? = some (.cells #[.slice a0 m0 d0, .slice a1 m1 d1, .slice a2 m2 d2] 26 (0, 0)) from by rw [hwn]; exact blk3_2 (blk3_1 (blk3_0 HBB.out (.slice a0 m0 d0)) (.slice a1 m1 d1)) (.slice a2 m2 d2))
        clear hwn HBB g0 g1 g2 f0 f1 f2
        refine hK.out _ _ ?_ (fun hHeld => ?_)
        · exact HS.out _ XZ5.out
        clear hK K
        try simp only [Act.put, List.getElem_toArray, List.getElem_cons_zero, List.getElem_cons_succ, List.setIfInBounds_toArray, List.set_cons_zero, List.set_cons_succ]
        refine wpAnyH_ready (rs := [7]) (by kernel_rfl) (by simp) ?_
        refine AllReadyH.cons rfl (fun K hK => ?_) AllReadyH.nil
        have hb := H6.out
        have g0 : z5.cell? ⟨z1.heap.size, 0, none⟩ = some (.slice none 0 0) := by simp [World.cell?, hb]
        have g1 : z5.cell? ⟨z1.heap.size, 1, none⟩ = some (.slice none 0 0) := by simp [World.cell?, hb]
        have g2 : z5.cell? ⟨z1.heap.size, 2, none⟩ = some (.slice none 0 0) := by simp [World.cell?, hb]
        have f0 : z5.frozen? ⟨z1.heap.size, 0, none⟩ = false := by simp [World.frozen?, hb]
        have f1 : z5.frozen? ⟨z1.heap.size, 1, none⟩ = false := by simp [World.frozen?, hb]
        have f2 : z5.frozen? ⟨z1.heap.size, 2, none⟩ = false := by simp [World.frozen?, hb]
        have HBB := Lib.hid hb
        clear hb
        go_simp
        obtain ⟨z6, hwn⟩ : ∃ z6 : World, z6 = ((z5.setCell ⟨z1.heap.size, 0, none⟩ (.slice a02 m02 d02)).setCell ⟨z1.heap.size, 1, none⟩ (.slice a12 m12 d12)).setCell ⟨z1.heap.size, 2, none⟩ (.slice a22 m22 d22) := ⟨_, rfl⟩
        rw [← hwn]
        have XZ6 := Lib.hid (show Ext V z6 by rw [hwn]; exact ((XZ5.out.setCell (p := ⟨z1.heap.size, 0, none⟩) PP5.out _).setCell (p := ⟨z1.heap.size, 1, none⟩) PP5.out _).setCell (p := ⟨z1.heap.size, 2, none⟩) PP5.out _)
        have G1 := Lib.hid (show CO V z6 _ _ ∧ CO V z6 _ _ ∧ CO V z6 _ _ ∧ _ from by rw [hwn]; exact ⟨G1.out.1.put3 HBB.out PP5.out _ _ _, G1.out.2.1.put3 HBB.out PP5.out _ _ _, G1.out.2.2.1.put3 HBB.out PP5.out _ _ _, G1.out.2.2.2⟩)
        have G3 := Lib.hid (show CO V z6 _ _ ∧ CO V z6 _ _ ∧ CO V z6 _ _ ∧ _ from by rw [hwn]; exact ⟨G3.out.1.put3 HBB.out PP5.out _ _ _, G3.out.2.1.put3 HBB.out PP5.out _ _ _, G3.out.2.2.1.put3 HBB.out PP5.out _ _ _, G3.out.2.2.2⟩)
        have H5 := Lib.hid (show z6.heap[V.heap.size]? = some (.cells #[.slice a0 m0 d0, .slice a1 m1 d1, .slice a2 m2 d2] 26 (0, 0)) from by rw [hwn]; exact (blk_set3 NE.out).trans H5.out)
        have H6 := Lib.hid (show z6.heap[z1.heap.size]? = some (.cells #[.slice a02 m02 d02, .slice a12 m12 d12, .slice a22 m22 d22] 26 (0, 0)) from by rw [hwn]; exact blk3_2 (blk3_1 (blk3_0 HBB.out (.slice a02 m02 d02)) (.slice a12 m12 d12)) (.slice a22 m22 d22))
        clear hwn HBB g0 g1 g2 f0 f1 f2
        refine hK.out _ _ ?_ (fun hHeld => ?_)
        · exact HS.out _ XZ6.out
        clear hK K
        try simp only [Act.put, List.getElem_toArray, List.getElem_cons_zero, List.getElem_cons_succ, List.setIfInBounds_toArray, List.set_cons_zero, List.set_cons_succ]
        refine wpAnyH_done (by kernel_rfl) ?_ _
        go_wp2_with fail
        go_meet
        case rel => exact ⟨_, _, _, _, _, _, _, _, _, _, _, _, _, _, _, _, _, _, _, _, _, _, _, _, _, _, rfl, rfl, H5.out, H6.out, G1.out.1, G1.out.2.1, G1.out.2.2.1, G3.out.1, G3.out.2.1, G3.out.2.2.1, G1.out.2.2.2, G3.out.2.2.2⟩
    · skip
      go_simp
      obtain ⟨z1, hwn⟩ : ∃ z1 : World, z1 = (V.alloc (.cells #[.slice none 0 0, .slice none 0 0, .slice none 0 0] 26)).drew := ⟨_, rfl⟩
      rw [← hwn]
      have x : Ext V z1 := by rw [hwn]; exact ((Ext.refl _).alloc _).drew
      have hb : z1.heap[V.heap.size]? = some (Obj.cells #[.slice none 0 0, .slice none 0 0, .slice none 0 0] 26 (0, 0)) := by rw [hwn]; show (V.alloc _).heap[_]? = _; exact blk_at rfl
      have XZ1 := Lib.hid ((Ext.refl V).trans x)
      have PP5 : Hid (V.heap.size ≤ V.heap.size) := Lib.hid ((Ext.refl V).size)
      have H6 := Lib.hid hb
      clear hwn hb x
      refine hK.out _ _ ?_ (fun hHeld => ?_)
      · exact HS.out _ XZ1.out
      clear hK K
      try simp only [Act.put, List.getElem_toArray, List.getElem_cons_zero, List.getElem_cons_succ, List.setIfInBounds_toArray, List.set_cons_zero, List.set_cons_succ]
      refine wpAnyH_ready (rs := [1, 4]) (by kernel_rfl) (by simp) ?_
      refine AllReadyH.cons rfl (fun K hK => ?_) (AllReadyH.cons rfl (fun K hK => ?_) AllReadyH.nil)
      · skip
        go_simp
        refine (HM.out _ XZ1.out).mono ?_
        intro e z2 hh
        obtain ⟨q0, q1, q2, L, T, R, rfl, c1, c2, c3, hok⟩ := hh
        obtain ⟨a0, m0, d0, hv0, hx0⟩ := c1.form
        subst hv0
        clear hx0
        obtain ⟨a1, m1, d1, hv1, hx1⟩ := c2.form
        subst hv1
        clear hx1
        obtain ⟨a2, m2, d2, hv2, hx2⟩ := c3.form
        subst hv2
        clear hx2
        have x := c1.1
        have XZ2 := Lib.hid ((XZ1.out).trans x)
        have H6 := Lib.hid (x.block H6.out)
        have G1 := Lib.hid (And.intro (c1.base (XZ1.out)) (And.intro (c2.base (XZ1.out)) (And.intro (c3.base (XZ1.out)) hok)))
        clear c1 c2 c3 hok x
        go_simp
        refine hK.out _ _ ?_ (fun hHeld => ?_)
        · exact HS.out _ XZ2.out
        clear hK K
        try simp only [Act.put, List.getElem_toArray, List.getElem_cons_zero, List.getElem_cons_succ, List.setIfInBounds_toArray, List.set_cons_zero, List.set_cons_succ]
        refine wpAnyH_ready (rs := [3, 4]) (by kernel_rfl) (by simp) ?_
        refine AllReadyH.cons rfl (fun K hK => ?_) (AllReadyH.cons rfl (fun K hK => ?_) AllReadyH.nil)
        · skip
          go_simp
          refine (HM2.out _ XZ2.out).mono ?_
          intro e z3 hh
          obtain ⟨q0, q1, q2, L2, T2, R2, rfl, c1, c2, c3, hok⟩ := hh
          obtain ⟨a02, m02, d02, hv0, hx0⟩ := c1.form
          subst hv0
          clear hx0
          obtain ⟨a12, m12, d12, hv1, hx1⟩ := c2.form
          subst hv1
          clear hx1
          obtain ⟨a22, m22, d22, hv2, hx2⟩ := c3.form
          subst hv2
          clear hx2
          have x := c1.1
          have XZ3 := Lib.hid ((XZ2.out).trans x)
          have G1 := Lib.hid (show CO V z3 _ _ ∧ CO V z3 _ _ ∧ CO V z3 _ _ ∧ _ from ⟨G1.out.1.later x, G1.out.2.1.later x, G1.out.2.2.1.later x, G1.out.2.2.2⟩)
          have H6 := Lib.hid (x.block H6.out)
          have G3 := Lib.hid (And.intro (c1.base (XZ2.out)) (And.intro (c2.base (XZ2.out)) (And.intro (c3.base (XZ2.out)) hok)))
          clear c1 c2 c3 hok x
          go_simp
          refine hK.out _ _ ?_ (fun hHeld => ?_)
          · exact HS.out _ XZ3.out
          clear hK K
          try simp only [Act.put, List.getElem_toArray, List.getElem_cons_zero, List.getElem_cons_succ, List.setIfInBounds_toArray, List.set_cons_zero, List.set_cons_succ]
          refine wpAnyH_ready (rs := [4]) (by kernel_rfl) (by simp) ?_
          refine AllReadyH.cons rfl (fun K hK => ?_) AllReadyH.nil
          go_simp
          obtain ⟨z4, hwn⟩ : ∃ z4 : World, z4 = z3.alloc (.cells #[.slice none 0 0, .slice none 0 0, .slice none 0 0] 26) := ⟨_, rfl⟩
          rw [← hwn]
          have x : Ext z3 z4 := by rw [hwn]; exact (Ext.refl _).alloc _
          have hb : z4.heap[z3.heap.size]? = some (Obj.cells #[.slice none 0 0, .slice none 0 0, .slice none 0 0] 26 (0, 0)) := by rw [hwn]; exact blk_at rfl
          have XZ4 := Lib.hid (XZ3.out.trans x)
          have PP4 : Hid (V.heap.size ≤ z3.heap.size) := Lib.hid (XZ3.out.size)
          have NE : Hid (z3.heap.size ≠ V.heap.size) := Lib.hid (by have := lt_of_block H6.out; omega)
          have G1 := Lib.hid (show CO V z4 _ _ ∧ CO V z4 _ _ ∧ CO V z4 _ _ ∧ _ from ⟨G1.out.1.later x, G1.out.2.1.later x, G1.out.2.2.1.later x, G1.out.2.2.2⟩)
          have G3 := Lib.hid (show CO V z4 _ _ ∧ CO V z4 _ _ ∧ CO V z4 _ _ ∧ _ from ⟨G3.out.1.later x, G3.out.2.1.later x, G3.out.2.2.1.later x, G3.out.2.2.2⟩)
          have H6 := Lib.hid (x.block H6.out)
          have H5 := Lib.hid hb
          clear hwn hb x
          refine hK.out _ _ ?_ (fun hHeld => ?_)
          · exact HS.out _ XZ4.out
          clear hK K
          try simp only [Act.put, List.getElem_toArray, List.getElem_cons_zero, List.getElem_cons_succ, List.setIfInBounds_toArray, List.set_cons_zero, List.set_cons_succ]
          refine wpAnyH_ready (rs := [6]) (by kernel_rfl) (by simp) ?_
          refine AllReadyH.cons rfl (fun K hK => ?_) AllReadyH.nil
          have hb := H5.out
          have g0 : z4.cell? ⟨z3.heap.size, 0, none⟩ = some (.slice none 0 0) := by simp [World.cell?, hb]
          have g1 : z4.cell? ⟨z3.heap.size, 1, none⟩ = some (.slice none 0 0) := by simp [World.cell?, hb]
          have g2 : z4.cell? ⟨z3.heap.size, 2, none⟩ = some (.slice none 0 0) := by simp [World.cell?, hb]
          have f0 : z4.frozen? ⟨z3.heap.size, 0, none⟩ = false := by simp [World.frozen?, hb]
          have f1 : z4.frozen? ⟨z3.heap.size, 1, none⟩ = false := by simp [World.frozen?, hb]
          have f2 : z4.frozen? ⟨z3.heap.size, 2, none⟩ = false := by simp [World.frozen?, hb]
          have HBB := Lib.hid hb
          clear hb
          go_simp
          obtain ⟨z5, hwn⟩ : ∃ z5 : World, z5 = ((z4.setCell ⟨z3.heap.size, 0, none⟩ (.slice a0 m0 d0)).setCell ⟨z3.heap.size, 1, none⟩ (.slice a1 m1 d1)).setCell ⟨z3.heap.size, 2, none⟩ (.slice a2 m2 d2) := ⟨_, rfl⟩
          rw [← hwn]
          have XZ5 := Lib.hid (show Ext V z5 by rw [hwn]; exact ((XZ4.out.setCell (p := ⟨z3.heap.size, 0, none⟩) PP4.out _).setCell (p := ⟨z3.heap.size, 1, none⟩) PP4.out _).setCell (p := ⟨z3.heap.size, 2, none⟩) PP4.out _)
          have G1 := Lib.hid (show CO V z5 _ _ ∧ CO V z5 _ _ ∧ CO V z5 _ _ ∧ _ from by rw [hwn]; exact ⟨G1.out.1.put3 HBB.out PP4.out _ _ _, G1.out.2.1.put3 HBB.out PP4.out _ _ _, G1.out.2.2.1.put3 HBB.out PP4.out _ _ _, G1.out.2.2.2⟩)
          have G3 := Lib.hid (show CO V z5 _ _ ∧ CO V z5 _ _ ∧ CO V z5 _ _ ∧ _ from by rw [hwn]; exact ⟨G3.out.1.put3 HBB.out PP4.out _ _ _, G3.out.2.1.put3 HBB.out PP4.out _ _ _, G3.out.2.2.1.put3 HBB.out PP4.out _ _ _, G3.out.2.2.2⟩)
          have H6 := Lib.hid (show z5.heap[V.heap.size]? = some (.cells #[.slice none 0 0, .slice none 0 0, .slice none 0 0] 26 (0, 0)) from by rw [hwn]; exact (blk_set3 (Ne.symm NE.out)).trans H6.out)
          have H5 := Lib.hid (show z5.heap[z3.heap.size]? = some (.cells #[.slice a0 m0 d0, .slice a1 m1 d1, .slice a2 m2 d2] 26 (0, 0)) from by rw [hwn]; exact blk3_2 (blk3_1 (blk3_0 HBB.out (.slice a0 m0 d0)) (.slice a1 m1 d1)) (.slice a2 m2 d2))
          clear hwn HBB g0 g1 g2 f0 f1 f2
          refine hK.out _ _ ?_ (fun hHeld => ?_)
          · exact HS.out _ XZ5.out
          clear hK K
          try simp only [Act.put, List.getElem_toArray, List.getElem_cons_zero, List.getElem_cons_succ, List.setIfInBounds_toArray, List.set_cons_zero, List.set_cons_succ]
          refine wpAnyH_ready (rs := [7]) (by kernel_rfl) (by simp) ?_
          refine AllReadyH.cons rfl (fun K hK => ?_) AllReadyH.nil
          have hb := H6.out
          have g0 : z5.cell? ⟨V.heap.size, 0, none⟩ = some (.slice none 0 0) := by simp [World.cell?, hb]
          have g1 : z5.cell? ⟨V.heap.size, 1, none⟩ = some (.slice none 0 0) := by simp [World.cell?, hb]
          have g2 : z5.cell? ⟨V.heap.size, 2, none⟩ = some (.slice none 0 0) := by simp [World.cell?, hb]
          have f0 : z5.frozen? ⟨V.heap.size, 0, none⟩ = false := by simp [World.frozen?, hb]
          have f1 : z5.frozen? ⟨V.heap.size, 1, none⟩ = false := by simp [World.frozen?, hb]
          have f2 : z5.frozen? ⟨V.heap.size, 2, none⟩ = false := by simp [World.frozen?, hb]
          have HBB := Lib.hid hb
          clear hb
          go_simp
          obtain ⟨z6, hwn⟩ : ∃ z6 : World, z6 = ((z5.setCell ⟨V.heap.size, 0, none⟩ (.slice a02 m02 d02)).setCell ⟨V.heap.size, 1, none⟩ (.slice a12 m12 d12)).setCell ⟨V.heap.size, 2, none⟩ (.slice a22 m22 d22) := ⟨_, rfl⟩
          rw [← hwn]
          have XZ6 := Lib.hid (show Ext V z6 by rw [hwn]; exact ((XZ5.out.setCell (p := ⟨V.heap.size, 0, none⟩) PP5.out _).setCell (p := ⟨V.heap.size, 1, none⟩) PP5.out _).setCell (p := ⟨V.heap.size, 2, none⟩) PP5.out _)
          have G1 := Lib.hid (show CO V z6 _ _ ∧ CO V z6 _ _ ∧ CO V z6 _ _ ∧ _ from by rw [hwn]; exact ⟨G1.out.1.put3 HBB.out PP5.out _ _ _, G1.out.2.1.put3 HBB.out PP5.out _ _ _, G1.out.2.2.1.put3 HBB.out PP5.out _ _ _, G1.out.2.2.2⟩)
          have G3 := Lib.hid (show CO V z6 _ _ ∧ CO V z6 _ _ ∧ CO V z6 _ _ ∧ _ from by rw [hwn]; exact ⟨G3.out.1.put3 HBB.out PP5.out _ _ _, G3.out.2.1.put3 HBB.out PP5.out _ _ _, G3.out.2.2.1.put3 HBB.out PP5.out _ _ _, G3.out.2.2.2⟩)
          have H5 := Lib.hid (show z6.heap[z3.heap.size]? = some (.cells #[.slice a0 m0 d0, .slice a1 m1 d1, .slice a2 m2 d2] 26 (0, 0)) from by rw [hwn]; exact (blk_set3 NE.out).trans H5.out)
          have H6 := Lib.hid (show z6.heap[V.heap.size]? = some (.cells #[.slice a02 m02 d02, .slice a12 m12 d12, .slice a22 m22 d22] 26 (0, 0)) from by rw [hwn]; exact blk3_2 (blk3_1 (blk3_0 HBB.out (.slice a02 m02 d02)) (.slice a12 m12 d12)) (.slice a22 m22 d22))
          clear hwn HBB g0 g1 g2 f0 f1 f2
          refine hK.out _ _ ?_ (fun hHeld => ?_)
          · exact HS.out _ XZ6.out
          clear hK K
          try simp only [Act.put, List.getElem_toArray, List.getElem_cons_zero, List.getElem_cons_succ, List.setIfInBounds_toArray, List.set_cons_zero, List.set_cons_succ]
          refine wpAnyH_done (by kernel_rfl) ?_ _
          go_wp2_with fail
          go_meet
          case rel => exact ⟨_, _, _, _, _, _, _, _, _, _, _, _, _, _, _, _, _, _, _, _, _, _, _, _, _, _, rfl, rfl, H5.out, H6.out, G1.out.1, G1.out.2.1, G1.out.2.2.1, G3.out.1, G3.out.2.1, G3.out.2.2.1, G1.out.2.2.2, G3.out.2.2.2⟩
        · skip
          go_simp
          obtain ⟨z3, hwn⟩ : ∃ z3 : World, z3 = z2.alloc (.cells #[.slice none 0 0, .slice none 0 0, .slice none 0 0] 26) := ⟨_, rfl⟩
          rw [← hwn]
          have x : Ext z2 z3 := by rw [hwn]; exact (Ext.refl _).alloc _
          have hb : z3.heap[z2.heap.size]? = some (Obj.cells #[.slice none 0 0, .slice none 0 0, .slice none 0 0] 26 (0, 0)) := by rw [hwn]; exact blk_at rfl
          have XZ3 := Lib.hid (XZ2.out.trans x)
          have PP4 : Hid (V.heap.size ≤ z2.heap.size) := Lib.hid (XZ2.out.size)
          have NE : Hid (z2.heap.size ≠ V.heap.size) := Lib.hid (by have := lt_of_block H6.out; omega)
          have G1 := Lib.hid (show CO V z3 _ _ ∧ CO V z3 _ _ ∧ CO V z3 _ _ ∧ _ from ⟨G1.out.1.later x, G1.out.2.1.later x, G1.out.2.2.1.later x, G1.out.2.2.2⟩)
          have H6 := Lib.hid (x.block H6.out)
          have H5 := Lib.hid hb
          clear hwn hb x
          refine hK.out _ _ ?_ (fun hHeld => ?_)
          · exact HS.out _ XZ3.out
          clear hK K
          try simp only [Act.put, List.getElem_toArray, List.getElem_cons_zero, List.getElem_cons_succ, List.setIfInBounds_toArray, List.set_cons_zero, List.set_cons_succ]
          refine wpAnyH_ready (rs := [3]) (by kernel_rfl) (by simp) ?_
          refine AllReadyH.cons rfl (fun K hK => ?_) AllReadyH.nil
          go_simp
          refine (HM2.out _ XZ3.out).mono ?_
          intro e z4 hh
          obtain ⟨q0, q1, q2, L2, T2, R2, rfl, c1, c2, c3, hok⟩ := hh
          obtain ⟨a02, m02, d02, hv0, hx0⟩ := c1.form
          subst hv0
          clear hx0
          obtain ⟨a12, m12, d12, hv1, hx1⟩ := c2.form
          subst hv1
          clear hx1
          obtain ⟨a22, m22, d22, hv2, hx2⟩ := c3.form
          subst hv2
          clear hx2
          have x := c1.1
          have XZ4 := Lib.hid ((XZ3.out).trans x)
          have G1 := Lib.hid (show CO V z4 _ _ ∧ CO V z4 _ _ ∧ CO V z4 _ _ ∧ _ from ⟨G1.out.1.later x, G1.out.2.1.later x, G1.out.2.2.1.later x, G1.out.2.2.2⟩)
          have H5 := Lib.hid (x.block H5.out)
          have H6 := Lib.hid (x.block H6.out)
          have G3 := Lib.hid (And.intro (c1.base (XZ3.out)) (And.intro (c2.base (XZ3.out)) (And.intro (c3.base (XZ3.out)) hok)))
          clear c1 c2 c3 hok x
          go_simp
          refine hK.out _ _ ?_ (fun hHeld => ?_)
          · exact HS.out _ XZ4.out
          clear hK K
          try simp only [Act.put, List.getElem_toArray, List.getElem_cons_zero, List.getElem_cons_succ, List.setIfInBounds_toArray, List.set_cons_zero, List.set_cons_succ]
          refine wpAnyH_ready (rs := [6]) (by kernel_rfl) (by simp) ?_
          refine AllReadyH.cons rfl (fun K hK => ?_) AllReadyH.nil
          have hb := H5.out
          have g0 : z4.cell? ⟨z2.heap.size, 0, none⟩ = some (.slice none 0 0) := by simp [World.cell?, hb]
          have g1 : z4.cell? ⟨z2.heap.size, 1, none⟩ = some (.slice none 0 0) := by simp [World.cell?, hb]
          have g2 : z4.cell? ⟨z2.heap.size, 2, none⟩ = some (.slice none 0 0) := by simp [World.cell?, hb]
          have f0 : z4.frozen? ⟨z2.heap.size, 0, none⟩ = false := by simp [World.frozen?, hb]
          have f1 : z4.frozen? ⟨z2.heap.size, 1, none⟩ = false := by simp [World.frozen?, hb]
          have f2 : z4.frozen? ⟨z2.heap.size, 2, none⟩ = false := by simp [World.frozen?, hb]
          have HBB := Lib.hid hb
          clear hb
          go_simp
          obtain ⟨z5, hwn⟩ : ∃ z5 : World, z5 = ((z4.setCell ⟨z2.heap.size, 0, none⟩ (.slice a0 m0 d0)).setCell ⟨z2.heap.size, 1, none⟩ (.slice a1 m1 d1)).setCell ⟨z2.heap.size, 2, none⟩ (.slice a2 m2 d2) := ⟨_, rfl⟩
          rw [← hwn]
          have XZ5 := Lib.hid (show Ext V z5 by rw [hwn]; exact ((XZ4.out.setCell (p := ⟨z2.heap.size, 0, none⟩) PP4.out _).setCell (p := ⟨z2.heap.size, 1, none⟩) PP4.out _).setCell (p := ⟨z2.heap.size, 2, none⟩) PP4.out _)
          have G1 := Lib.hid (show CO V z5 _ _ ∧ CO V z5 _ _ ∧ CO V z5 _ _ ∧ _ from by rw [hwn]; exact ⟨G1.out.1.put3 HBB.out PP4.out _ _ _, G1.out.2.1.put3 HBB.out PP4.out _ _ _, G1.out.2.2.1.put3 HBB.out PP4.out _ _ _, G1.out.2.2.2⟩)
          have G3 := Lib.hid (show CO V z5 _ _ ∧ CO V z5 _ _ ∧ CO V z5 _ _ ∧ _ from by rw [hwn]; exact ⟨G3.out.1.put3 HBB.out PP4.out _ _ _, G3.out.2.1.put3 HBB.out PP4.out _ _ _, G3.out.2.2.1.put3 HBB.out PP4.out _ _ _, G3.out.2.2.2⟩)
          have H6 := Lib.hid (show z5.heap[V.heap.size]? = some (.cells #[.slice none 0 0, .slice none 0 0, .slice none 0 0] 26 (0, 0)) from by rw [hwn]; exact (blk_set3 (Ne.symm NE.out)).trans H6.out)
          have H5 := Lib.hid (show z5.heap[z2.heap.size]? = some (.cells #[.slice a0 m0 d0, .slice a1 m1 d1, .slice a2 m2 d2] 26 (0, 0)) from by rw [hwn]; exact blk3_2 (blk3_1 (blk3_0 HBB.out (.slice a0 m0 d0)) (.slice a1 m1 d1)) (.slice a2 m2 d2))
          clear hwn HBB g0 g1 g2 f0 f1 f2
          refine hK.out _ _ ?_ (fun hHeld => ?_)
          · exact HS.out _ XZ5.out
          clear hK K
          try simp only [Act.put, List.getElem_toArray, List.getElem_cons_zero, List.getElem_cons_succ, List.setIfInBounds_toArray, List.set_cons_zero, List.set_cons_succ]
          refine wpAnyH_ready (rs := [7]) (by kernel_rfl) (by simp) ?_
          refine AllReadyH.cons rfl (fun K hK => ?_) AllReadyH.nil
          have hb := H6.out
          have g0 : z5.cell? ⟨V.heap.size, 0, none⟩ = some (.slice none 0 0) := by simp [World.cell?, hb]
          have g1 : z5.cell? ⟨V.heap.size, 1, none⟩ = some (.slice none 0 0) := by simp [World.cell?, hb]
          have g2 : z5.cell? ⟨V.heap.size, 2, none⟩ = some (.slice none 0 0) := by simp [World.cell?, hb]
          have f0 : z5.frozen? ⟨V.heap.size, 0, none⟩ = false := by simp [World.frozen?, hb]
          have f1 : z5.frozen? ⟨V.heap.size, 1, none⟩ = false := by simp [World.frozen?, hb]
          have f2 : z5.frozen? ⟨V.heap.size, 2, none⟩ = false := by simp [World.frozen?, hb]
          have HBB := Lib.hid hb
          clear hb
          go_simp
          obtain ⟨z6, hwn⟩ : ∃ z6 : World, z6 = ((z5.setCell ⟨V.heap.size, 0, none⟩ (.slice a02 m02 d02)).setCell ⟨V.heap.size, 1, none⟩ (.slice a12 m12 d12)).setCell ⟨V.heap.size, 2, none⟩ (.slice a22 m22 d22) := ⟨_, rfl⟩
          rw [← hwn]
          have XZ6 := Lib.hid (show Ext V z6 by rw [hwn]; exact ((XZ5.out.setCell (p := ⟨V.heap.size, 0, none⟩) PP5.out _).setCell (p := ⟨V.heap.size, 1, none⟩) PP5.out _).setCell (p := ⟨V.heap.size, 2, none⟩) PP5.out _)
          have G1 := Lib.hid (show CO V z6 _ _ ∧ CO V z6 _ _ ∧ CO V z6 _ _ ∧ _ from by rw [hwn]; exact ⟨G1.out.1.put3 HBB.out PP5.out _ _ _, G1.out.2.1.put3 HBB.out PP5.out _ _ _, G1.out.2.2.1.put3 HBB.out PP5.out _ _ _, G1.out.2.2.2⟩)
          have G3 := Lib.hid (show CO V z6 _ _ ∧ CO V z6 _ _ ∧ CO V z6 _ _ ∧ _ from by rw [hwn]; exact ⟨G3.out.1.put3 HBB.out PP5.out _ _ _, G3.out.2.1.put3 HBB.out PP5.out _ _ _, G3.out.2.2.1.put3 HBB.out PP5.out _ _ _, G3.out.2.2.2⟩)
          have H5 := Lib.hid (show z6.heap[z2.heap.size]? = some (.cells #[.slice a0 m0 d0, .slice a1 m1 d1, .slice a2 m2 d2] 26 (0, 0)) from by rw [hwn]; exact (blk_set3 NE.out).trans H5.out)
          have H6 := Lib.hid (show z6.heap[V.heap.size]? = some (.cells #[.slice a02 m02 d02, .slice a12 m12 d12, .slice a22 m22 d22] 26 (0, 0)) from by rw [hwn]; exact blk3_2 (blk3_1 (blk3_0 HBB.out (.slice a02 m02 d02)) (.slice a12 m12 d12)) (.slice a22 m22 d22))
          clear hwn HBB g0 g1 g2 f0 f1 f2
          refine hK.out _ _ ?_ (fun hHeld => ?_)
          · exact HS.out _ XZ6.out
          clear hK K
          try simp only [Act.put, List.getElem_toArray, List.getElem_cons_zero, List.getElem_cons_succ, List.setIfInBounds_toArray, List.set_cons_zero, List.set_cons_succ]
          refine wpAnyH_done (by kernel_rfl) ?_ _
          go_wp2_with fail
          go_meet
          case rel => exact ⟨_, _, _, _, _, _, _, _, _, _, _, _, _, _, _, _, _, _, _, _, _, _, _, _, _, _, rfl, rfl, H5.out, H6.out, G1.out.1, G1.out.2.1, G1.out.2.2.1, G3.out.1, G3.out.2.1, G3.out.2.2.1, G1.out.2.2.2, G3.out.2.2.2⟩
      · skip
        go_simp
        obtain ⟨z2, hwn⟩ : ∃ z2 : World, z2 = z1.alloc (.cells #[.slice none 0 0, .slice none 0 0, .slice none 0 0] 26) := ⟨_, rfl⟩
        rw [← hwn]
        have x : Ext z1 z2 := by rw [hwn]; exact (Ext.refl _).alloc _
        have hb : z2.heap[z1.heap.size]? = some (Obj.cells #[.slice none 0 0, .slice none 0 0, .slice none 0 0] 26 (0, 0)) := by rw [hwn]; exact blk_at rfl
        have XZ2 := Lib.hid (XZ1.out.trans x)
        have PP4 : Hid (V.heap.size ≤ z1.heap.size) := Lib.hid (XZ1.out.size)
        have NE : Hid (z1.heap.size ≠ V.heap.size) := Lib.hid (by have := lt_of_block H6.out; omega)
        have H6 := Lib.hid (x.block H6.out)
        have H5 := Lib.hid hb
        clear hwn hb x
        refine hK.out _ _ ?_ (fun hHeld => ?_)
        · exact HS.out _ XZ2.out
        clear hK K
        try simp only [Act.put, List.getElem_toArray, List.getElem_cons_zero, List.getElem_cons_succ, List.setIfInBounds_toArray, List.set_cons_zero, List.set_cons_succ]
        refine wpAnyH_ready (rs := [1]) (by kernel_rfl) (by simp) ?_
        refine AllReadyH.cons rfl (fun K hK => ?_) AllReadyH.nil
        go_simp
        refine (HM.out _ XZ2.out).mono ?_
        intro e z3 hh
        obtain ⟨q0, q1, q2, L, T, R, rfl, c1, c2, c3, hok⟩ := hh
        obtain ⟨a0, m0, d0, hv0, hx0⟩ := c1.form
        subst hv0
        clear hx0
        obtain ⟨a1, m1, d1, hv1, hx1⟩ := c2.form
        subst hv1
        clear hx1
        obtain ⟨a2, m2, d2, hv2, hx2⟩ := c3.form
        subst hv2
        clear hx2
        have x := c1.1
        have XZ3 := Lib.hid ((XZ2.out).trans x)
        have H5 := Lib.hid (x.block H5.out)
        have H6 := Lib.hid (x.block H6.out)
        have G1 := Lib.hid (And.intro (c1.base (XZ2.out)) (And.intro (c2.base (XZ2.out)) (And.intro (c3.base (XZ2.out)) hok)))
        clear c1 c2 c3 hok x
        go_simp
        refine hK.out _ _ ?_ (fun hHeld => ?_)
        · exact HS.out _ XZ3.out
        clear hK K
        try simp only [Act.put, List.getElem_toArray, List.getElem_cons_zero, List.getElem_cons_succ, List.setIfInBounds_toArray, List.set_cons_zero, List.set_cons_succ]
        refine wpAnyH_ready (rs := [3]) (by kernel_rfl) (by simp) ?_
        refine AllReadyH.cons rfl (fun K hK => ?_) AllReadyH.nil
        go_simp
        refine (HM2.out _ XZ3.out).mono ?_
        intro e z4 hh
        obtain ⟨q0, q1, q2, L2, T2, R2, rfl, c1, c2, c3, hok⟩ := hh
        obtain ⟨a02, m02, d02, hv0, hx0⟩ := c1.form
        subst hv0
        clear hx0
        obtain ⟨a12, m12, d12, hv1, hx1⟩ := c2.form
        subst hv1
        clear hx1
        obtain ⟨a22, m22, d22, hv2, hx2⟩ := c3.form
        subst hv2
        clear hx2
        have x := c1.1
        have XZ4 := Lib.hid ((XZ3.out).trans x)
        have G1 := Lib.hid (show CO V z4 _ _ ∧ CO V z4 _ _ ∧ CO V z4 _ _ ∧ _ from ⟨G1.out.1.later x, G1.out.2.1.later x, G1.out.2.2.1.later x, G1.out.2.2.2⟩)
        have H5 := Lib.hid (x.block H5.out)
        have H6 := Lib.hid (x.block H6.out)
        have G3 := Lib.hid (And.intro (c1.base (XZ3.out)) (And.intro (c2.base (XZ3.out)) (And.intro (c3.base (XZ3.out)) hok)))
        clear c1 c2 c3 hok x
        go_simp
        refine hK.out _ _ ?_ (fun hHeld => ?_)
        · exact HS.out _ XZ4.out
        clear hK K
        try simp only [Act.put, List.getElem_toArray, List.getElem_cons_zero, List.getElem_cons_succ, List.setIfInBounds_toArray, List.set_cons_zero, List.set_cons_succ]
        refine wpAnyH_ready (rs := [6]) (by kernel_rfl) (by simp) ?_
        refine AllReadyH.cons rfl (fun K hK => ?_) AllReadyH.nil
        have hb := H5.out
        have g0 : z4.cell? ⟨z1.heap.size, 0, none⟩ = some (.slice none 0 0) := by simp [World.cell?, hb]
        have g1 : z4.cell? ⟨z1.heap.size, 1, none⟩ = some (.slice none 0 0) := by simp [World.cell?, hb]
        have g2 : z4.cell? ⟨z1.heap.size, 2, none⟩ = some (.slice none 0 0) := by simp [World.cell?, hb]
        have f0 : z4.frozen? ⟨z1.heap.size, 0, none⟩ = false := by simp [World.frozen?, hb]
        have f1 : z4.frozen? ⟨z1.heap.size, 1, none⟩ = false := by simp [World.frozen?, hb]
        have f2 : z4.frozen? ⟨z1.heap.size, 2, none⟩ = false := by simp [World.frozen?, hb]
        have HBB := Lib.hid hb
        clear hb
        go_simp
        obtain ⟨z5, hwn⟩ : ∃ z5 : World, z5 = ((z4.setCell ⟨z1.heap.size, 0, none⟩ (.slice a0 m0 d0)).setCell ⟨z1.heap.size, 1, none⟩ (.slice a1 m1 d1)).setCell ⟨z1.heap.size, 2, none⟩ (.slice a2 m2 d2) := ⟨_, rfl⟩
        rw [← hwn]
        have XZ5 := Lib.hid (show Ext V z5 by rw [hwn]; exact ((XZ4.out.setCell (p := ⟨z1.heap.size, 0, none⟩) PP4.out _).setCell (p := ⟨z1.heap.size, 1, none⟩) PP4.out _).setCell (p := ⟨z1.heap.size, 2, none⟩) PP4.out _)
        have G1 := Lib.hid (show CO V z5 _ _ ∧ CO V z5 _ _ ∧ CO V z5 _ _ ∧ _ from by rw [hwn]; exact ⟨G1.out.1.put3 HBB.out PP4.out _ _ _, G1.out.2.1.put3 HBB.out PP4.out _ _ _, G1.out.2.2.1.put3 HBB.out PP4.out _ _ _, G1.out.2.2.2⟩)
        have G3 := Lib.hid (show CO V z5 _ _ ∧ CO V z5 _ _ ∧ CO V z5 _ _ ∧ _ from by rw [hwn]; exact ⟨G3.out.1.put3 HBB.out PP4.out _ _ _, G3.out.2.1.put3 HBB.out PP4.out _ _ _, G3.out.2.2.1.put3 HBB.out PP4.out _ _ _, G3.out.2.2.2⟩)
        have H6 := Lib.hid (show z5.heap[V.heap.size]? = some (.cells #[.slice none 0 0, .slice none 0 0, .slice none 0 0] 26 (0, 0)) from by rw [hwn]; exact (blk_set3 (Ne.symm NE.out)).trans H6.out)
        have H5 := Lib.hid (show z5.heap[z1.heap.size]? = some (.cells #[.slice a0 m0 d0, .slice a1 m1 d1, .slice a2 m2 d2] 26 (0, 0)) from by rw [hwn]; exact blk3_2 (blk3_1 (blk3_0 HBB.out (.slice a0 m0 d0)) (.slice a1 m1 d1)) (.slice a2 m2 d2))
        clear hwn HBB g0 g1 g2 f0 f1 f2
        refine hK.out _ _ ?_ (fun hHeld => ?_)
        · exact HS.out _ XZ5.out
        clear hK K
        try simp only [Act.put, List.getElem_toArray, List.getElem_cons_zero, List.getElem_cons_succ, List.setIfInBounds_toArray, List.set_cons_zero, List.set_cons_succ]
        refine wpAnyH_ready (rs := [7]) (by kernel_rfl) (by simp) ?_
        refine AllReadyH.cons rfl (fun K hK => ?_) AllReadyH.nil
        have hb := H6.out
        have g0 : z5.cell? ⟨V.heap.size, 0, none⟩ = some (.slice none 0 0) := by simp [World.cell?, hb]
        have g1 : z5.cell? ⟨V.heap.size, 1, none⟩ = some (.slice none 0 0) := by simp [World.cell?, hb]
        have g2 : z5.cell? ⟨V.heap.size, 2, none⟩ = some (.slice none 0 0) := by simp [World.cell?, hb]
        have f0 : z5.frozen? ⟨V.heap.size, 0, none⟩ = false := by simp [World.frozen?, hb]
        have f1 : z5.frozen? ⟨V.heap.size, 1, none⟩ = false := by simp [World.frozen?, hb]
        have f2 : z5.frozen? ⟨V.heap.size, 2, none⟩ = false := by simp [World.frozen?, hb]
        have HBB := Lib.hid hb
        clear hb
        go_simp
        obtain ⟨z6, hwn⟩ : ∃ z6 : World, z6 = ((z5.setCell ⟨V.heap.size, 0, none⟩ (.slice a02 m02 d02)).setCell ⟨V.heap.size, 1, none⟩ (.slice a12 m12 d12)).setCell ⟨V.heap.size, 2, none⟩ (.slice a22 m22 d22) := ⟨_, rfl⟩
        rw [← hwn]
        have XZ6 := Lib.hid (show Ext V z6 by rw [hwn]; exact ((XZ5.out.setCell (p := ⟨V.heap.size, 0, none⟩) PP5.out _).setCell (p := ⟨V.heap.size, 1, none⟩) PP5.out _).setCell (p := ⟨V.heap.size, 2, none⟩) PP5.out _)
        have G1 := Lib.hid (show CO V z6 _ _ ∧ CO V z6 _ _ ∧ CO V z6 _ _ ∧ _ from by rw [hwn]; exact ⟨G1.out.1.put3 HBB.out PP5.out _ _ _, G1.out.2.1.put3 HBB.out PP5.out _ _ _, G1.out.2.2.1.put3 HBB.out PP5.out _ _ _, G1.out.2.2.2⟩)
        have G3 := Lib.hid (show CO V z6 _ _ ∧ CO V z6 _ _ ∧ CO V z6 _ _ ∧ _ from by rw [hwn]; exact ⟨G3.out.1.put3 HBB.out PP5.out _ _ _, G3.out.2.1.put3 HBB.out PP5.out _ _ _, G3.out.2.2.1.put3 HBB.out PP5.out _ _ _, G3.out.2.2.2⟩)
        have H5 := Lib.hid (show z6.heap[z1.heap.size]? = some (.cells #[.slice a0 m0 d0, .slice a1 m1 d1, .slice a2 m2 d2] 26 (0, 0)) from by rw [hwn]; exact (blk_set3 NE.out).trans H5.out)
        have H6 := Lib.hid (show z6.heap[V.heap.size]? = some (.cells #[.slice a02 m02 d02, .slice a12 m12 d12, .slice a22 m22 d22] 26 (0, 0)) from by rw [hwn]; exact blk3_2 (blk3_1 (blk3_0 HBB.out (.slice a02 m02 d02)) (.slice a12 m12 d12)) (.slice a22 m22 d22))
        clear hwn HBB g0 g1 g2 f0 f1 f2
        refine hK.out _ _ ?_ (fun hHeld => ?_)
        · exact HS.out _ XZ6.out
        clear hK K
        try simp only [Act.put, List.getElem_toArray, List.getElem_cons_zero, List.getElem_cons_succ, List.setIfInBounds_toArray, List.set_cons_zero, List.set_cons_succ]
        refine wpAnyH_done (by kernel_rfl) ?_ _
        go_wp2_with fail
        go_meet
        case rel => exact ⟨_, _, _, _, _, _, _, _, _, _, _, _, _, _, _, _, _, _, _, _, _, _, _, _, _, _, rfl, rfl, H5.out, H6.out, G1.out.1, G1.out.2.1, G1.out.2.2.1, G3.out.1, G3.out.2.1, G3.out.2.2.1, G1.out.2.2.2, G3.out.2.2.2⟩
  case rest =>
    obtain ⟨b5, b6, a0, m0, d0, a1, m1, d1, a2, m2, d2, a3, m3, d3, a4, m4, d4, a5, m5, d5, L, T, R, L2, T2, R2, rfl, rfl, hb5, hb6, o0, o1, o2, o3, o4, o5, ok1, ok2⟩ := hcut
    obtain ⟨wq, hwq⟩ : ∃ wq : World, wq = wc := ⟨_, rfl⟩
    rw [← hwq] at hb5 hb6 o0 o1 o2 o3 o4 o5 ⊢
    clear hwq
    obtain ⟨_, _, c0, hv, r0⟩ := o0.mk
    simp only [Value.slice.injEq] at hv
    obtain ⟨rfl, rfl, rfl⟩ := hv
    obtain ⟨_, _, c1, hv, r1⟩ := o1.mk
    simp only [Value.slice.injEq] at hv
    obtain ⟨rfl, rfl, rfl⟩ := hv
    obtain ⟨_, _, c2, hv, r2⟩ := o2.mk
    simp only [Value.slice.injEq] at hv
    obtain ⟨rfl, rfl, rfl⟩ := hv
    obtain ⟨_, _, c3, hv, r3⟩ := o3.mk
    simp only [Value.slice.injEq] at hv
    obtain ⟨rfl, rfl, rfl⟩ := hv
    obtain ⟨_, _, c4, hv, r4⟩ := o4.mk
    simp only [Value.slice.injEq] at hv
    obtain ⟨rfl, rfl, rfl⟩ := hv
    obtain ⟨_, _, c5, hv, r5⟩ := o5.mk
    simp only [Value.slice.injEq] at hv
    obtain ⟨rfl, rfl, rfl⟩ := hv
    have XQ := Lib.hid (XV.out.trans o0.1)
    obtain ⟨okL, okR, okT, t1, t2, t3⟩ := ok1.parts Hht.out
    obtain ⟨okL2, okR2, okT2, t12, t22, t32⟩ := ok2.parts Hht.out
    obtain ⟨p1, _, p3, p4⟩ := ok1
    obtain ⟨q1, _, q3, q4⟩ := ok2
    rw [if_pos (by decide)] at p3 p4 q3 q4
    have lLT := p3.2
    have lLR : L.length = R.length := p3.2.trans p4.2.symm
    have lLT2 := q3.2
    have lTT : T.length = T2.length := p1.trans q1.symm
    have sL := cl_big p3.1; have sT := cl_big okT; have sL2 := cl_big q3.1; have sT2 := cl_big okT2
    have bL := Bd.cl p3.1; have bT := Bd.cl okT; have bR := Bd.cl p4.1; have bL2 := Bd.cl q3.1; have bT2 := Bd.cl okT2
    obtain ⟨e1, he1⟩ : ∃ e, besE [L, T] = e := ⟨_, rfl⟩
    obtain ⟨e2, he2⟩ : ∃ e, besE [T, R] = e := ⟨_, rfl⟩
    obtain ⟨e3, he3⟩ : ∃ e, besE [L, T, R] = e := ⟨_, rfl⟩
    obtain ⟨e4, he4⟩ : ∃ e, besE [L2, T2] = e := ⟨_, rfl⟩
    obtain ⟨g1, hg1⟩ : ∃ e, besE [besR [L, T], R] = e := ⟨_, rfl⟩
    obtain ⟨g2, hg2⟩ : ∃ e, besE [L, besR [T, R]] = e := ⟨_, rfl⟩
    obtain ⟨qE, hqE⟩ : ∃ e, besE [L ++ L2, T ++ T2] = e := ⟨_, rfl⟩
    obtain ⟨rE, hrE⟩ : ∃ e, aboE [besR [L, T], besR [L2, T2]] = e := ⟨_, rfl⟩
    obtain ⟨A1, hA1⟩ : ∃ e, besR [L, T] = e := ⟨_, rfl⟩
    obtain ⟨A2, hA2⟩ : ∃ e, besR [T, R] = e := ⟨_, rfl⟩
    obtain ⟨A3, hA3⟩ : ∃ e, besR [L, T, R] = e := ⟨_, rfl⟩
    obtain ⟨A4, hA4⟩ : ∃ e, besR [L2, T2] = e := ⟨_, rfl⟩
    obtain ⟨Q, hQ⟩ : ∃ e, besR [L ++ L2, T ++ T2] = e := ⟨_, rfl⟩
    rw [hA1] at hg1 hrE
    rw [hA2] at hg2
    rw [hA4] at hrE
    obtain ⟨B1, hB1⟩ : ∃ e, besR [A1, R] = e := ⟨_, rfl⟩
    obtain ⟨B2, hB2⟩ : ∃ e, besR [L, A2] = e := ⟨_, rfl⟩
    obtain ⟨Q2, hQ2⟩ : ∃ e, aboR [A1, A4] = e := ⟨_, rfl⟩
    have has := fun h1 h2 => bes_assoc (A := L) (B := T) (C := R) lLT lLR h1 h2
    rw [he1, he2, hA1, hA2, hg1, hg2, he3, hB1, hB2, hA3] at has
    obtain ⟨hex, hex2⟩ := bes_abo (A := L) (B := T) (A' := L2) (B' := T2) lLT lLT2 (by omega)
    rw [he1, he4, hqE] at hex
    rw [he1, he4, hA1, hA4, hrE, hQ2, hQ] at hex2
    have hab1 := abo2 (A := L) (B := L2) (by rw [List.length_append]; omega) sL sL2
    have hab2 := abo2 (A := T) (B := T2) (by rw [List.length_append]; omega) sT sT2
    have bA1 : Bd A1 := by rw [← hA1]; exact Bd.bes _
    have bA2 : Bd A2 := by rw [← hA2]; exact Bd.bes _
    have bU : Bd (L ++ L2) := bL.app bL2 (by rw [List.length_append]; omega)
    have bD : Bd (T ++ T2) := bT.app bT2 (by rw [List.length_append]; omega)
    obtain ⟨UP, hUP⟩ : ∃ e, L ++ L2 = e := ⟨_, rfl⟩
    obtain ⟨DN, hDN⟩ : ∃ e, T ++ T2 = e := ⟨_, rfl⟩
    rw [hUP] at hqE hQ hab1 bU
    rw [hDN] at hqE hQ hab2 bD
    have HE1_ := Lib.hid he1
    have HE2_ := Lib.hid he2
    have HE3_ := Lib.hid he3
    have HE4_ := Lib.hid he4
    have HG1_ := Lib.hid hg1
    have HG2_ := Lib.hid hg2
    have HQE_ := Lib.hid hqE
    have HRE_ := Lib.hid hrE
    have HA1_ := Lib.hid hA1
    have HA2_ := Lib.hid hA2
    have HA3_ := Lib.hid hA3
    have HA4_ := Lib.hid hA4
    have HQ_ := Lib.hid hQ
    have HB1_ := Lib.hid hB1
    have HB2_ := Lib.hid hB2
    have HQ2_ := Lib.hid hQ2
    have HAS_ := Lib.hid has
    have HEX_ := Lib.hid hex
    have HEX2_ := Lib.hid hex2
    have HAB1_ := Lib.hid hab1
    have HAB2_ := Lib.hid hab2
    have BA1_ := Lib.hid bA1
    have BA2_ := Lib.hid bA2
    have BU_ := Lib.hid bU
    have BD_ := Lib.hid bD
    have BL_ := Lib.hid bL
    have BT_ := Lib.hid bT
    have BR_ := Lib.hid bR
    have BL2_ := Lib.hid bL2
    have BT2_ := Lib.hid bT2
    have R0_ := Lib.hid r0
    have R1_ := Lib.hid r1
    have R2_ := Lib.hid r2
    have R3_ := Lib.hid r3
    have R4_ := Lib.hid r4
    have R5_ := Lib.hid r5
    have M0 : Hid (wq.cell? ⟨b5, 0, none⟩ = some (.slice a0 m0 d0)) := Lib.hid (by simp [World.cell?, hb5])
    have M1 : Hid (wq.cell? ⟨b5, 1, none⟩ = some (.slice a1 m1 d1)) := Lib.hid (by simp [World.cell?, hb5])
    have M2 : Hid (wq.cell? ⟨b5, 2, none⟩ = some (.slice a2 m2 d2)) := Lib.hid (by simp [World.cell?, hb5])
    have O0 : Hid (wq.cell? ⟨b6, 0, none⟩ = some (.slice a3 m3 d3)) := Lib.hid (by simp [World.cell?, hb6])
    have O1 : Hid (wq.cell? ⟨b6, 1, none⟩ = some (.slice a4 m4 d4)) := Lib.hid (by simp [World.cell?, hb6])
    have O2 : Hid (wq.cell? ⟨b6, 2, none⟩ = some (.slice a5 m5 d5)) := Lib.hid (by simp [World.cell?, hb6])
    clear he1 he2 he3 he4 hg1 hg2 hqE hrE hA1 hA2 hA3 hA4 hQ hB1 hB2 hQ2 has hex hex2 hab1 hab2 bA1 bA2 bU bD bL bT bR bL2 bT2 r0 r1 r2 r3 r4 r5 hb5 hb6 o0 o1 o2 o3 o4 o5 okL okR okT t1 t2 t3 okL2 okR2 okT2 t12 t22 t32 p1 p3 p4 q1 q3 q4 lLT lLR lLT2 lTT sL sT sL2 sT2 hUP hDN
    have m0 := M0.out
    have m1 := M1.out
    go_wp2_with fail
    refine (bes2_c (w := wq) (rfl) R0_.out R1_.out BL_.out BT_.out HE1_.out HA1_.out).mono ?_
    rintro e w1 ⟨v, rfl, rr, x⟩
    clear m0 m1
    replace R0_ := Lib.hid (R0_.out.ext x)
    replace R1_ := Lib.hid (R1_.out.ext x)
    replace R2_ := Lib.hid (R2_.out.ext x)
    replace R3_ := Lib.hid (R3_.out.ext x)
    replace R4_ := Lib.hid (R4_.out.ext x)
    replace R5_ := Lib.hid (R5_.out.ext x)
    replace M0 := Lib.hid (x.cell M0.out)
    replace M1 := Lib.hid (x.cell M1.out)
    replace M2 := Lib.hid (x.cell M2.out)
    replace O0 := Lib.hid (x.cell O0.out)
    replace O1 := Lib.hid (x.cell O1.out)
    replace O2 := Lib.hid (x.cell O2.out)
    have X_1 := Lib.hid (XQ.out.trans x)
    clear XQ
    clear x
    obtain ⟨aab, nab, hv, j1, j2, j3, j4⟩ := rr.open
    subst hv
    have Rab := Lib.hid rr
    clear rr j1 j2 j3 j4
    obtain ⟨Wab, hW⟩ : ∃ Wab, Wab = w1.alloc (.cells #[.slice aab nab A1.length] 24) := ⟨_, rfl⟩
    have xa : Ext w1 Wab := by rw [hW]; exact (Ext.refl w1).alloc _
    have hba : Wab.heap[w1.heap.size]? = some (Obj.cells #[.slice aab nab A1.length] 24 (0, 0)) := by rw [hW]; exact blk_at rfl
    replace R0_ := Lib.hid (R0_.out.ext xa)
    replace R1_ := Lib.hid (R1_.out.ext xa)
    replace R2_ := Lib.hid (R2_.out.ext xa)
    replace R3_ := Lib.hid (R3_.out.ext xa)
    replace R4_ := Lib.hid (R4_.out.ext xa)
    replace R5_ := Lib.hid (R5_.out.ext xa)
    replace M0 := Lib.hid (xa.cell M0.out)
    replace M1 := Lib.hid (xa.cell M1.out)
    replace M2 := Lib.hid (xa.cell M2.out)
    replace O0 := Lib.hid (xa.cell O0.out)
    replace O1 := Lib.hid (xa.cell O1.out)
    replace O2 := Lib.hid (xa.cell O2.out)
    replace Rab := Lib.hid (Rab.out.ext xa)
    have X_2 := Lib.hid (X_1.out.trans xa)
    clear X_1
    have Cab : Hid (Wab.cell? ⟨w1.heap.size, 0, none⟩ = some (.slice aab nab A1.length)) := Lib.hid (by simp [World.cell?, hba])
    have ZWab : Hid (w1.heap.size + 1 = Wab.heap.size) := Lib.hid (by rw [hW]; simp)
    have HWab := Lib.hid hW
    clear hW xa hba
    have m1 := M1.out
    rw [HWab.out] at m1
    have m2 := M2.out
    rw [HWab.out] at m2
    go_wp2_with fail
    rw [← HWab.out]
    refine (bes2_c (w := Wab) (ZWab.out) R1_.out R2_.out BT_.out BR_.out HE2_.out HA2_.out).mono ?_
    rintro e w2 ⟨v, rfl, rr, x⟩
    clear m1 m2
    replace R0_ := Lib.hid (R0_.out.ext x)
    replace R1_ := Lib.hid (R1_.out.ext x)
    replace R2_ := Lib.hid (R2_.out.ext x)
    replace R3_ := Lib.hid (R3_.out.ext x)
    replace R4_ := Lib.hid (R4_.out.ext x)
    replace R5_ := Lib.hid (R5_.out.ext x)
    replace M0 := Lib.hid (x.cell M0.out)
    replace M1 := Lib.hid (x.cell M1.out)
    replace M2 := Lib.hid (x.cell M2.out)
    replace O0 := Lib.hid (x.cell O0.out)
    replace O1 := Lib.hid (x.cell O1.out)
    replace O2 := Lib.hid (x.cell O2.out)
    replace Rab := Lib.hid (Rab.out.ext x)
    replace Cab := Lib.hid (x.cell Cab.out)
    have X_3 := Lib.hid (X_2.out.trans x)
    clear X_2
    clear x
    obtain ⟨abc, nbc, hv, j1, j2, j3, j4⟩ := rr.open
    subst hv
    have Rbc := Lib.hid rr
    clear rr j1 j2 j3 j4
    obtain ⟨Wbc, hW⟩ : ∃ Wbc, Wbc = w2.alloc (.cells #[.slice abc nbc A2.length] 24) := ⟨_, rfl⟩
    have xa : Ext w2 Wbc := by rw [hW]; exact (Ext.refl w2).alloc _
    have hba : Wbc.heap[w2.heap.size]? = some (Obj.cells #[.slice abc nbc A2.length] 24 (0, 0)) := by rw [hW]; exact blk_at rfl
    replace R0_ := Lib.hid (R0_.out.ext xa)
    replace R1_ := Lib.hid (R1_.out.ext xa)
    replace R2_ := Lib.hid (R2_.out.ext xa)
    replace R3_ := Lib.hid (R3_.out.ext xa)
    replace R4_ := Lib.hid (R4_.out.ext xa)
    replace R5_ := Lib.hid (R5_.out.ext xa)
    replace M0 := Lib.hid (xa.cell M0.out)
    replace M1 := Lib.hid (xa.cell M1.out)
    replace M2 := Lib.hid (xa.cell M2.out)
    replace O0 := Lib.hid (xa.cell O0.out)
    replace O1 := Lib.hid (xa.cell O1.out)
    replace O2 := Lib.hid (xa.cell O2.out)
    replace Rab := Lib.hid (Rab.out.ext xa)
    replace Cab := Lib.hid (xa.cell Cab.out)
    replace Rbc := Lib.hid (Rbc.out.ext xa)
    have X_4 := Lib.hid (X_3.out.trans xa)
    clear X_3
    have Cbc : Hid (Wbc.cell? ⟨w2.heap.size, 0, none⟩ = some (.slice abc nbc A2.length)) := Lib.hid (by simp [World.cell?, hba])
    have ZWbc : Hid (w2.heap.size + 1 = Wbc.heap.size) := Lib.hid (by rw [hW]; simp)
    have HWbc := Lib.hid hW
    clear hW xa hba
    have cab := Cab.out
    rw [HWbc.out] at cab
    have m2 := M2.out
    rw [HWbc.out] at m2
    go_wp2_with fail
    rw [← HWbc.out]
    refine (bes2_c (w := Wbc) (ZWbc.out) Rab.out R2_.out BA1_.out BR_.out HG1_.out HB1_.out).mono ?_
    rintro e w3 ⟨v, rfl, rr, x⟩
    clear cab m2
    replace R0_ := Lib.hid (R0_.out.ext x)
    replace R1_ := Lib.hid (R1_.out.ext x)
    replace R2_ := Lib.hid (R2_.out.ext x)
    replace R3_ := Lib.hid (R3_.out.ext x)
    replace R4_ := Lib.hid (R4_.out.ext x)
    replace R5_ := Lib.hid (R5_.out.ext x)
    replace M0 := Lib.hid (x.cell M0.out)
    replace M1 := Lib.hid (x.cell M1.out)
    replace M2 := Lib.hid (x.cell M2.out)
    replace O0 := Lib.hid (x.cell O0.out)
    replace O1 := Lib.hid (x.cell O1.out)
    replace O2 := Lib.hid (x.cell O2.out)
    replace Rab := Lib.hid (Rab.out.ext x)
    replace Cab := Lib.hid (x.cell Cab.out)
    replace Rbc := Lib.hid (Rbc.out.ext x)
    replace Cbc := Lib.hid (x.cell Cbc.out)
    have X_5 := Lib.hid (X_4.out.trans x)
    clear X_4
    clear x
    obtain ⟨aoo, noo, hv, j1, j2, j3, j4⟩ := rr.open
    subst hv
    have Roo := Lib.hid rr
    clear rr j1 j2 j3 j4
    obtain ⟨Woo, hW⟩ : ∃ Woo, Woo = w3.alloc (.cells #[.slice aoo noo B1.length] 24) := ⟨_, rfl⟩
    have xa : Ext w3 Woo := by rw [hW]; exact (Ext.refl w3).alloc _
    have hba : Woo.heap[w3.heap.size]? = some (Obj.cells #[.slice aoo noo B1.length] 24 (0, 0)) := by rw [hW]; exact blk_at rfl
    replace R0_ := Lib.hid (R0_.out.ext xa)
    replace R1_ := Lib.hid (R1_.out.ext xa)
    replace R2_ := Lib.hid (R2_.out.ext xa)
    replace R3_ := Lib.hid (R3_.out.ext xa)
    replace R4_ := Lib.hid (R4_.out.ext xa)
    replace R5_ := Lib.hid (R5_.out.ext xa)
    replace M0 := Lib.hid (xa.cell M0.out)
    replace M1 := Lib.hid (xa.cell M1.out)
    replace M2 := Lib.hid (xa.cell M2.out)
    replace O0 := Lib.hid (xa.cell O0.out)
    replace O1 := Lib.hid (xa.cell O1.out)
    replace O2 := Lib.hid (xa.cell O2.out)
    replace Rab := Lib.hid (Rab.out.ext xa)
    replace Cab := Lib.hid (xa.cell Cab.out)
    replace Rbc := Lib.hid (Rbc.out.ext xa)
    replace Cbc := Lib.hid (xa.cell Cbc.out)
    replace Roo := Lib.hid (Roo.out.ext xa)
    have X_6 := Lib.hid (X_5.out.trans xa)
    clear X_5
    have Coo : Hid (Woo.cell? ⟨w3.heap.size, 0, none⟩ = some (.slice aoo noo B1.length)) := Lib.hid (by simp [World.cell?, hba])
    have ZWoo : Hid (w3.heap.size + 1 = Woo.heap.size) := Lib.hid (by rw [hW]; simp)
    have HWoo := Lib.hid hW
    clear hW xa hba
    have m0 := M0.out
    rw [HWoo.out] at m0
    have cbc := Cbc.out
    rw [HWoo.out] at cbc
    go_wp2_with fail
    rw [← HWoo.out]
    refine (bes2_c (w := Woo) (ZWoo.out) R0_.out Rbc.out BL_.out BA2_.out HG2_.out HB2_.out).mono ?_
    rintro e w4 ⟨v, rfl, rr, x⟩
    clear m0 cbc
    replace R0_ := Lib.hid (R0_.out.ext x)
    replace R1_ := Lib.hid (R1_.out.ext x)
    replace R2_ := Lib.hid (R2_.out.ext x)
    replace R3_ := Lib.hid (R3_.out.ext x)
    replace R4_ := Lib.hid (R4_.out.ext x)
    replace R5_ := Lib.hid (R5_.out.ext x)
    replace M0 := Lib.hid (x.cell M0.out)
    replace M1 := Lib.hid (x.cell M1.out)
    replace M2 := Lib.hid (x.cell M2.out)
    replace O0 := Lib.hid (x.cell O0.out)
    replace O1 := Lib.hid (x.cell O1.out)
    replace O2 := Lib.hid (x.cell O2.out)
    replace Rab := Lib.hid (Rab.out.ext x)
    replace Cab := Lib.hid (x.cell Cab.out)
    replace Rbc := Lib.hid (Rbc.out.ext x)
    replace Cbc := Lib.hid (x.cell Cbc.out)
    replace Roo := Lib.hid (Roo.out.ext x)
    replace Coo := Lib.hid (x.cell Coo.out)
    have X_7 := Lib.hid (X_6.out.trans x)
    clear X_6
    clear x
    obtain ⟨att, ntt, hv, j1, j2, j3, j4⟩ := rr.open
    subst hv
    have Rtt := Lib.hid rr
    clear rr j1 j2 j3 j4
    obtain ⟨Wtt, hW⟩ : ∃ Wtt, Wtt = w4.alloc (.cells #[.slice att ntt B2.length] 24) := ⟨_, rfl⟩
    have xa : Ext w4 Wtt := by rw [hW]; exact (Ext.refl w4).alloc _
    have hba : Wtt.heap[w4.heap.size]? = some (Obj.cells #[.slice att ntt B2.length] 24 (0, 0)) := by rw [hW]; exact blk_at rfl
    replace R0_ := Lib.hid (R0_.out.ext xa)
    replace R1_ := Lib.hid (R1_.out.ext xa)
    replace R2_ := Lib.hid (R2_.out.ext xa)
    replace R3_ := Lib.hid (R3_.out.ext xa)
    replace R4_ := Lib.hid (R4_.out.ext xa)
    replace R5_ := Lib.hid (R5_.out.ext xa)
    replace M0 := Lib.hid (xa.cell M0.out)
    replace M1 := Lib.hid (xa.cell M1.out)
    replace M2 := Lib.hid (xa.cell M2.out)
    replace O0 := Lib.hid (xa.cell O0.out)
    replace O1 := Lib.hid (xa.cell O1.out)
    replace O2 := Lib.hid (xa.cell O2.out)
    replace Rab := Lib.hid (Rab.out.ext xa)
    replace Cab := Lib.hid (xa.cell Cab.out)
    replace Rbc := Lib.hid (Rbc.out.ext xa)
    replace Cbc := Lib.hid (xa.cell Cbc.out)
    replace Roo := Lib.hid (Roo.out.ext xa)
    replace Coo := Lib.hid (xa.cell Coo.out)
    replace Rtt := Lib.hid (Rtt.out.ext xa)
    have X_8 := Lib.hid (X_7.out.trans xa)
    clear X_7
    have Ctt : Hid (Wtt.cell? ⟨w4.heap.size, 0, none⟩ = some (.slice att ntt B2.length)) := Lib.hid (by simp [World.cell?, hba])
    have ZWtt : Hid (w4.heap.size + 1 = Wtt.heap.size) := Lib.hid (by rw [hW]; simp)
    have HWtt := Lib.hid hW
    clear hW xa hba
    have m0 := M0.out
    rw [HWtt.out] at m0
    have m1 := M1.out
    rw [HWtt.out] at m1
    have m2 := M2.out
    rw [HWtt.out] at m2
    go_wp2_with fail
    rw [← HWtt.out]
    refine (bes3_c (w := Wtt) (ZWtt.out) R0_.out R1_.out R2_.out BL_.out BT_.out BR_.out HE3_.out HA3_.out).mono ?_
    rintro e w5 ⟨v, rfl, rr, x⟩
    clear m0 m1 m2
    replace R0_ := Lib.hid (R0_.out.ext x)
    replace R1_ := Lib.hid (R1_.out.ext x)
    replace R2_ := Lib.hid (R2_.out.ext x)
    replace R3_ := Lib.hid (R3_.out.ext x)
    replace R4_ := Lib.hid (R4_.out.ext x)
    replace R5_ := Lib.hid (R5_.out.ext x)
    replace M0 := Lib.hid (x.cell M0.out)
    replace M1 := Lib.hid (x.cell M1.out)
    replace M2 := Lib.hid (x.cell M2.out)
    replace O0 := Lib.hid (x.cell O0.out)
    replace O1 := Lib.hid (x.cell O1.out)
    replace O2 := Lib.hid (x.cell O2.out)
    replace Rab := Lib.hid (Rab.out.ext x)
    replace Cab := Lib.hid (x.cell Cab.out)
    replace Rbc := Lib.hid (Rbc.out.ext x)
    replace Cbc := Lib.hid (x.cell Cbc.out)
    replace Roo := Lib.hid (Roo.out.ext x)
    replace Coo := Lib.hid (x.cell Coo.out)
    replace Rtt := Lib.hid (Rtt.out.ext x)
    replace Ctt := Lib.hid (x.cell Ctt.out)
    have X_9 := Lib.hid (X_8.out.trans x)
    clear X_8
    clear x
    obtain ⟨aal, nal, hv, j1, j2, j3, j4⟩ := rr.open
    subst hv
    have Ral := Lib.hid rr
    clear rr j1 j2 j3 j4
    obtain ⟨Wal, hW⟩ : ∃ Wal, Wal = w5.alloc (.cells #[.slice aal nal A3.length] 24) := ⟨_, rfl⟩
    have xa : Ext w5 Wal := by rw [hW]; exact (Ext.refl w5).alloc _
    have hba : Wal.heap[w5.heap.size]? = some (Obj.cells #[.slice aal nal A3.length] 24 (0, 0)) := by rw [hW]; exact blk_at rfl
    replace R0_ := Lib.hid (R0_.out.ext xa)
    replace R1_ := Lib.hid (R1_.out.ext xa)
    replace R2_ := Lib.hid (R2_.out.ext xa)
    replace R3_ := Lib.hid (R3_.out.ext xa)
    replace R4_ := Lib.hid (R4_.out.ext xa)
    replace R5_ := Lib.hid (R5_.out.ext xa)
    replace M0 := Lib.hid (xa.cell M0.out)
    replace M1 := Lib.hid (xa.cell M1.out)
    replace M2 := Lib.hid (xa.cell M2.out)
    replace O0 := Lib.hid (xa.cell O0.out)
    replace O1 := Lib.hid (xa.cell O1.out)
    replace O2 := Lib.hid (xa.cell O2.out)
    replace Rab := Lib.hid (Rab.out.ext xa)
    replace Cab := Lib.hid (xa.cell Cab.out)
    replace Rbc := Lib.hid (Rbc.out.ext xa)
    replace Cbc := Lib.hid (xa.cell Cbc.out)
    replace Roo := Lib.hid (Roo.out.ext xa)
    replace Coo := Lib.hid (xa.cell Coo.out)
    replace Rtt := Lib.hid (Rtt.out.ext xa)
    replace Ctt := Lib.hid (xa.cell Ctt.out)
    replace Ral := Lib.hid (Ral.out.ext xa)
    have X_10 := Lib.hid (X_9.out.trans xa)
    clear X_9
    have Cal : Hid (Wal.cell? ⟨w5.heap.size, 0, none⟩ = some (.slice aal nal A3.length)) := Lib.hid (by simp [World.cell?, hba])
    have ZWal : Hid (w5.heap.size + 1 = Wal.heap.size) := Lib.hid (by rw [hW]; simp)
    have HWal := Lib.hid hW
    clear hW xa hba
    by_cases hz1 : e1 = 0
    · subst hz1
      by_cases hz2 : e2 = 0
      · subst hz2
        obtain ⟨u1, u2, u3, u4⟩ := HAS_.out (by first | rfl | trivial) (by first | rfl | trivial)
        subst u1
        subst u3
        subst u2
        subst u4
        have coo := Coo.out
        rw [HWal.out] at coo
        have cal := Cal.out
        rw [HWal.out] at cal
        go_wp2_with fail
        rw [← HWal.out]
        refine (df_c _ _ _ _ _ _ Roo.out Ral.out).mono ?_
        rintro e wd1 ⟨rfl, x⟩
        clear coo cal
        replace R0_ := Lib.hid (R0_.out.ext x)
        replace R1_ := Lib.hid (R1_.out.ext x)
        replace R2_ := Lib.hid (R2_.out.ext x)
        replace R3_ := Lib.hid (R3_.out.ext x)
        replace R4_ := Lib.hid (R4_.out.ext x)
        replace R5_ := Lib.hid (R5_.out.ext x)
        replace M0 := Lib.hid (x.cell M0.out)
        replace M1 := Lib.hid (x.cell M1.out)
        replace M2 := Lib.hid (x.cell M2.out)
        replace O0 := Lib.hid (x.cell O0.out)
        replace O1 := Lib.hid (x.cell O1.out)
        replace O2 := Lib.hid (x.cell O2.out)
        replace Rab := Lib.hid (Rab.out.ext x)
        replace Cab := Lib.hid (x.cell Cab.out)
        replace Rbc := Lib.hid (Rbc.out.ext x)
        replace Cbc := Lib.hid (x.cell Cbc.out)
        replace Roo := Lib.hid (Roo.out.ext x)
        replace Coo := Lib.hid (x.cell Coo.out)
        replace Rtt := Lib.hid (Rtt.out.ext x)
        replace Ctt := Lib.hid (x.cell Ctt.out)
        replace Ral := Lib.hid (Ral.out.ext x)
        replace Cal := Lib.hid (x.cell Cal.out)
        have X_11 := Lib.hid (X_10.out.trans x)
        clear X_10
        clear x
        have ctt := Ctt.out
        have cal := Cal.out
        go_wp2_with fail
        refine (df_c _ _ _ _ _ _ Rtt.out Ral.out).mono ?_
        rintro e wd2 ⟨rfl, x⟩
        clear ctt cal
        replace R0_ := Lib.hid (R0_.out.ext x)
        replace R1_ := Lib.hid (R1_.out.ext x)
        replace R2_ := Lib.hid (R2_.out.ext x)
        replace R3_ := Lib.hid (R3_.out.ext x)
        replace R4_ := Lib.hid (R4_.out.ext x)
        replace R5_ := Lib.hid (R5_.out.ext x)
        replace M0 := Lib.hid (x.cell M0.out)
        replace M1 := Lib.hid (x.cell M1.out)
        replace M2 := Lib.hid (x.cell M2.out)
        replace O0 := Lib.hid (x.cell O0.out)
        replace O1 := Lib.hid (x.cell O1.out)
        replace O2 := Lib.hid (x.cell O2.out)
        replace Rab := Lib.hid (Rab.out.ext x)
        replace Cab := Lib.hid (x.cell Cab.out)
        replace Rbc := Lib.hid (Rbc.out.ext x)
        replace Cbc := Lib.hid (x.cell Cbc.out)
        replace Roo := Lib.hid (Roo.out.ext x)
        replace Coo := Lib.hid (x.cell Coo.out)
        replace Rtt := Lib.hid (Rtt.out.ext x)
        replace Ctt := Lib.hid (x.cell Ctt.out)
        replace Ral := Lib.hid (Ral.out.ext x)
        replace Cal := Lib.hid (x.cell Cal.out)
        have X_12 := Lib.hid (X_11.out.trans x)
        clear X_11
        clear x
        have m0 := M0.out
        have o0 := O0.out
        go_wp2_with fail
        refine (abo2_c (w := wd2) (rfl) R0_.out R3_.out HAB1_.out.1 HAB1_.out.2).mono ?_
        rintro e w6 ⟨v, rfl, rr, x⟩
        clear m0 o0
        replace R0_ := Lib.hid (R0_.out.ext x)
        replace R1_ := Lib.hid (R1_.out.ext x)
        replace R2_ := Lib.hid (R2_.out.ext x)
        replace R3_ := Lib.hid (R3_.out.ext x)
        replace R4_ := Lib.hid (R4_.out.ext x)
        replace R5_ := Lib.hid (R5_.out.ext x)
        replace M0 := Lib.hid (x.cell M0.out)
        replace M1 := Lib.hid (x.cell M1.out)
        replace M2 := Lib.hid (x.cell M2.out)
        replace O0 := Lib.hid (x.cell O0.out)
        replace O1 := Lib.hid (x.cell O1.out)
        replace O2 := Lib.hid (x.cell O2.out)
        replace Rab := Lib.hid (Rab.out.ext x)
        replace Cab := Lib.hid (x.cell Cab.out)
        replace Rbc := Lib.hid (Rbc.out.ext x)
        replace Cbc := Lib.hid (x.cell Cbc.out)
        replace Roo := Lib.hid (Roo.out.ext x)
        replace Coo := Lib.hid (x.cell Coo.out)
        replace Rtt := Lib.hid (Rtt.out.ext x)
        replace Ctt := Lib.hid (x.cell Ctt.out)
        replace Ral := Lib.hid (Ral.out.ext x)
        replace Cal := Lib.hid (x.cell Cal.out)
        have X_13 := Lib.hid (X_12.out.trans x)
        clear X_12
        clear x
        obtain ⟨aup, nup, hv, j1, j2, j3, j4⟩ := rr.open
        subst hv
        have Rup := Lib.hid rr
        clear rr j1 j2 j3 j4
        obtain ⟨Wup, hW⟩ : ∃ Wup, Wup = w6.alloc (.cells #[.slice aup nup UP.length] 24) := ⟨_, rfl⟩
        have xa : Ext w6 Wup := by rw [hW]; exact (Ext.refl w6).alloc _
        have hba : Wup.heap[w6.heap.size]? = some (Obj.cells #[.slice aup nup UP.length] 24 (0, 0)) := by rw [hW]; exact blk_at rfl
        replace R0_ := Lib.hid (R0_.out.ext xa)
        replace R1_ := Lib.hid (R1_.out.ext xa)
        replace R2_ := Lib.hid (R2_.out.ext xa)
        replace R3_ := Lib.hid (R3_.out.ext xa)
        replace R4_ := Lib.hid (R4_.out.ext xa)
        replace R5_ := Lib.hid (R5_.out.ext xa)
        replace M0 := Lib.hid (xa.cell M0.out)
        replace M1 := Lib.hid (xa.cell M1.out)
        replace M2 := Lib.hid (xa.cell M2.out)
        replace O0 := Lib.hid (xa.cell O0.out)
        replace O1 := Lib.hid (xa.cell O1.out)
        replace O2 := Lib.hid (xa.cell O2.out)
        replace Rab := Lib.hid (Rab.out.ext xa)
        replace Cab := Lib.hid (xa.cell Cab.out)
        replace Rbc := Lib.hid (Rbc.out.ext xa)
        replace Cbc := Lib.hid (xa.cell Cbc.out)
        replace Roo := Lib.hid (Roo.out.ext xa)
        replace Coo := Lib.hid (xa.cell Coo.out)
        replace Rtt := Lib.hid (Rtt.out.ext xa)
        replace Ctt := Lib.hid (xa.cell Ctt.out)
        replace Ral := Lib.hid (Ral.out.ext xa)
        replace Cal := Lib.hid (xa.cell Cal.out)
        replace Rup := Lib.hid (Rup.out.ext xa)
        have X_14 := Lib.hid (X_13.out.trans xa)
        clear X_13
        have Cup : Hid (Wup.cell? ⟨w6.heap.size, 0, none⟩ = some (.slice aup nup UP.length)) := Lib.hid (by simp [World.cell?, hba])
        have ZWup : Hid (w6.heap.size + 1 = Wup.heap.size) := Lib.hid (by rw [hW]; simp)
        have HWup := Lib.hid hW
        clear hW xa hba
        have m1 := M1.out
        rw [HWup.out] at m1
        have o1 := O1.out
        rw [HWup.out] at o1
        go_wp2_with fail
        rw [← HWup.out]
        refine (abo2_c (w := Wup) (ZWup.out) R1_.out R4_.out HAB2_.out.1 HAB2_.out.2).mono ?_
        rintro e w7 ⟨v, rfl, rr, x⟩
        clear m1 o1
        replace R0_ := Lib.hid (R0_.out.ext x)
        replace R1_ := Lib.hid (R1_.out.ext x)
        replace R2_ := Lib.hid (R2_.out.ext x)
        replace R3_ := Lib.hid (R3_.out.ext x)
        replace R4_ := Lib.hid (R4_.out.ext x)
        replace R5_ := Lib.hid (R5_.out.ext x)
        replace M0 := Lib.hid (x.cell M0.out)
        replace M1 := Lib.hid (x.cell M1.out)
        replace M2 := Lib.hid (x.cell M2.out)
        replace O0 := Lib.hid (x.cell O0.out)
        replace O1 := Lib.hid (x.cell O1.out)
        replace O2 := Lib.hid (x.cell O2.out)
        replace Rab := Lib.hid (Rab.out.ext x)
        replace Cab := Lib.hid (x.cell Cab.out)
        replace Rbc := Lib.hid (Rbc.out.ext x)
        replace Cbc := Lib.hid (x.cell Cbc.out)
        replace Roo := Lib.hid (Roo.out.ext x)
        replace Coo := Lib.hid (x.cell Coo.out)
        replace Rtt := Lib.hid (Rtt.out.ext x)
        replace Ctt := Lib.hid (x.cell Ctt.out)
        replace Ral := Lib.hid (Ral.out.ext x)
        replace Cal := Lib.hid (x.cell Cal.out)
        replace Rup := Lib.hid (Rup.out.ext x)
        replace Cup := Lib.hid (x.cell Cup.out)
        have X_15 := Lib.hid (X_14.out.trans x)
        clear X_14
        clear x
        obtain ⟨adn, ndn, hv, j1, j2, j3, j4⟩ := rr.open
        subst hv
        have Rdn := Lib.hid rr
        clear rr j1 j2 j3 j4
        obtain ⟨Wdn, hW⟩ : ∃ Wdn, Wdn = w7.alloc (.cells #[.slice adn ndn DN.length] 24) := ⟨_, rfl⟩
        have xa : Ext w7 Wdn := by rw [hW]; exact (Ext.refl w7).alloc _
        have hba : Wdn.heap[w7.heap.size]? = some (Obj.cells #[.slice adn ndn DN.length] 24 (0, 0)) := by rw [hW]; exact blk_at rfl
        replace R0_ := Lib.hid (R0_.out.ext xa)
        replace R1_ := Lib.hid (R1_.out.ext xa)
        replace R2_ := Lib.hid (R2_.out.ext xa)
        replace R3_ := Lib.hid (R3_.out.ext xa)
        replace R4_ := Lib.hid (R4_.out.ext xa)
        replace R5_ := Lib.hid (R5_.out.ext xa)
        replace M0 := Lib.hid (xa.cell M0.out)
        replace M1 := Lib.hid (xa.cell M1.out)
        replace M2 := Lib.hid (xa.cell M2.out)
        replace O0 := Lib.hid (xa.cell O0.out)
        replace O1 := Lib.hid (xa.cell O1.out)
        replace O2 := Lib.hid (xa.cell O2.out)
        replace Rab := Lib.hid (Rab.out.ext xa)
        replace Cab := Lib.hid (xa.cell Cab.out)
        replace Rbc := Lib.hid (Rbc.out.ext xa)
        replace Cbc := Lib.hid (xa.cell Cbc.out)
        replace Roo := Lib.hid (Roo.out.ext xa)
        replace Coo := Lib.hid (xa.cell Coo.out)
        replace Rtt := Lib.hid (Rtt.out.ext xa)
        replace Ctt := Lib.hid (xa.cell Ctt.out)
        replace Ral := Lib.hid (Ral.out.ext xa)
        replace Cal := Lib.hid (xa.cell Cal.out)
        replace Rup := Lib.hid (Rup.out.ext xa)
        replace Cup := Lib.hid (xa.cell Cup.out)
        replace Rdn := Lib.hid (Rdn.out.ext xa)
        have X_16 := Lib.hid (X_15.out.trans xa)
        clear X_15
        have Cdn : Hid (Wdn.cell? ⟨w7.heap.size, 0, none⟩ = some (.slice adn ndn DN.length)) := Lib.hid (by simp [World.cell?, hba])
        have ZWdn : Hid (w7.heap.size + 1 = Wdn.heap.size) := Lib.hid (by rw [hW]; simp)
        have HWdn := Lib.hid hW
        clear hW xa hba
        have m0 := M0.out
        rw [HWdn.out] at m0
        have m1 := M1.out
        rw [HWdn.out] at m1
        go_wp2_with fail
        rw [← HWdn.out]
        refine (bes2_c (w := Wdn) (ZWdn.out) R0_.out R1_.out BL_.out BT_.out HE1_.out HA1_.out).mono ?_
        rintro e w8 ⟨v, rfl, rr, x⟩
        clear m0 m1
        replace R0_ := Lib.hid (R0_.out.ext x)
        replace R1_ := Lib.hid (R1_.out.ext x)
        replace R2_ := Lib.hid (R2_.out.ext x)
        replace R3_ := Lib.hid (R3_.out.ext x)
        replace R4_ := Lib.hid (R4_.out.ext x)
        replace R5_ := Lib.hid (R5_.out.ext x)
        replace M0 := Lib.hid (x.cell M0.out)
        replace M1 := Lib.hid (x.cell M1.out)
        replace M2 := Lib.hid (x.cell M2.out)
        replace O0 := Lib.hid (x.cell O0.out)
        replace O1 := Lib.hid (x.cell O1.out)
        replace O2 := Lib.hid (x.cell O2.out)
        replace Rab := Lib.hid (Rab.out.ext x)
        replace Cab := Lib.hid (x.cell Cab.out)
        replace Rbc := Lib.hid (Rbc.out.ext x)
        replace Cbc := Lib.hid (x.cell Cbc.out)
        replace Roo := Lib.hid (Roo.out.ext x)
        replace Coo := Lib.hid (x.cell Coo.out)
        replace Rtt := Lib.hid (Rtt.out.ext x)
        replace Ctt := Lib.hid (x.cell Ctt.out)
        replace Ral := Lib.hid (Ral.out.ext x)
        replace Cal := Lib.hid (x.cell Cal.out)
        replace Rup := Lib.hid (Rup.out.ext x)
        replace Cup := Lib.hid (x.cell Cup.out)
        replace Rdn := Lib.hid (Rdn.out.ext x)
        replace Cdn := Lib.hid (x.cell Cdn.out)
        have X_17 := Lib.hid (X_16.out.trans x)
        clear X_16
        clear x
        obtain ⟨alf, nlf, hv, j1, j2, j3, j4⟩ := rr.open
        subst hv
        have Rlf := Lib.hid rr
        clear rr j1 j2 j3 j4
        obtain ⟨Wlf, hW⟩ : ∃ Wlf, Wlf = w8.alloc (.cells #[.slice alf nlf A1.length] 24) := ⟨_, rfl⟩
        have xa : Ext w8 Wlf := by rw [hW]; exact (Ext.refl w8).alloc _
        have hba : Wlf.heap[w8.heap.size]? = some (Obj.cells #[.slice alf nlf A1.length] 24 (0, 0)) := by rw [hW]; exact blk_at rfl
        replace R0_ := Lib.hid (R0_.out.ext xa)
        replace R1_ := Lib.hid (R1_.out.ext xa)
        replace R2_ := Lib.hid (R2_.out.ext xa)
        replace R3_ := Lib.hid (R3_.out.ext xa)
        replace R4_ := Lib.hid (R4_.out.ext xa)
        replace R5_ := Lib.hid (R5_.out.ext xa)
        replace M0 := Lib.hid (xa.cell M0.out)
        replace M1 := Lib.hid (xa.cell M1.out)
        replace M2 := Lib.hid (xa.cell M2.out)
        replace O0 := Lib.hid (xa.cell O0.out)
        replace O1 := Lib.hid (xa.cell O1.out)
        replace O2 := Lib.hid (xa.cell O2.out)
        replace Rab := Lib.hid (Rab.out.ext xa)
        replace Cab := Lib.hid (xa.cell Cab.out)
        replace Rbc := Lib.hid (Rbc.out.ext xa)
        replace Cbc := Lib.hid (xa.cell Cbc.out)
        replace Roo := Lib.hid (Roo.out.ext xa)
        replace Coo := Lib.hid (xa.cell Coo.out)
        replace Rtt := Lib.hid (Rtt.out.ext xa)
        replace Ctt := Lib.hid (xa.cell Ctt.out)
        replace Ral := Lib.hid (Ral.out.ext xa)
        replace Cal := Lib.hid (xa.cell Cal.out)
        replace Rup := Lib.hid (Rup.out.ext xa)
        replace Cup := Lib.hid (xa.cell Cup.out)
        replace Rdn := Lib.hid (Rdn.out.ext xa)
        replace Cdn := Lib.hid (xa.cell Cdn.out)
        replace Rlf := Lib.hid (Rlf.out.ext xa)
        have X_18 := Lib.hid (X_17.out.trans xa)
        clear X_17
        have Clf : Hid (Wlf.cell? ⟨w8.heap.size, 0, none⟩ = some (.slice alf nlf A1.length)) := Lib.hid (by simp [World.cell?, hba])
        have ZWlf : Hid (w8.heap.size + 1 = Wlf.heap.size) := Lib.hid (by rw [hW]; simp)
        have HWlf := Lib.hid hW
        clear hW xa hba
        have o0 := O0.out
        rw [HWlf.out] at o0
        have o1 := O1.out
        rw [HWlf.out] at o1
        go_wp2_with fail
        rw [← HWlf.out]
        refine (bes2_c (w := Wlf) (ZWlf.out) R3_.out R4_.out BL2_.out BT2_.out HE4_.out HA4_.out).mono ?_
        rintro e w9 ⟨v, rfl, rr, x⟩
        clear o0 o1
        replace R0_ := Lib.hid (R0_.out.ext x)
        replace R1_ := Lib.hid (R1_.out.ext x)
        replace R2_ := Lib.hid (R2_.out.ext x)
        replace R3_ := Lib.hid (R3_.out.ext x)
        replace R4_ := Lib.hid (R4_.out.ext x)
        replace R5_ := Lib.hid (R5_.out.ext x)
        replace M0 := Lib.hid (x.cell M0.out)
        replace M1 := Lib.hid (x.cell M1.out)
        replace M2 := Lib.hid (x.cell M2.out)
        replace O0 := Lib.hid (x.cell O0.out)
        replace O1 := Lib.hid (x.cell O1.out)
        replace O2 := Lib.hid (x.cell O2.out)
        replace Rab := Lib.hid (Rab.out.ext x)
        replace Cab := Lib.hid (x.cell Cab.out)
        replace Rbc := Lib.hid (Rbc.out.ext x)
        replace Cbc := Lib.hid (x.cell Cbc.out)
        replace Roo := Lib.hid (Roo.out.ext x)
        replace Coo := Lib.hid (x.cell Coo.out)
        replace Rtt := Lib.hid (Rtt.out.ext x)
        replace Ctt := Lib.hid (x.cell Ctt.out)
        replace Ral := Lib.hid (Ral.out.ext x)
        replace Cal := Lib.hid (x.cell Cal.out)
        replace Rup := Lib.hid (Rup.out.ext x)
        replace Cup := Lib.hid (x.cell Cup.out)
        replace Rdn := Lib.hid (Rdn.out.ext x)
        replace Cdn := Lib.hid (x.cell Cdn.out)
        replace Rlf := Lib.hid (Rlf.out.ext x)
        replace Clf := Lib.hid (x.cell Clf.out)
        have X_19 := Lib.hid (X_18.out.trans x)
        clear X_18
        clear x
        obtain ⟨arg, nrg, hv, j1, j2, j3, j4⟩ := rr.open
        subst hv
        have Rrg := Lib.hid rr
        clear rr j1 j2 j3 j4
        obtain ⟨Wrg, hW⟩ : ∃ Wrg, Wrg = w9.alloc (.cells #[.slice arg nrg A4.length] 24) := ⟨_, rfl⟩
        have xa : Ext w9 Wrg := by rw [hW]; exact (Ext.refl w9).alloc _
        have hba : Wrg.heap[w9.heap.size]? = some (Obj.cells #[.slice arg nrg A4.length] 24 (0, 0)) := by rw [hW]; exact blk_at rfl
        replace R0_ := Lib.hid (R0_.out.ext xa)
        replace R1_ := Lib.hid (R1_.out.ext xa)
        replace R2_ := Lib.hid (R2_.out.ext xa)
        replace R3_ := Lib.hid (R3_.out.ext xa)
        replace R4_ := Lib.hid (R4_.out.ext xa)
        replace R5_ := Lib.hid (R5_.out.ext xa)
        replace M0 := Lib.hid (xa.cell M0.out)
        replace M1 := Lib.hid (xa.cell M1.out)
        replace M2 := Lib.hid (xa.cell M2.out)
        replace O0 := Lib.hid (xa.cell O0.out)
        replace O1 := Lib.hid (xa.cell O1.out)
        replace O2 := Lib.hid (xa.cell O2.out)
        replace Rab := Lib.hid (Rab.out.ext xa)
        replace Cab := Lib.hid (xa.cell Cab.out)
        replace Rbc := Lib.hid (Rbc.out.ext xa)
        replace Cbc := Lib.hid (xa.cell Cbc.out)
        replace Roo := Lib.hid (Roo.out.ext xa)
        replace Coo := Lib.hid (xa.cell Coo.out)
        replace Rtt := Lib.hid (Rtt.out.ext xa)
        replace Ctt := Lib.hid (xa.cell Ctt.out)
        replace Ral := Lib.hid (Ral.out.ext xa)
        replace Cal := Lib.hid (xa.cell Cal.out)
        replace Rup := Lib.hid (Rup.out.ext xa)
        replace Cup := Lib.hid (xa.cell Cup.out)
        replace Rdn := Lib.hid (Rdn.out.ext xa)
        replace Cdn := Lib.hid (xa.cell Cdn.out)
        replace Rlf := Lib.hid (Rlf.out.ext xa)
        replace Clf := Lib.hid (xa.cell Clf.out)
        replace Rrg := Lib.hid (Rrg.out.ext xa)
        have X_20 := Lib.hid (X_19.out.trans xa)
        clear X_19
        have Crg : Hid (Wrg.cell? ⟨w9.heap.size, 0, none⟩ = some (.slice arg nrg A4.length)) := Lib.hid (by simp [World.cell?, hba])
        have ZWrg : Hid (w9.heap.size + 1 = Wrg.heap.size) := Lib.hid (by rw [hW]; simp)
        have HWrg := Lib.hid hW
        clear hW xa hba
        have cup := Cup.out
        rw [HWrg.out] at cup
        have cdn := Cdn.out
        rw [HWrg.out] at cdn
        go_wp2_with fail
        rw [← HWrg.out]
        refine (bes2_c (w := Wrg) (ZWrg.out) Rup.out Rdn.out BU_.out BD_.out HQE_.out HQ_.out).mono ?_
        rintro e w10 ⟨v, rfl, rr, x⟩
        clear cup cdn
        replace R0_ := Lib.hid (R0_.out.ext x)
        replace R1_ := Lib.hid (R1_.out.ext x)
        replace R2_ := Lib.hid (R2_.out.ext x)
        replace R3_ := Lib.hid (R3_.out.ext x)
        replace R4_ := Lib.hid (R4_.out.ext x)
        replace R5_ := Lib.hid (R5_.out.ext x)
        replace M0 := Lib.hid (x.cell M0.out)
        replace M1 := Lib.hid (x.cell M1.out)
        replace M2 := Lib.hid (x.cell M2.out)
        replace O0 := Lib.hid (x.cell O0.out)
        replace O1 := Lib.hid (x.cell O1.out)
        replace O2 := Lib.hid (x.cell O2.out)
        replace Rab := Lib.hid (Rab.out.ext x)
        replace Cab := Lib.hid (x.cell Cab.out)
        replace Rbc := Lib.hid (Rbc.out.ext x)
        replace Cbc := Lib.hid (x.cell Cbc.out)
        replace Roo := Lib.hid (Roo.out.ext x)
        replace Coo := Lib.hid (x.cell Coo.out)
        replace Rtt := Lib.hid (Rtt.out.ext x)
        replace Ctt := Lib.hid (x.cell Ctt.out)
        replace Ral := Lib.hid (Ral.out.ext x)
        replace Cal := Lib.hid (x.cell Cal.out)
        replace Rup := Lib.hid (Rup.out.ext x)
        replace Cup := Lib.hid (x.cell Cup.out)
        replace Rdn := Lib.hid (Rdn.out.ext x)
        replace Cdn := Lib.hid (x.cell Cdn.out)
        replace Rlf := Lib.hid (Rlf.out.ext x)
        replace Clf := Lib.hid (x.cell Clf.out)
        replace Rrg := Lib.hid (Rrg.out.ext x)
        replace Crg := Lib.hid (x.cell Crg.out)
        have X_21 := Lib.hid (X_20.out.trans x)
        clear X_20
        clear x
        obtain ⟨ap, np, hv, j1, j2, j3, j4⟩ := rr.open
        subst hv
        have Rp := Lib.hid rr
        clear rr j1 j2 j3 j4
        obtain ⟨Wp, hW⟩ : ∃ Wp, Wp = w10.alloc (.cells #[.slice ap np Q.length] 24) := ⟨_, rfl⟩
        have xa : Ext w10 Wp := by rw [hW]; exact (Ext.refl w10).alloc _
        have hba : Wp.heap[w10.heap.size]? = some (Obj.cells #[.slice ap np Q.length] 24 (0, 0)) := by rw [hW]; exact blk_at rfl
        replace R0_ := Lib.hid (R0_.out.ext xa)
        replace R1_ := Lib.hid (R1_.out.ext xa)
        replace R2_ := Lib.hid (R2_.out.ext xa)
        replace R3_ := Lib.hid (R3_.out.ext xa)
        replace R4_ := Lib.hid (R4_.out.ext xa)
        replace R5_ := Lib.hid (R5_.out.ext xa)
        replace M0 := Lib.hid (xa.cell M0.out)
        replace M1 := Lib.hid (xa.cell M1.out)
        replace M2 := Lib.hid (xa.cell M2.out)
        replace O0 := Lib.hid (xa.cell O0.out)
        replace O1 := Lib.hid (xa.cell O1.out)
        replace O2 := Lib.hid (xa.cell O2.out)
        replace Rab := Lib.hid (Rab.out.ext xa)
        replace Cab := Lib.hid (xa.cell Cab.out)
        replace Rbc := Lib.hid (Rbc.out.ext xa)
        replace Cbc := Lib.hid (xa.cell Cbc.out)
        replace Roo := Lib.hid (Roo.out.ext xa)
        replace Coo := Lib.hid (xa.cell Coo.out)
        replace Rtt := Lib.hid (Rtt.out.ext xa)
        replace Ctt := Lib.hid (xa.cell Ctt.out)
        replace Ral := Lib.hid (Ral.out.ext xa)
        replace Cal := Lib.hid (xa.cell Cal.out)
        replace Rup := Lib.hid (Rup.out.ext xa)
        replace Cup := Lib.hid (xa.cell Cup.out)
        replace Rdn := Lib.hid (Rdn.out.ext xa)
        replace Cdn := Lib.hid (xa.cell Cdn.out)
        replace Rlf := Lib.hid (Rlf.out.ext xa)
        replace Clf := Lib.hid (xa.cell Clf.out)
        replace Rrg := Lib.hid (Rrg.out.ext xa)
        replace Crg := Lib.hid (xa.cell Crg.out)
        replace Rp := Lib.hid (Rp.out.ext xa)
        have X_22 := Lib.hid (X_21.out.trans xa)
        clear X_21
        have Cp : Hid (Wp.cell? ⟨w10.heap.size, 0, none⟩ = some (.slice ap np Q.length)) := Lib.hid (by simp [World.cell?, hba])
        have ZWp : Hid (w10.heap.size + 1 = Wp.heap.size) := Lib.hid (by rw [hW]; simp)
        have HWp := Lib.hid hW
        clear hW xa hba
        by_cases hz4 : e4 = 0
        · have hq := HEX_.out
          rw [if_neg (by omega)] at hq
          subst hz4
          subst hq
          obtain ⟨hr0, hq0⟩ := HEX2_.out (by first | rfl | trivial) (by first | rfl | trivial)
          subst hr0
          subst hq0
          have clf := Clf.out
          rw [HWp.out] at clf
          have crg := Crg.out
          rw [HWp.out] at crg
          go_wp2_with fail
          rw [← HWp.out]
          refine (abo2_c (w := Wp) (ZWp.out) Rlf.out Rrg.out HRE_.out HQ2_.out).mono ?_
          rintro e w11 ⟨v, rfl, rr, x⟩
          clear clf crg
          replace R0_ := Lib.hid (R0_.out.ext x)
          replace R1_ := Lib.hid (R1_.out.ext x)
          replace R2_ := Lib.hid (R2_.out.ext x)
          replace R3_ := Lib.hid (R3_.out.ext x)
          replace R4_ := Lib.hid (R4_.out.ext x)
          replace R5_ := Lib.hid (R5_.out.ext x)
          replace M0 := Lib.hid (x.cell M0.out)
          replace M1 := Lib.hid (x.cell M1.out)
          replace M2 := Lib.hid (x.cell M2.out)
          replace O0 := Lib.hid (x.cell O0.out)
          replace O1 := Lib.hid (x.cell O1.out)
          replace O2 := Lib.hid (x.cell O2.out)
          replace Rab := Lib.hid (Rab.out.ext x)
          replace Cab := Lib.hid (x.cell Cab.out)
          replace Rbc := Lib.hid (Rbc.out.ext x)
          replace Cbc := Lib.hid (x.cell Cbc.out)
          replace Roo := Lib.hid (Roo.out.ext x)
          replace Coo := Lib.hid (x.cell Coo.out)
          replace Rtt := Lib.hid (Rtt.out.ext x)
          replace Ctt := Lib.hid (x.cell Ctt.out)
          replace Ral := Lib.hid (Ral.out.ext x)
          replace Cal := Lib.hid (x.cell Cal.out)
          replace Rup := Lib.hid (Rup.out.ext x)
          replace Cup := Lib.hid (x.cell Cup.out)
          replace Rdn := Lib.hid (Rdn.out.ext x)
          replace Cdn := Lib.hid (x.cell Cdn.out)
          replace Rlf := Lib.hid (Rlf.out.ext x)
          replace Clf := Lib.hid (x.cell Clf.out)
          replace Rrg := Lib.hid (Rrg.out.ext x)
          replace Crg := Lib.hid (x.cell Crg.out)
          replace Rp := Lib.hid (Rp.out.ext x)
          replace Cp := Lib.hid (x.cell Cp.out)
          have X_23 := Lib.hid (X_22.out.trans x)
          clear X_22
          clear x
          obtain ⟨ar, nr, hv, j1, j2, j3, j4⟩ := rr.open
          subst hv
          have Rr := Lib.hid rr
          clear rr j1 j2 j3 j4
          obtain ⟨Wr, hW⟩ : ∃ Wr, Wr = w11.alloc (.cells #[.slice ar nr Q2.length] 24) := ⟨_, rfl⟩
          have xa : Ext w11 Wr := by rw [hW]; exact (Ext.refl w11).alloc _
          have hba : Wr.heap[w11.heap.size]? = some (Obj.cells #[.slice ar nr Q2.length] 24 (0, 0)) := by rw [hW]; exact blk_at rfl
          replace R0_ := Lib.hid (R0_.out.ext xa)
          replace R1_ := Lib.hid (R1_.out.ext xa)
          replace R2_ := Lib.hid (R2_.out.ext xa)
          replace R3_ := Lib.hid (R3_.out.ext xa)
          replace R4_ := Lib.hid (R4_.out.ext xa)
          replace R5_ := Lib.hid (R5_.out.ext xa)
          replace M0 := Lib.hid (xa.cell M0.out)
          replace M1 := Lib.hid (xa.cell M1.out)
          replace M2 := Lib.hid (xa.cell M2.out)
          replace O0 := Lib.hid (xa.cell O0.out)
          replace O1 := Lib.hid (xa.cell O1.out)
          replace O2 := Lib.hid (xa.cell O2.out)
          replace Rab := Lib.hid (Rab.out.ext xa)
          replace Cab := Lib.hid (xa.cell Cab.out)
          replace Rbc := Lib.hid (Rbc.out.ext xa)
          replace Cbc := Lib.hid (xa.cell Cbc.out)
          replace Roo := Lib.hid (Roo.out.ext xa)
          replace Coo := Lib.hid (xa.cell Coo.out)
          replace Rtt := Lib.hid (Rtt.out.ext xa)
          replace Ctt := Lib.hid (xa.cell Ctt.out)
          replace Ral := Lib.hid (Ral.out.ext xa)
          replace Cal := Lib.hid (xa.cell Cal.out)
          replace Rup := Lib.hid (Rup.out.ext xa)
          replace Cup := Lib.hid (xa.cell Cup.out)
          replace Rdn := Lib.hid (Rdn.out.ext xa)
          replace Cdn := Lib.hid (xa.cell Cdn.out)
          replace Rlf := Lib.hid (Rlf.out.ext xa)
          replace Clf := Lib.hid (xa.cell Clf.out)
          replace Rrg := Lib.hid (Rrg.out.ext xa)
          replace Crg := Lib.hid (xa.cell Crg.out)
          replace Rp := Lib.hid (Rp.out.ext xa)
          replace Cp := Lib.hid (xa.cell Cp.out)
          replace Rr := Lib.hid (Rr.out.ext xa)
          have X_24 := Lib.hid (X_23.out.trans xa)
          clear X_23
          have Cr : Hid (Wr.cell? ⟨w11.heap.size, 0, none⟩ = some (.slice ar nr Q2.length)) := Lib.hid (by simp [World.cell?, hba])
          have ZWr : Hid (w11.heap.size + 1 = Wr.heap.size) := Lib.hid (by rw [hW]; simp)
          have HWr := Lib.hid hW
          clear hW xa hba
          have cp := Cp.out
          rw [HWr.out] at cp
          have cr := Cr.out
          rw [HWr.out] at cr
          go_wp2_with fail
          rw [← HWr.out]
          refine (df_c _ _ _ _ _ _ Rp.out Rr.out).mono ?_
          rintro e w12 ⟨rfl, x⟩
          clear cp cr
          replace R0_ := Lib.hid (R0_.out.ext x)
          replace R1_ := Lib.hid (R1_.out.ext x)
          replace R2_ := Lib.hid (R2_.out.ext x)
          replace R3_ := Lib.hid (R3_.out.ext x)
          replace R4_ := Lib.hid (R4_.out.ext x)
          replace R5_ := Lib.hid (R5_.out.ext x)
          replace M0 := Lib.hid (x.cell M0.out)
          replace M1 := Lib.hid (x.cell M1.out)
          replace M2 := Lib.hid (x.cell M2.out)
          replace O0 := Lib.hid (x.cell O0.out)
          replace O1 := Lib.hid (x.cell O1.out)
          replace O2 := Lib.hid (x.cell O2.out)
          replace Rab := Lib.hid (Rab.out.ext x)
          replace Cab := Lib.hid (x.cell Cab.out)
          replace Rbc := Lib.hid (Rbc.out.ext x)
          replace Cbc := Lib.hid (x.cell Cbc.out)
          replace Roo := Lib.hid (Roo.out.ext x)
          replace Coo := Lib.hid (x.cell Coo.out)
          replace Rtt := Lib.hid (Rtt.out.ext x)
          replace Ctt := Lib.hid (x.cell Ctt.out)
          replace Ral := Lib.hid (Ral.out.ext x)
          replace Cal := Lib.hid (x.cell Cal.out)
          replace Rup := Lib.hid (Rup.out.ext x)
          replace Cup := Lib.hid (x.cell Cup.out)
          replace Rdn := Lib.hid (Rdn.out.ext x)
          replace Cdn := Lib.hid (x.cell Cdn.out)
          replace Rlf := Lib.hid (Rlf.out.ext x)
          replace Clf := Lib.hid (x.cell Clf.out)
          replace Rrg := Lib.hid (Rrg.out.ext x)
          replace Crg := Lib.hid (x.cell Crg.out)
          replace Rp := Lib.hid (Rp.out.ext x)
          replace Cp := Lib.hid (x.cell Cp.out)
          replace Rr := Lib.hid (Rr.out.ext x)
          replace Cr := Lib.hid (x.cell Cr.out)
          have X_25 := Lib.hid (X_24.out.trans x)
          clear X_24
          clear x
          go_wp2_with fail
          refine (lives15_calls _).mono ?_
          rintro e w13 ⟨rfl, x⟩
          replace R0_ := Lib.hid (R0_.out.ext x)
          replace R1_ := Lib.hid (R1_.out.ext x)
          replace R2_ := Lib.hid (R2_.out.ext x)
          replace R3_ := Lib.hid (R3_.out.ext x)
          replace R4_ := Lib.hid (R4_.out.ext x)
          replace R5_ := Lib.hid (R5_.out.ext x)
          replace M0 := Lib.hid (x.cell M0.out)
          replace M1 := Lib.hid (x.cell M1.out)
          replace M2 := Lib.hid (x.cell M2.out)
          replace O0 := Lib.hid (x.cell O0.out)
          replace O1 := Lib.hid (x.cell O1.out)
          replace O2 := Lib.hid (x.cell O2.out)
          replace Rab := Lib.hid (Rab.out.ext x)
          replace Cab := Lib.hid (x.cell Cab.out)
          replace Rbc := Lib.hid (Rbc.out.ext x)
          replace Cbc := Lib.hid (x.cell Cbc.out)
          replace Roo := Lib.hid (Roo.out.ext x)
          replace Coo := Lib.hid (x.cell Coo.out)
          replace Rtt := Lib.hid (Rtt.out.ext x)
          replace Ctt := Lib.hid (x.cell Ctt.out)
          replace Ral := Lib.hid (Ral.out.ext x)
          replace Cal := Lib.hid (x.cell Cal.out)
          replace Rup := Lib.hid (Rup.out.ext x)
          replace Cup := Lib.hid (x.cell Cup.out)
          replace Rdn := Lib.hid (Rdn.out.ext x)
          replace Cdn := Lib.hid (x.cell Cdn.out)
          replace Rlf := Lib.hid (Rlf.out.ext x)
          replace Clf := Lib.hid (x.cell Clf.out)
          replace Rrg := Lib.hid (Rrg.out.ext x)
          replace Crg := Lib.hid (x.cell Crg.out)
          replace Rp := Lib.hid (Rp.out.ext x)
          replace Cp := Lib.hid (x.cell Cp.out)
          replace Rr := Lib.hid (Rr.out.ext x)
          replace Cr := Lib.hid (x.cell Cr.out)
          have X_26 := Lib.hid (X_25.out.trans x)
          clear X_25
          clear x
          go_wp2
          go_ret
          exact ⟨rfl, X_26.out⟩
        · have hq := HEX_.out
          rw [if_pos (.inr hz4)] at hq
          subst hq
          have t4 : (e4 != 0) = true := by simpa using hz4
          have t5 : (e4 == 0) = false := by simpa using hz4
          clear hz4
          go_wp2_with fail
          rw [← HWp.out]
          refine (lives15_calls _).mono ?_
          rintro e w13 ⟨rfl, x⟩
          replace R0_ := Lib.hid (R0_.out.ext x)
          replace R1_ := Lib.hid (R1_.out.ext x)
          replace R2_ := Lib.hid (R2_.out.ext x)
          replace R3_ := Lib.hid (R3_.out.ext x)
          replace R4_ := Lib.hid (R4_.out.ext x)
          replace R5_ := Lib.hid (R5_.out.ext x)
          replace M0 := Lib.hid (x.cell M0.out)
          replace M1 := Lib.hid (x.cell M1.out)
          replace M2 := Lib.hid (x.cell M2.out)
          replace O0 := Lib.hid (x.cell O0.out)
          replace O1 := Lib.hid (x.cell O1.out)
          replace O2 := Lib.hid (x.cell O2.out)
          replace Rab := Lib.hid (Rab.out.ext x)
          replace Cab := Lib.hid (x.cell Cab.out)
          replace Rbc := Lib.hid (Rbc.out.ext x)
          replace Cbc := Lib.hid (x.cell Cbc.out)
          replace Roo := Lib.hid (Roo.out.ext x)
          replace Coo := Lib.hid (x.cell Coo.out)
          replace Rtt := Lib.hid (Rtt.out.ext x)
          replace Ctt := Lib.hid (x.cell Ctt.out)
          replace Ral := Lib.hid (Ral.out.ext x)
          replace Cal := Lib.hid (x.cell Cal.out)
          replace Rup := Lib.hid (Rup.out.ext x)
          replace Cup := Lib.hid (x.cell Cup.out)
          replace Rdn := Lib.hid (Rdn.out.ext x)
          replace Cdn := Lib.hid (x.cell Cdn.out)
          replace Rlf := Lib.hid (Rlf.out.ext x)
          replace Clf := Lib.hid (x.cell Clf.out)
          replace Rrg := Lib.hid (Rrg.out.ext x)
          replace Crg := Lib.hid (x.cell Crg.out)
          replace Rp := Lib.hid (Rp.out.ext x)
          replace Cp := Lib.hid (x.cell Cp.out)
          have X_23 := Lib.hid (X_22.out.trans x)
          clear X_22
          clear x
          go_wp2
          go_ret
          exact ⟨rfl, X_23.out⟩
      · have t2 : (e2 == 0) = false := by simpa using hz2
        clear hz2
        have m0 := M0.out
        rw [HWal.out] at m0
        have o0 := O0.out
        rw [HWal.out] at o0
        go_wp2_with fail
        rw [← HWal.out]
        refine (abo2_c (w := Wal) (ZWal.out) R0_.out R3_.out HAB1_.out.1 HAB1_.out.2).mono ?_
        rintro e w6 ⟨v, rfl, rr, x⟩
        clear m0 o0
        replace R0_ := Lib.hid (R0_.out.ext x)
        replace R1_ := Lib.hid (R1_.out.ext x)
        replace R2_ := Lib.hid (R2_.out.ext x)
        replace R3_ := Lib.hid (R3_.out.ext x)
        replace R4_ := Lib.hid (R4_.out.ext x)
        replace R5_ := Lib.hid (R5_.out.ext x)
        replace M0 := Lib.hid (x.cell M0.out)
        replace M1 := Lib.hid (x.cell M1.out)
        replace M2 := Lib.hid (x.cell M2.out)
        replace O0 := Lib.hid (x.cell O0.out)
        replace O1 := Lib.hid (x.cell O1.out)
        replace O2 := Lib.hid (x.cell O2.out)
        replace Rab := Lib.hid (Rab.out.ext x)
        replace Cab := Lib.hid (x.cell Cab.out)
        replace Rbc := Lib.hid (Rbc.out.ext x)
        replace Cbc := Lib.hid (x.cell Cbc.out)
        replace Roo := Lib.hid (Roo.out.ext x)
        replace Coo := Lib.hid (x.cell Coo.out)
        replace Rtt := Lib.hid (Rtt.out.ext x)
        replace Ctt := Lib.hid (x.cell Ctt.out)
        replace Ral := Lib.hid (Ral.out.ext x)
        replace Cal := Lib.hid (x.cell Cal.out)
        have X_11 := Lib.hid (X_10.out.trans x)
        clear X_10
        clear x
        obtain ⟨aup, nup, hv, j1, j2, j3, j4⟩ := rr.open
        subst hv
        have Rup := Lib.hid rr
        clear rr j1 j2 j3 j4
        obtain ⟨Wup, hW⟩ : ∃ Wup, Wup = w6.alloc (.cells #[.slice aup nup UP.length] 24) := ⟨_, rfl⟩
        have xa : Ext w6 Wup := by rw [hW]; exact (Ext.refl w6).alloc _
        have hba : Wup.heap[w6.heap.size]? = some (Obj.cells #[.slice aup nup UP.length] 24 (0, 0)) := by rw [hW]; exact blk_at rfl
        replace R0_ := Lib.hid (R0_.out.ext xa)
        replace R1_ := Lib.hid (R1_.out.ext xa)
        replace R2_ := Lib.hid (R2_.out.ext xa)
        replace R3_ := Lib.hid (R3_.out.ext xa)
        replace R4_ := Lib.hid (R4_.out.ext xa)
        replace R5_ := Lib.hid (R5_.out.ext xa)
        replace M0 := Lib.hid (xa.cell M0.out)
        replace M1 := Lib.hid (xa.cell M1.out)
        replace M2 := Lib.hid (xa.cell M2.out)
        replace O0 := Lib.hid (xa.cell O0.out)
        replace O1 := Lib.hid (xa.cell O1.out)
        replace O2 := Lib.hid (xa.cell O2.out)
        replace Rab := Lib.hid (Rab.out.ext xa)
        replace Cab := Lib.hid (xa.cell Cab.out)
        replace Rbc := Lib.hid (Rbc.out.ext xa)
        replace Cbc := Lib.hid (xa.cell Cbc.out)
        replace Roo := Lib.hid (Roo.out.ext xa)
        replace Coo := Lib.hid (xa.cell Coo.out)
        replace Rtt := Lib.hid (Rtt.out.ext xa)
        replace Ctt := Lib.hid (xa.cell Ctt.out)
        replace Ral := Lib.hid (Ral.out.ext xa)
        replace Cal := Lib.hid (xa.cell Cal.out)
        replace Rup := Lib.hid (Rup.out.ext xa)
        have X_12 := Lib.hid (X_11.out.trans xa)
        clear X_11
        have Cup : Hid (Wup.cell? ⟨w6.heap.size, 0, none⟩ = some (.slice aup nup UP.length)) := Lib.hid (by simp [World.cell?, hba])
        have ZWup : Hid (w6.heap.size + 1 = Wup.heap.size) := Lib.hid (by rw [hW]; simp)
        have HWup := Lib.hid hW
        clear hW xa hba
        have m1 := M1.out
        rw [HWup.out] at m1
        have o1 := O1.out
        rw [HWup.out] at o1
        go_wp2_with fail
        rw [← HWup.out]
        refine (abo2_c (w := Wup) (ZWup.out) R1_.out R4_.out HAB2_.out.1 HAB2_.out.2).mono ?_
        rintro e w7 ⟨v, rfl, rr, x⟩
        clear m1 o1
        replace R0_ := Lib.hid (R0_.out.ext x)
        replace R1_ := Lib.hid (R1_.out.ext x)
        replace R2_ := Lib.hid (R2_.out.ext x)
        replace R3_ := Lib.hid (R3_.out.ext x)
        replace R4_ := Lib.hid (R4_.out.ext x)
        replace R5_ := Lib.hid (R5_.out.ext x)
        replace M0 := Lib.hid (x.cell M0.out)
        replace M1 := Lib.hid (x.cell M1.out)
        replace M2 := Lib.hid (x.cell M2.out)
        replace O0 := Lib.hid (x.cell O0.out)
        replace O1 := Lib.hid (x.cell O1.out)
        replace O2 := Lib.hid (x.cell O2.out)
        replace Rab := Lib.hid (Rab.out.ext x)
        replace Cab := Lib.hid (x.cell Cab.out)
        replace Rbc := Lib.hid (Rbc.out.ext x)
        replace Cbc := Lib.hid (x.cell Cbc.out)
        replace Roo := Lib.hid (Roo.out.ext x)
        replace Coo := Lib.hid (x.cell Coo.out)
        replace Rtt := Lib.hid (Rtt.out.ext x)
        replace Ctt := Lib.hid (x.cell Ctt.out)
        replace Ral := Lib.hid (Ral.out.ext x)
        replace Cal := Lib.hid (x.cell Cal.out)
        replace Rup := Lib.hid (Rup.out.ext x)
        replace Cup := Lib.hid (x.cell Cup.out)
        have X_13 := Lib.hid (X_12.out.trans x)
        clear X_12
        clear x
        obtain ⟨adn, ndn, hv, j1, j2, j3, j4⟩ := rr.open
        subst hv
        have Rdn := Lib.hid rr
        clear rr j1 j2 j3 j4
        obtain ⟨Wdn, hW⟩ : ∃ Wdn, Wdn = w7.alloc (.cells #[.slice adn ndn DN.length] 24) := ⟨_, rfl⟩
        have xa : Ext w7 Wdn := by rw [hW]; exact (Ext.refl w7).alloc _
        have hba : Wdn.heap[w7.heap.size]? = some (Obj.cells #[.slice adn ndn DN.length] 24 (0, 0)) := by rw [hW]; exact blk_at rfl
        replace R0_ := Lib.hid (R0_.out.ext xa)
        replace R1_ := Lib.hid (R1_.out.ext xa)
        replace R2_ := Lib.hid (R2_.out.ext xa)
        replace R3_ := Lib.hid (R3_.out.ext xa)
        replace R4_ := Lib.hid (R4_.out.ext xa)
        replace R5_ := Lib.hid (R5_.out.ext xa)
        replace M0 := Lib.hid (xa.cell M0.out)
        replace M1 := Lib.hid (xa.cell M1.out)
        replace M2 := Lib.hid (xa.cell M2.out)
        replace O0 := Lib.hid (xa.cell O0.out)
        replace O1 := Lib.hid (xa.cell O1.out)
        replace O2 := Lib.hid (xa.cell O2.out)
        replace Rab := Lib.hid (Rab.out.ext xa)
        replace Cab := Lib.hid (xa.cell Cab.out)
        replace Rbc := Lib.hid (Rbc.out.ext xa)
        replace Cbc := Lib.hid (xa.cell Cbc.out)
        replace Roo := Lib.hid (Roo.out.ext xa)
        replace Coo := Lib.hid (xa.cell Coo.out)
        replace Rtt := Lib.hid (Rtt.out.ext xa)
        replace Ctt := Lib.hid (xa.cell Ctt.out)
        replace Ral := Lib.hid (Ral.out.ext xa)
        replace Cal := Lib.hid (xa.cell Cal.out)
        replace Rup := Lib.hid (Rup.out.ext xa)
        replace Cup := Lib.hid (xa.cell Cup.out)
        replace Rdn := Lib.hid (Rdn.out.ext xa)
        have X_14 := Lib.hid (X_13.out.trans xa)
        clear X_13
        have Cdn : Hid (Wdn.cell? ⟨w7.heap.size, 0, none⟩ = some (.slice adn ndn DN.length)) := Lib.hid (by simp [World.cell?, hba])
        have ZWdn : Hid (w7.heap.size + 1 = Wdn.heap.size) := Lib.hid (by rw [hW]; simp)
        have HWdn := Lib.hid hW
        clear hW xa hba
        have m0 := M0.out
        rw [HWdn.out] at m0
        have m1 := M1.out
        rw [HWdn.out] at m1
        go_wp2_with fail
        rw [← HWdn.out]
        refine (bes2_c (w := Wdn) (ZWdn.out) R0_.out R1_.out BL_.out BT_.out HE1_.out HA1_.out).mono ?_
        rintro e w8 ⟨v, rfl, rr, x⟩
        clear m0 m1
        replace R0_ := Lib.hid (R0_.out.ext x)
        replace R1_ := Lib.hid (R1_.out.ext x)
        replace R2_ := Lib.hid (R2_.out.ext x)
        replace R3_ := Lib.hid (R3_.out.ext x)
        replace R4_ := Lib.hid (R4_.out.ext x)
        replace R5_ := Lib.hid (R5_.out.ext x)
        replace M0 := Lib.hid (x.cell M0.out)
        replace M1 := Lib.hid (x.cell M1.out)
        replace M2 := Lib.hid (x.cell M2.out)
        replace O0 := Lib.hid (x.cell O0.out)
        replace O1 := Lib.hid (x.cell O1.out)
        replace O2 := Lib.hid (x.cell O2.out)
        replace Rab := Lib.hid (Rab.out.ext x)
        replace Cab := Lib.hid (x.cell Cab.out)
        replace Rbc := Lib.hid (Rbc.out.ext x)
        replace Cbc := Lib.hid (x.cell Cbc.out)
        replace Roo := Lib.hid (Roo.out.ext x)
        replace Coo := Lib.hid (x.cell Coo.out)
        replace Rtt := Lib.hid (Rtt.out.ext x)
        replace Ctt := Lib.hid (x.cell Ctt.out)
        replace Ral := Lib.hid (Ral.out.ext x)
        replace Cal := Lib.hid (x.cell Cal.out)
        replace Rup := Lib.hid (Rup.out.ext x)
        replace Cup := Lib.hid (x.cell Cup.out)
        replace Rdn := Lib.hid (Rdn.out.ext x)
        replace Cdn := Lib.hid (x.cell Cdn.out)
        have X_15 := Lib.hid (X_14.out.trans x)
        clear X_14
        clear x
        obtain ⟨alf, nlf, hv, j1, j2, j3, j4⟩ := rr.open
        subst hv
        have Rlf := Lib.hid rr
        clear rr j1 j2 j3 j4
        obtain ⟨Wlf, hW⟩ : ∃ Wlf, Wlf = w8.alloc (.cells #[.slice alf nlf A1.length] 24) := ⟨_, rfl⟩
        have xa : Ext w8 Wlf := by rw [hW]; exact (Ext.refl w8).alloc _
        have hba : Wlf.heap[w8.heap.size]? = some (Obj.cells #[.slice alf nlf A1.length] 24 (0, 0)) := by rw [hW]; exact blk_at rfl
        replace R0_ := Lib.hid (R0_.out.ext xa)
        replace R1_ := Lib.hid (R1_.out.ext xa)
        replace R2_ := Lib.hid (R2_.out.ext xa)
        replace R3_ := Lib.hid (R3_.out.ext xa)
        replace R4_ := Lib.hid (R4_.out.ext xa)
        replace R5_ := Lib.hid (R5_.out.ext xa)
        replace M0 := Lib.hid (xa.cell M0.out)
        replace M1 := Lib.hid (xa.cell M1.out)
        replace M2 := Lib.hid (xa.cell M2.out)
        replace O0 := Lib.hid (xa.cell O0.out)
        replace O1 := Lib.hid (xa.cell O1.out)
        replace O2 := Lib.hid (xa.cell O2.out)
        replace Rab := Lib.hid (Rab.out.ext xa)
        replace Cab := Lib.hid (xa.cell Cab.out)
        replace Rbc := Lib.hid (Rbc.out.ext xa)
        replace Cbc := Lib.hid (xa.cell Cbc.out)
        replace Roo := Lib.hid (Roo.out.ext xa)
        replace Coo := Lib.hid (xa.cell Coo.out)
        replace Rtt := Lib.hid (Rtt.out.ext xa)
        replace Ctt := Lib.hid (xa.cell Ctt.out)
        replace Ral := Lib.hid (Ral.out.ext xa)
        replace Cal := Lib.hid (xa.cell Cal.out)
        replace Rup := Lib.hid (Rup.out.ext xa)
        replace Cup := Lib.hid (xa.cell Cup.out)
        replace Rdn := Lib.hid (Rdn.out.ext xa)
        replace Cdn := Lib.hid (xa.cell Cdn.out)
        replace Rlf := Lib.hid (Rlf.out.ext xa)
        have X_16 := Lib.hid (X_15.out.trans xa)
        clear X_15
        have Clf : Hid (Wlf.cell? ⟨w8.heap.size, 0, none⟩ = some (.slice alf nlf A1.length)) := Lib.hid (by simp [World.cell?, hba])
        have ZWlf : Hid (w8.heap.size + 1 = Wlf.heap.size) := Lib.hid (by rw [hW]; simp)
        have HWlf := Lib.hid hW
        clear hW xa hba
        have o0 := O0.out
        rw [HWlf.out] at o0
        have o1 := O1.out
        rw [HWlf.out] at o1
        go_wp2_with fail
        rw [← HWlf.out]
        refine (bes2_c (w := Wlf) (ZWlf.out) R3_.out R4_.out BL2_.out BT2_.out HE4_.out HA4_.out).mono ?_
        rintro e w9 ⟨v, rfl, rr, x⟩
        clear o0 o1
        replace R0_ := Lib.hid (R0_.out.ext x)
        replace R1_ := Lib.hid (R1_.out.ext x)
        replace R2_ := Lib.hid (R2_.out.ext x)
        replace R3_ := Lib.hid (R3_.out.ext x)
        replace R4_ := Lib.hid (R4_.out.ext x)
        replace R5_ := Lib.hid (R5_.out.ext x)
        replace M0 := Lib.hid (x.cell M0.out)
        replace M1 := Lib.hid (x.cell M1.out)
        replace M2 := Lib.hid (x.cell M2.out)
        replace O0 := Lib.hid (x.cell O0.out)
        replace O1 := Lib.hid (x.cell O1.out)
        replace O2 := Lib.hid (x.cell O2.out)
        replace Rab := Lib.hid (Rab.out.ext x)
        replace Cab := Lib.hid (x.cell Cab.out)
        replace Rbc := Lib.hid (Rbc.out.ext x)
        replace Cbc := Lib.hid (x.cell Cbc.out)
        replace Roo := Lib.hid (Roo.out.ext x)
        replace Coo := Lib.hid (x.cell Coo.out)
        replace Rtt := Lib.hid (Rtt.out.ext x)
        replace Ctt := Lib.hid (x.cell Ctt.out)
        replace Ral := Lib.hid (Ral.out.ext x)
        replace Cal := Lib.hid (x.cell Cal.out)
        replace Rup := Lib.hid (Rup.out.ext x)
        replace Cup := Lib.hid (x.cell Cup.out)
        replace Rdn := Lib.hid (Rdn.out.ext x)
        replace Cdn := Lib.hid (x.cell Cdn.out)
        replace Rlf := Lib.hid (Rlf.out.ext x)
        replace Clf := Lib.hid (x.cell Clf.out)
        have X_17 := Lib.hid (X_16.out.trans x)
        clear X_16
        clear x
        obtain ⟨arg, nrg, hv, j1, j2, j3, j4⟩ := rr.open
        subst hv
        have Rrg := Lib.hid rr
        clear rr j1 j2 j3 j4
        obtain ⟨Wrg, hW⟩ : ∃ Wrg, Wrg = w9.alloc (.cells #[.slice arg nrg A4.length] 24) := ⟨_, rfl⟩
        have xa : Ext w9 Wrg := by rw [hW]; exact (Ext.refl w9).alloc _
        have hba : Wrg.heap[w9.heap.size]? = some (Obj.cells #[.slice arg nrg A4.length] 24 (0, 0)) := by rw [hW]; exact blk_at rfl
        replace R0_ := Lib.hid (R0_.out.ext xa)
        replace R1_ := Lib.hid (R1_.out.ext xa)
        replace R2_ := Lib.hid (R2_.out.ext xa)
        replace R3_ := Lib.hid (R3_.out.ext xa)
        replace R4_ := Lib.hid (R4_.out.ext xa)
        replace R5_ := Lib.hid (R5_.out.ext xa)
        replace M0 := Lib.hid (xa.cell M0.out)
        replace M1 := Lib.hid (xa.cell M1.out)
        replace M2 := Lib.hid (xa.cell M2.out)
        replace O0 := Lib.hid (xa.cell O0.out)
        replace O1 := Lib.hid (xa.cell O1.out)
        replace O2 := Lib.hid (xa.cell O2.out)
        replace Rab := Lib.hid (Rab.out.ext xa)
        replace Cab := Lib.hid (xa.cell Cab.out)
        replace Rbc := Lib.hid (Rbc.out.ext xa)
        replace Cbc := Lib.hid (xa.cell Cbc.out)
        replace Roo := Lib.hid (Roo.out.ext xa)
        replace Coo := Lib.hid (xa.cell Coo.out)
        replace Rtt := Lib.hid (Rtt.out.ext xa)
        replace Ctt := Lib.hid (xa.cell Ctt.out)
        replace Ral := Lib.hid (Ral.out.ext xa)
        replace Cal := Lib.hid (xa.cell Cal.out)
        replace Rup := Lib.hid (Rup.out.ext xa)
        replace Cup := Lib.hid (xa.cell Cup.out)
        replace Rdn := Lib.hid (Rdn.out.ext xa)
        replace Cdn := Lib.hid (xa.cell Cdn.out)
        replace Rlf := Lib.hid (Rlf.out.ext xa)
        replace Clf := Lib.hid (xa.cell Clf.out)
        replace Rrg := Lib.hid (Rrg.out.ext xa)
        have X_18 := Lib.hid (X_17.out.trans xa)
        clear X_17
        have Crg : Hid (Wrg.cell? ⟨w9.heap.size, 0, none⟩ = some (.slice arg nrg A4.length)) := Lib.hid (by simp [World.cell?, hba])
        have ZWrg : Hid (w9.heap.size + 1 = Wrg.heap.size) := Lib.hid (by rw [hW]; simp)
        have HWrg := Lib.hid hW
        clear hW xa hba
        have cup := Cup.out
        rw [HWrg.out] at cup
        have cdn := Cdn.out
        rw [HWrg.out] at cdn
        go_wp2_with fail
        rw [← HWrg.out]
        refine (bes2_c (w := Wrg) (ZWrg.out) Rup.out Rdn.out BU_.out BD_.out HQE_.out HQ_.out).mono ?_
        rintro e w10 ⟨v, rfl, rr, x⟩
        clear cup cdn
        replace R0_ := Lib.hid (R0_.out.ext x)
        replace R1_ := Lib.hid (R1_.out.ext x)
        replace R2_ := Lib.hid (R2_.out.ext x)
        replace R3_ := Lib.hid (R3_.out.ext x)
        replace R4_ := Lib.hid (R4_.out.ext x)
        replace R5_ := Lib.hid (R5_.out.ext x)
        replace M0 := Lib.hid (x.cell M0.out)
        replace M1 := Lib.hid (x.cell M1.out)
        replace M2 := Lib.hid (x.cell M2.out)
        replace O0 := Lib.hid (x.cell O0.out)
        replace O1 := Lib.hid (x.cell O1.out)
        replace O2 := Lib.hid (x.cell O2.out)
        replace Rab := Lib.hid (Rab.out.ext x)
        replace Cab := Lib.hid (x.cell Cab.out)
        replace Rbc := Lib.hid (Rbc.out.ext x)
        replace Cbc := Lib.hid (x.cell Cbc.out)
        replace Roo := Lib.hid (Roo.out.ext x)
        replace Coo := Lib.hid (x.cell Coo.out)
        replace Rtt := Lib.hid (Rtt.out.ext x)
        replace Ctt := Lib.hid (x.cell Ctt.out)
        replace Ral := Lib.hid (Ral.out.ext x)
        replace Cal := Lib.hid (x.cell Cal.out)
        replace Rup := Lib.hid (Rup.out.ext x)
        replace Cup := Lib.hid (x.cell Cup.out)
        replace Rdn := Lib.hid (Rdn.out.ext x)
        replace Cdn := Lib.hid (x.cell Cdn.out)
        replace Rlf := Lib.hid (Rlf.out.ext x)
        replace Clf := Lib.hid (x.cell Clf.out)
        replace Rrg := Lib.hid (Rrg.out.ext x)
        replace Crg := Lib.hid (x.cell Crg.out)
        have X_19 := Lib.hid (X_18.out.trans x)
        clear X_18
        clear x
        obtain ⟨ap, np, hv, j1, j2, j3, j4⟩ := rr.open
        subst hv
        have Rp := Lib.hid rr
        clear rr j1 j2 j3 j4
        obtain ⟨Wp, hW⟩ : ∃ Wp, Wp = w10.alloc (.cells #[.slice ap np Q.length] 24) := ⟨_, rfl⟩
        have xa : Ext w10 Wp := by rw [hW]; exact (Ext.refl w10).alloc _
        have hba : Wp.heap[w10.heap.size]? = some (Obj.cells #[.slice ap np Q.length] 24 (0, 0)) := by rw [hW]; exact blk_at rfl
        replace R0_ := Lib.hid (R0_.out.ext xa)
        replace R1_ := Lib.hid (R1_.out.ext xa)
        replace R2_ := Lib.hid (R2_.out.ext xa)
        replace R3_ := Lib.hid (R3_.out.ext xa)
        replace R4_ := Lib.hid (R4_.out.ext xa)
        replace R5_ := Lib.hid (R5_.out.ext xa)
        replace M0 := Lib.hid (xa.cell M0.out)
        replace M1 := Lib.hid (xa.cell M1.out)
        replace M2 := Lib.hid (xa.cell M2.out)
        replace O0 := Lib.hid (xa.cell O0.out)
        replace O1 := Lib.hid (xa.cell O1.out)
        replace O2 := Lib.hid (xa.cell O2.out)
        replace Rab := Lib.hid (Rab.out.ext xa)
        replace Cab := Lib.hid (xa.cell Cab.out)
        replace Rbc := Lib.hid (Rbc.out.ext xa)
        replace Cbc := Lib.hid (xa.cell Cbc.out)
        replace Roo := Lib.hid (Roo.out.ext xa)
        replace Coo := Lib.hid (xa.cell Coo.out)
        replace Rtt := Lib.hid (Rtt.out.ext xa)
        replace Ctt := Lib.hid (xa.cell Ctt.out)
        replace Ral := Lib.hid (Ral.out.ext xa)
        replace Cal := Lib.hid (xa.cell Cal.out)
        replace Rup := Lib.hid (Rup.out.ext xa)
        replace Cup := Lib.hid (xa.cell Cup.out)
        replace Rdn := Lib.hid (Rdn.out.ext xa)
        replace Cdn := Lib.hid (xa.cell Cdn.out)
        replace Rlf := Lib.hid (Rlf.out.ext xa)
        replace Clf := Lib.hid (xa.cell Clf.out)
        replace Rrg := Lib.hid (Rrg.out.ext xa)
        replace Crg := Lib.hid (xa.cell Crg.out)
        replace Rp := Lib.hid (Rp.out.ext xa)
        have X_20 := Lib.hid (X_19.out.trans xa)
        clear X_19
        have Cp : Hid (Wp.cell? ⟨w10.heap.size, 0, none⟩ = some (.slice ap np Q.length)) := Lib.hid (by simp [World.cell?, hba])
        have ZWp : Hid (w10.heap.size + 1 = Wp.heap.size) := Lib.hid (by rw [hW]; simp)
        have HWp := Lib.hid hW
        clear hW xa hba
        by_cases hz4 : e4 = 0
        · have hq := HEX_.out
          rw [if_neg (by omega)] at hq
          subst hz4
          subst hq
          obtain ⟨hr0, hq0⟩ := HEX2_.out (by first | rfl | trivial) (by first | rfl | trivial)
          subst hr0
          subst hq0
          have clf := Clf.out
          rw [HWp.out] at clf
          have crg := Crg.out
          rw [HWp.out] at crg
          go_wp2_with fail
          rw [← HWp.out]
          refine (abo2_c (w := Wp) (ZWp.out) Rlf.out Rrg.out HRE_.out HQ2_.out).mono ?_
          rintro e w11 ⟨v, rfl, rr, x⟩
          clear clf crg
          replace R0_ := Lib.hid (R0_.out.ext x)
          replace R1_ := Lib.hid (R1_.out.ext x)
          replace R2_ := Lib.hid (R2_.out.ext x)
          replace R3_ := Lib.hid (R3_.out.ext x)
          replace R4_ := Lib.hid (R4_.out.ext x)
          replace R5_ := Lib.hid (R5_.out.ext x)
          replace M0 := Lib.hid (x.cell M0.out)
          replace M1 := Lib.hid (x.cell M1.out)
          replace M2 := Lib.hid (x.cell M2.out)
          replace O0 := Lib.hid (x.cell O0.out)
          replace O1 := Lib.hid (x.cell O1.out)
          replace O2 := Lib.hid (x.cell O2.out)
          replace Rab := Lib.hid (Rab.out.ext x)
          replace Cab := Lib.hid (x.cell Cab.out)
          replace Rbc := Lib.hid (Rbc.out.ext x)
          replace Cbc := Lib.hid (x.cell Cbc.out)
          replace Roo := Lib.hid (Roo.out.ext x)
          replace Coo := Lib.hid (x.cell Coo.out)
          replace Rtt := Lib.hid (Rtt.out.ext x)
          replace Ctt := Lib.hid (x.cell Ctt.out)
          replace Ral := Lib.hid (Ral.out.ext x)
          replace Cal := Lib.hid (x.cell Cal.out)
          replace Rup := Lib.hid (Rup.out.ext x)
          replace Cup := Lib.hid (x.cell Cup.out)
          replace Rdn := Lib.hid (Rdn.out.ext x)
          replace Cdn := Lib.hid (x.cell Cdn.out)
          replace Rlf := Lib.hid (Rlf.out.ext x)
          replace Clf := Lib.hid (x.cell Clf.out)
          replace Rrg := Lib.hid (Rrg.out.ext x)
          replace Crg := Lib.hid (x.cell Crg.out)
          replace Rp := Lib.hid (Rp.out.ext x)
          replace Cp := Lib.hid (x.cell Cp.out)
          have X_21 := Lib.hid (X_20.out.trans x)
          clear X_20
          clear x
          obtain ⟨ar, nr, hv, j1, j2, j3, j4⟩ := rr.open
          subst hv
          have Rr := Lib.hid rr
          clear rr j1 j2 j3 j4
          obtain ⟨Wr, hW⟩ : ∃ Wr, Wr = w11.alloc (.cells #[.slice ar nr Q2.length] 24) := ⟨_, rfl⟩
          have xa : Ext w11 Wr := by rw [hW]; exact (Ext.refl w11).alloc _
          have hba : Wr.heap[w11.heap.size]? = some (Obj.cells #[.slice ar nr Q2.length] 24 (0, 0)) := by rw [hW]; exact blk_at rfl
          replace R0_ := Lib.hid (R0_.out.ext xa)
          replace R1_ := Lib.hid (R1_.out.ext xa)
          replace R2_ := Lib.hid (R2_.out.ext xa)
          replace R3_ := Lib.hid (R3_.out.ext xa)
          replace R4_ := Lib.hid (R4_.out.ext xa)
          replace R5_ := Lib.hid (R5_.out.ext xa)
          replace M0 := Lib.hid (xa.cell M0.out)
          replace M1 := Lib.hid (xa.cell M1.out)
          replace M2 := Lib.hid (xa.cell M2.out)
          replace O0 := Lib.hid (xa.cell O0.out)
          replace O1 := Lib.hid (xa.cell O1.out)
          replace O2 := Lib.hid (xa.cell O2.out)
          replace Rab := Lib.hid (Rab.out.ext xa)
          replace Cab := Lib.hid (xa.cell Cab.out)
          replace Rbc := Lib.hid (Rbc.out.ext xa)
          replace Cbc := Lib.hid (xa.cell Cbc.out)
          replace Roo := Lib.hid (Roo.out.ext xa)
          replace Coo := Lib.hid (xa.cell Coo.out)
          replace Rtt := Lib.hid (Rtt.out.ext xa)
          replace Ctt := Lib.hid (xa.cell Ctt.out)
          replace Ral := Lib.hid (Ral.out.ext xa)
          replace Cal := Lib.hid (xa.cell Cal.out)
          replace Rup := Lib.hid (Rup.out.ext xa)
          replace Cup := Lib.hid (xa.cell Cup.out)
          replace Rdn := Lib.hid (Rdn.out.ext xa)
          replace Cdn := Lib.hid (xa.cell Cdn.out)
          replace Rlf := Lib.hid (Rlf.out.ext xa)
          replace Clf := Lib.hid (xa.cell Clf.out)
          replace Rrg := Lib.hid (Rrg.out.ext xa)
          replace Crg := Lib.hid (xa.cell Crg.out)
          replace Rp := Lib.hid (Rp.out.ext xa)
          replace Cp := Lib.hid (xa.cell Cp.out)
          replace Rr := Lib.hid (Rr.out.ext xa)
          have X_22 := Lib.hid (X_21.out.trans xa)
          clear X_21
          have Cr : Hid (Wr.cell? ⟨w11.heap.size, 0, none⟩ = some (.slice ar nr Q2.length)) := Lib.hid (by simp [World.cell?, hba])
          have ZWr : Hid (w11.heap.size + 1 = Wr.heap.size) := Lib.hid (by rw [hW]; simp)
          have HWr := Lib.hid hW
          clear hW xa hba
          have cp := Cp.out
          rw [HWr.out] at cp
          have cr := Cr.out
          rw [HWr.out] at cr
          go_wp2_with fail
          rw [← HWr.out]
          refine (df_c _ _ _ _ _ _ Rp.out Rr.out).mono ?_
          rintro e w12 ⟨rfl, x⟩
          clear cp cr
          replace R0_ := Lib.hid (R0_.out.ext x)
          replace R1_ := Lib.hid (R1_.out.ext x)
          replace R2_ := Lib.hid (R2_.out.ext x)
          replace R3_ := Lib.hid (R3_.out.ext x)
          replace R4_ := Lib.hid (R4_.out.ext x)
          replace R5_ := Lib.hid (R5_.out.ext x)
          replace M0 := Lib.hid (x.cell M0.out)
          replace M1 := Lib.hid (x.cell M1.out)
          replace M2 := Lib.hid (x.cell M2.out)
          replace O0 := Lib.hid (x.cell O0.out)
          replace O1 := Lib.hid (x.cell O1.out)
          replace O2 := Lib.hid (x.cell O2.out)
          replace Rab := Lib.hid (Rab.out.ext x)
          replace Cab := Lib.hid (x.cell Cab.out)
          replace Rbc := Lib.hid (Rbc.out.ext x)
          replace Cbc := Lib.hid (x.cell Cbc.out)
          replace Roo := Lib.hid (Roo.out.ext x)
          replace Coo := Lib.hid (x.cell Coo.out)
          replace Rtt := Lib.hid (Rtt.out.ext x)
          replace Ctt := Lib.hid (x.cell Ctt.out)
          replace Ral := Lib.hid (Ral.out.ext x)
          replace Cal := Lib.hid (x.cell Cal.out)
          replace Rup := Lib.hid (Rup.out.ext x)
          replace Cup := Lib.hid (x.cell Cup.out)
          replace Rdn := Lib.hid (Rdn.out.ext x)
          replace Cdn := Lib.hid (x.cell Cdn.out)
          replace Rlf := Lib.hid (Rlf.out.ext x)
          replace Clf := Lib.hid (x.cell Clf.out)
          replace Rrg := Lib.hid (Rrg.out.ext x)
          replace Crg := Lib.hid (x.cell Crg.out)
          replace Rp := Lib.hid (Rp.out.ext x)
          replace Cp := Lib.hid (x.cell Cp.out)
          replace Rr := Lib.hid (Rr.out.ext x)
          replace Cr := Lib.hid (x.cell Cr.out)
          have X_23 := Lib.hid (X_22.out.trans x)
          clear X_22
          clear x
          go_wp2_with fail
          refine (lives15_calls _).mono ?_
          rintro e w13 ⟨rfl, x⟩
          replace R0_ := Lib.hid (R0_.out.ext x)
          replace R1_ := Lib.hid (R1_.out.ext x)
          replace R2_ := Lib.hid (R2_.out.ext x)
          replace R3_ := Lib.hid (R3_.out.ext x)
          replace R4_ := Lib.hid (R4_.out.ext x)
          replace R5_ := Lib.hid (R5_.out.ext x)
          replace M0 := Lib.hid (x.cell M0.out)
          replace M1 := Lib.hid (x.cell M1.out)
          replace M2 := Lib.hid (x.cell M2.out)
          replace O0 := Lib.hid (x.cell O0.out)
          replace O1 := Lib.hid (x.cell O1.out)
          replace O2 := Lib.hid (x.cell O2.out)
          replace Rab := Lib.hid (Rab.out.ext x)
          replace Cab := Lib.hid (x.cell Cab.out)
          replace Rbc := Lib.hid (Rbc.out.ext x)
          replace Cbc := Lib.hid (x.cell Cbc.out)
          replace Roo := Lib.hid (Roo.out.ext x)
          replace Coo := Lib.hid (x.cell Coo.out)
          replace Rtt := Lib.hid (Rtt.out.ext x)
          replace Ctt := Lib.hid (x.cell Ctt.out)
          replace Ral := Lib.hid (Ral.out.ext x)
          replace Cal := Lib.hid (x.cell Cal.out)
          replace Rup := Lib.hid (Rup.out.ext x)
          replace Cup := Lib.hid (x.cell Cup.out)
          replace Rdn := Lib.hid (Rdn.out.ext x)
          replace Cdn := Lib.hid (x.cell Cdn.out)
          replace Rlf := Lib.hid (Rlf.out.ext x)
          replace Clf := Lib.hid (x.cell Clf.out)
          replace Rrg := Lib.hid (Rrg.out.ext x)
          replace Crg := Lib.hid (x.cell Crg.out)
          replace Rp := Lib.hid (Rp.out.ext x)
          replace Cp := Lib.hid (x.cell Cp.out)
          replace Rr := Lib.hid (Rr.out.ext x)
          replace Cr := Lib.hid (x.cell Cr.out)
          have X_24 := Lib.hid (X_23.out.trans x)
          clear X_23
          clear x
          go_wp2
          go_ret
          exact ⟨rfl, X_24.out⟩
        · have hq := HEX_.out
          rw [if_pos (.inr hz4)] at hq
          subst hq
          have t4 : (e4 != 0) = true := by simpa using hz4
          have t5 : (e4 == 0) = false := by simpa using hz4
          clear hz4
          go_wp2_with fail
          rw [← HWp.out]
          refine (lives15_calls _).mono ?_
          rintro e w13 ⟨rfl, x⟩
          replace R0_ := Lib.hid (R0_.out.ext x)
          replace R1_ := Lib.hid (R1_.out.ext x)
          replace R2_ := Lib.hid (R2_.out.ext x)
          replace R3_ := Lib.hid (R3_.out.ext x)
          replace R4_ := Lib.hid (R4_.out.ext x)
          replace R5_ := Lib.hid (R5_.out.ext x)
          replace M0 := Lib.hid (x.cell M0.out)
          replace M1 := Lib.hid (x.cell M1.out)
          replace M2 := Lib.hid (x.cell M2.out)
          replace O0 := Lib.hid (x.cell O0.out)
          replace O1 := Lib.hid (x.cell O1.out)
          replace O2 := Lib.hid (x.cell O2.out)
          replace Rab := Lib.hid (Rab.out.ext x)
          replace Cab := Lib.hid (x.cell Cab.out)
          replace Rbc := Lib.hid (Rbc.out.ext x)
          replace Cbc := Lib.hid (x.cell Cbc.out)
          replace Roo := Lib.hid (Roo.out.ext x)
          replace Coo := Lib.hid (x.cell Coo.out)
          replace Rtt := Lib.hid (Rtt.out.ext x)
          replace Ctt := Lib.hid (x.cell Ctt.out)
          replace Ral := Lib.hid (Ral.out.ext x)
          replace Cal := Lib.hid (x.cell Cal.out)
          replace Rup := Lib.hid (Rup.out.ext x)
          replace Cup := Lib.hid (x.cell Cup.out)
          replace Rdn := Lib.hid (Rdn.out.ext x)
          replace Cdn := Lib.hid (x.cell Cdn.out)
          replace Rlf := Lib.hid (Rlf.out.ext x)
          replace Clf := Lib.hid (x.cell Clf.out)
          replace Rrg := Lib.hid (Rrg.out.ext x)
          replace Crg := Lib.hid (x.cell Crg.out)
          replace Rp := Lib.hid (Rp.out.ext x)
          replace Cp := Lib.hid (x.cell Cp.out)
          have X_21 := Lib.hid (X_20.out.trans x)
          clear X_20
          clear x
          go_wp2
          go_ret
          exact ⟨rfl, X_21.out⟩
    · have t0 : (e1 == 0) = false := by simpa using hz1
      have HZ1 := Lib.hid hz1
      clear hz1
      have m0 := M0.out
      rw [HWal.out] at m0
      have o0 := O0.out
      rw [HWal.out] at o0
      go_wp2_with fail
      rw [← HWal.out]
      refine (abo2_c (w := Wal) (ZWal.out) R0_.out R3_.out HAB1_.out.1 HAB1_.out.2).mono ?_
      rintro e w6 ⟨v, rfl, rr, x⟩
      clear m0 o0
      replace R0_ := Lib.hid (R0_.out.ext x)
      replace R1_ := Lib.hid (R1_.out.ext x)
      replace R2_ := Lib.hid (R2_.out.ext x)
      replace R3_ := Lib.hid (R3_.out.ext x)
      replace R4_ := Lib.hid (R4_.out.ext x)
      replace R5_ := Lib.hid (R5_.out.ext x)
      replace M0 := Lib.hid (x.cell M0.out)
      replace M1 := Lib.hid (x.cell M1.out)
      replace M2 := Lib.hid (x.cell M2.out)
      replace O0 := Lib.hid (x.cell O0.out)
      replace O1 := Lib.hid (x.cell O1.out)
      replace O2 := Lib.hid (x.cell O2.out)
      replace Rab := Lib.hid (Rab.out.ext x)
      replace Cab := Lib.hid (x.cell Cab.out)
      replace Rbc := Lib.hid (Rbc.out.ext x)
      replace Cbc := Lib.hid (x.cell Cbc.out)
      replace Roo := Lib.hid (Roo.out.ext x)
      replace Coo := Lib.hid (x.cell Coo.out)
      replace Rtt := Lib.hid (Rtt.out.ext x)
      replace Ctt := Lib.hid (x.cell Ctt.out)
      replace Ral := Lib.hid (Ral.out.ext x)
      replace Cal := Lib.hid (x.cell Cal.out)
      have X_11 := Lib.hid (X_10.out.trans x)
      clear X_10
      clear x
      obtain ⟨aup, nup, hv, j1, j2, j3, j4⟩ := rr.open
      subst hv
      have Rup := Lib.hid rr
      clear rr j1 j2 j3 j4
      obtain ⟨Wup, hW⟩ : ∃ Wup, Wup = w6.alloc (.cells #[.slice aup nup UP.length] 24) := ⟨_, rfl⟩
      have xa : Ext w6 Wup := by rw [hW]; exact (Ext.refl w6).alloc _
      have hba : Wup.heap[w6.heap.size]? = some (Obj.cells #[.slice aup nup UP.length] 24 (0, 0)) := by rw [hW]; exact blk_at rfl
      replace R0_ := Lib.hid (R0_.out.ext xa)
      replace R1_ := Lib.hid (R1_.out.ext xa)
      replace R2_ := Lib.hid (R2_.out.ext xa)
      replace R3_ := Lib.hid (R3_.out.ext xa)
      replace R4_ := Lib.hid (R4_.out.ext xa)
      replace R5_ := Lib.hid (R5_.out.ext xa)
      replace M0 := Lib.hid (xa.cell M0.out)
      replace M1 := Lib.hid (xa.cell M1.out)
      replace M2 := Lib.hid (xa.cell M2.out)
      replace O0 := Lib.hid (xa.cell O0.out)
      replace O1 := Lib.hid (xa.cell O1.out)
      replace O2 := Lib.hid (xa.cell O2.out)
      replace Rab := Lib.hid (Rab.out.ext xa)
      replace Cab := Lib.hid (xa.cell Cab.out)
      replace Rbc := Lib.hid (Rbc.out.ext xa)
      replace Cbc := Lib.hid (xa.cell Cbc.out)
      replace Roo := Lib.hid (Roo.out.ext xa)
      replace Coo := Lib.hid (xa.cell Coo.out)
      replace Rtt := Lib.hid (Rtt.out.ext xa)
      replace Ctt := Lib.hid (xa.cell Ctt.out)
      replace Ral := Lib.hid (Ral.out.ext xa)
      replace Cal := Lib.hid (xa.cell Cal.out)
      replace Rup := Lib.hid (Rup.out.ext xa)
      have X_12 := Lib.hid (X_11.out.trans xa)
      clear X_11
      have Cup : Hid (Wup.cell? ⟨w6.heap.size, 0, none⟩ = some (.slice aup nup UP.length)) := Lib.hid (by simp [World.cell?, hba])
      have ZWup : Hid (w6.heap.size + 1 = Wup.heap.size) := Lib.hid (by rw [hW]; simp)
      have HWup := Lib.hid hW
      clear hW xa hba
      have m1 := M1.out
      rw [HWup.out] at m1
      have o1 := O1.out
      rw [HWup.out] at o1
      go_wp2_with fail
      rw [← HWup.out]
      refine (abo2_c (w := Wup) (ZWup.out) R1_.out R4_.out HAB2_.out.1 HAB2_.out.2).mono ?_
      rintro e w7 ⟨v, rfl, rr, x⟩
      clear m1 o1
      replace R0_ := Lib.hid (R0_.out.ext x)
      replace R1_ := Lib.hid (R1_.out.ext x)
      replace R2_ := Lib.hid (R2_.out.ext x)
      replace R3_ := Lib.hid (R3_.out.ext x)
      replace R4_ := Lib.hid (R4_.out.ext x)
      replace R5_ := Lib.hid (R5_.out.ext x)
      replace M0 := Lib.hid (x.cell M0.out)
      replace M1 := Lib.hid (x.cell M1.out)
      replace M2 := Lib.hid (x.cell M2.out)
      replace O0 := Lib.hid (x.cell O0.out)
      replace O1 := Lib.hid (x.cell O1.out)
      replace O2 := Lib.hid (x.cell O2.out)
      replace Rab := Lib.hid (Rab.out.ext x)
      replace Cab := Lib.hid (x.cell Cab.out)
      replace Rbc := Lib.hid (Rbc.out.ext x)
      replace Cbc := Lib.hid (x.cell Cbc.out)
      replace Roo := Lib.hid (Roo.out.ext x)
      replace Coo := Lib.hid (x.cell Coo.out)
      replace Rtt := Lib.hid (Rtt.out.ext x)
      replace Ctt := Lib.hid (x.cell Ctt.out)
      replace Ral := Lib.hid (Ral.out.ext x)
      replace Cal := Lib.hid (x.cell Cal.out)
      replace Rup := Lib.hid (Rup.out.ext x)
      replace Cup := Lib.hid (x.cell Cup.out)
      have X_13 := Lib.hid (X_12.out.trans x)
      clear X_12
      clear x
      obtain ⟨adn, ndn, hv, j1, j2, j3, j4⟩ := rr.open
      subst hv
      have Rdn := Lib.hid rr
      clear rr j1 j2 j3 j4
      obtain ⟨Wdn, hW⟩ : ∃ Wdn, Wdn = w7.alloc (.cells #[.slice adn ndn DN.length] 24) := ⟨_, rfl⟩
      have xa : Ext w7 Wdn := by rw [hW]; exact (Ext.refl w7).alloc _
      have hba : Wdn.heap[w7.heap.size]? = some (Obj.cells #[.slice adn ndn DN.length] 24 (0, 0)) := by rw [hW]; exact blk_at rfl
      replace R0_ := Lib.hid (R0_.out.ext xa)
      replace R1_ := Lib.hid (R1_.out.ext xa)
      replace R2_ := Lib.hid (R2_.out.ext xa)
      replace R3_ := Lib.hid (R3_.out.ext xa)
      replace R4_ := Lib.hid (R4_.out.ext xa)
      replace R5_ := Lib.hid (R5_.out.ext xa)
      replace M0 := Lib.hid (xa.cell M0.out)
      replace M1 := Lib.hid (xa.cell M1.out)
      replace M2 := Lib.hid (xa.cell M2.out)
      replace O0 := Lib.hid (xa.cell O0.out)
      replace O1 := Lib.hid (xa.cell O1.out)
      replace O2 := Lib.hid (xa.cell O2.out)
      replace Rab := Lib.hid (Rab.out.ext xa)
      replace Cab := Lib.hid (xa.cell Cab.out)
      replace Rbc := Lib.hid (Rbc.out.ext xa)
      replace Cbc := Lib.hid (xa.cell Cbc.out)
      replace Roo := Lib.hid (Roo.out.ext xa)
      replace Coo := Lib.hid (xa.cell Coo.out)
      replace Rtt := Lib.hid (Rtt.out.ext xa)
      replace Ctt := Lib.hid (xa.cell Ctt.out)
      replace Ral := Lib.hid (Ral.out.ext xa)
      replace Cal := Lib.hid (xa.cell Cal.out)
      replace Rup := Lib.hid (Rup.out.ext xa)
      replace Cup := Lib.hid (xa.cell Cup.out)
      replace Rdn := Lib.hid (Rdn.out.ext xa)
      have X_14 := Lib.hid (X_13.out.trans xa)
      clear X_13
      have Cdn : Hid (Wdn.cell? ⟨w7.heap.size, 0, none⟩ = some (.slice adn ndn DN.length)) := Lib.hid (by simp [World.cell?, hba])
      have ZWdn : Hid (w7.heap.size + 1 = Wdn.heap.size) := Lib.hid (by rw [hW]; simp)
      have HWdn := Lib.hid hW
      clear hW xa hba
      have m0 := M0.out
      rw [HWdn.out] at m0
      have m1 := M1.out
      rw [HWdn.out] at m1
      go_wp2_with fail
      rw [← HWdn.out]
      refine (bes2_c (w := Wdn) (ZWdn.out) R0_.out R1_.out BL_.out BT_.out HE1_.out HA1_.out).mono ?_
      rintro e w8 ⟨v, rfl, rr, x⟩
      clear m0 m1
      replace R0_ := Lib.hid (R0_.out.ext x)
      replace R1_ := Lib.hid (R1_.out.ext x)
      replace R2_ := Lib.hid (R2_.out.ext x)
      replace R3_ := Lib.hid (R3_.out.ext x)
      replace R4_ := Lib.hid (R4_.out.ext x)
      replace R5_ := Lib.hid (R5_.out.ext x)
      replace M0 := Lib.hid (x.cell M0.out)
      replace M1 := Lib.hid (x.cell M1.out)
      replace M2 := Lib.hid (x.cell M2.out)
      replace O0 := Lib.hid (x.cell O0.out)
      replace O1 := Lib.hid (x.cell O1.out)
      replace O2 := Lib.hid (x.cell O2.out)
      replace Rab := Lib.hid (Rab.out.ext x)
      replace Cab := Lib.hid (x.cell Cab.out)
      replace Rbc := Lib.hid (Rbc.out.ext x)
      replace Cbc := Lib.hid (x.cell Cbc.out)
      replace Roo := Lib.hid (Roo.out.ext x)
      replace Coo := Lib.hid (x.cell Coo.out)
      replace Rtt := Lib.hid (Rtt.out.ext x)
      replace Ctt := Lib.hid (x.cell Ctt.out)
      replace Ral := Lib.hid (Ral.out.ext x)
      replace Cal := Lib.hid (x.cell Cal.out)
      replace Rup := Lib.hid (Rup.out.ext x)
      replace Cup := Lib.hid (x.cell Cup.out)
      replace Rdn := Lib.hid (Rdn.out.ext x)
      replace Cdn := Lib.hid (x.cell Cdn.out)
      have X_15 := Lib.hid (X_14.out.trans x)
      clear X_14
      clear x
      obtain ⟨alf, nlf, hv, j1, j2, j3, j4⟩ := rr.open
      subst hv
      have Rlf := Lib.hid rr
      clear rr j1 j2 j3 j4
      obtain ⟨Wlf, hW⟩ : ∃ Wlf, Wlf = w8.alloc (.cells #[.slice alf nlf A1.length] 24) := ⟨_, rfl⟩
      have xa : Ext w8 Wlf := by rw [hW]; exact (Ext.refl w8).alloc _
      have hba : Wlf.heap[w8.heap.size]? = some (Obj.cells #[.slice alf nlf A1.length] 24 (0, 0)) := by rw [hW]; exact blk_at rfl
      replace R0_ := Lib.hid (R0_.out.ext xa)
      replace R1_ := Lib.hid (R1_.out.ext xa)
      replace R2_ := Lib.hid (R2_.out.ext xa)
      replace R3_ := Lib.hid (R3_.out.ext xa)
      replace R4_ := Lib.hid (R4_.out.ext xa)
      replace R5_ := Lib.hid (R5_.out.ext xa)
      replace M0 := Lib.hid (xa.cell M0.out)
      replace M1 := Lib.hid (xa.cell M1.out)
      replace M2 := Lib.hid (xa.cell M2.out)
      replace O0 := Lib.hid (xa.cell O0.out)
      replace O1 := Lib.hid (xa.cell O1.out)
      replace O2 := Lib.hid (xa.cell O2.out)
      replace Rab := Lib.hid (Rab.out.ext xa)
      replace Cab := Lib.hid (xa.cell Cab.out)
      replace Rbc := Lib.hid (Rbc.out.ext xa)
      replace Cbc := Lib.hid (xa.cell Cbc.out)
      replace Roo := Lib.hid (Roo.out.ext xa)
      replace Coo := Lib.hid (xa.cell Coo.out)
      replace Rtt := Lib.hid (Rtt.out.ext xa)
      replace Ctt := Lib.hid (xa.cell Ctt.out)
      replace Ral := Lib.hid (Ral.out.ext xa)
      replace Cal := Lib.hid (xa.cell Cal.out)
      replace Rup := Lib.hid (Rup.out.ext xa)
      replace Cup := Lib.hid (xa.cell Cup.out)
      replace Rdn := Lib.hid (Rdn.out.ext xa)
      replace Cdn := Lib.hid (xa.cell Cdn.out)
      replace Rlf := Lib.hid (Rlf.out.ext xa)
      have X_16 := Lib.hid (X_15.out.trans xa)
      clear X_15
      have Clf : Hid (Wlf.cell? ⟨w8.heap.size, 0, none⟩ = some (.slice alf nlf A1.length)) := Lib.hid (by simp [World.cell?, hba])
      have ZWlf : Hid (w8.heap.size + 1 = Wlf.heap.size) := Lib.hid (by rw [hW]; simp)
      have HWlf := Lib.hid hW
      clear hW xa hba
      have o0 := O0.out
      rw [HWlf.out] at o0
      have o1 := O1.out
      rw [HWlf.out] at o1
      go_wp2_with fail
      rw [← HWlf.out]
      refine (bes2_c (w := Wlf) (ZWlf.out) R3_.out R4_.out BL2_.out BT2_.out HE4_.out HA4_.out).mono ?_
      rintro e w9 ⟨v, rfl, rr, x⟩
      clear o0 o1
      replace R0_ := Lib.hid (R0_.out.ext x)
      replace R1_ := Lib.hid (R1_.out.ext x)
      replace R2_ := Lib.hid (R2_.out.ext x)
      replace R3_ := Lib.hid (R3_.out.ext x)
      replace R4_ := Lib.hid (R4_.out.ext x)
      replace R5_ := Lib.hid (R5_.out.ext x)
      replace M0 := Lib.hid (x.cell M0.out)
      replace M1 := Lib.hid (x.cell M1.out)
      replace M2 := Lib.hid (x.cell M2.out)
      replace O0 := Lib.hid (x.cell O0.out)
      replace O1 := Lib.hid (x.cell O1.out)
      replace O2 := Lib.hid (x.cell O2.out)
      replace Rab := Lib.hid (Rab.out.ext x)
      replace Cab := Lib.hid (x.cell Cab.out)
      replace Rbc := Lib.hid (Rbc.out.ext x)
      replace Cbc := Lib.hid (x.cell Cbc.out)
      replace Roo := Lib.hid (Roo.out.ext x)
      replace Coo := Lib.hid (x.cell Coo.out)
      replace Rtt := Lib.hid (Rtt.out.ext x)
      replace Ctt := Lib.hid (x.cell Ctt.out)
      replace Ral := Lib.hid (Ral.out.ext x)
      replace Cal := Lib.hid (x.cell Cal.out)
      replace Rup := Lib.hid (Rup.out.ext x)
      replace Cup := Lib.hid (x.cell Cup.out)
      replace Rdn := Lib.hid (Rdn.out.ext x)
      replace Cdn := Lib.hid (x.cell Cdn.out)
      replace Rlf := Lib.hid (Rlf.out.ext x)
      replace Clf := Lib.hid (x.cell Clf.out)
      have X_17 := Lib.hid (X_16.out.trans x)
      clear X_16
      clear x
      obtain ⟨arg, nrg, hv, j1, j2, j3, j4⟩ := rr.open
      subst hv
      have Rrg := Lib.hid rr
      clear rr j1 j2 j3 j4
      obtain ⟨Wrg, hW⟩ : ∃ Wrg, Wrg = w9.alloc (.cells #[.slice arg nrg A4.length] 24) := ⟨_, rfl⟩
      have xa : Ext w9 Wrg := by rw [hW]; exact (Ext.refl w9).alloc _
      have hba : Wrg.heap[w9.heap.size]? = some (Obj.cells #[.slice arg nrg A4.length] 24 (0, 0)) := by rw [hW]; exact blk_at rfl
      replace R0_ := Lib.hid (R0_.out.ext xa)
      replace R1_ := Lib.hid (R1_.out.ext xa)
      replace R2_ := Lib.hid (R2_.out.ext xa)
      replace R3_ := Lib.hid (R3_.out.ext xa)
      replace R4_ := Lib.hid (R4_.out.ext xa)
      replace R5_ := Lib.hid (R5_.out.ext xa)
      replace M0 := Lib.hid (xa.cell M0.out)
      replace M1 := Lib.hid (xa.cell M1.out)
      replace M2 := Lib.hid (xa.cell M2.out)
      replace O0 := Lib.hid (xa.cell O0.out)
      replace O1 := Lib.hid (xa.cell O1.out)
      replace O2 := Lib.hid (xa.cell O2.out)
      replace Rab := Lib.hid (Rab.out.ext xa)
      replace Cab := Lib.hid (xa.cell Cab.out)
      replace Rbc := Lib.hid (Rbc.out.ext xa)
      replace Cbc := Lib.hid (xa.cell Cbc.out)
      replace Roo := Lib.hid (Roo.out.ext xa)
      replace Coo := Lib.hid (xa.cell Coo.out)
      replace Rtt := Lib.hid (Rtt.out.ext xa)
      replace Ctt := Lib.hid (xa.cell Ctt.out)
      replace Ral := Lib.hid (Ral.out.ext xa)
      replace Cal := Lib.hid (xa.cell Cal.out)
      replace Rup := Lib.hid (Rup.out.ext xa)
      replace Cup := Lib.hid (xa.cell Cup.out)
      replace Rdn := Lib.hid (Rdn.out.ext xa)
      replace Cdn := Lib.hid (xa.cell Cdn.out)
      replace Rlf := Lib.hid (Rlf.out.ext xa)
      replace Clf := Lib.hid (xa.cell Clf.out)
      replace Rrg := Lib.hid (Rrg.out.ext xa)
      have X_18 := Lib.hid (X_17.out.trans xa)
      clear X_17
      have Crg : Hid (Wrg.cell? ⟨w9.heap.size, 0, none⟩ = some (.slice arg nrg A4.length)) := Lib.hid (by simp [World.cell?, hba])
      have ZWrg : Hid (w9.heap.size + 1 = Wrg.heap.size) := Lib.hid (by rw [hW]; simp)
      have HWrg := Lib.hid hW
      clear hW xa hba
      have cup := Cup.out
      rw [HWrg.out] at cup
      have cdn := Cdn.out
      rw [HWrg.out] at cdn
      go_wp2_with fail
      rw [← HWrg.out]
      refine (bes2_c (w := Wrg) (ZWrg.out) Rup.out Rdn.out BU_.out BD_.out HQE_.out HQ_.out).mono ?_
      rintro e w10 ⟨v, rfl, rr, x⟩
      clear cup cdn
      replace R0_ := Lib.hid (R0_.out.ext x)
      replace R1_ := Lib.hid (R1_.out.ext x)
      replace R2_ := Lib.hid (R2_.out.ext x)
      replace R3_ := Lib.hid (R3_.out.ext x)
      replace R4_ := Lib.hid (R4_.out.ext x)
      replace R5_ := Lib.hid (R5_.out.ext x)
      replace M0 := Lib.hid (x.cell M0.out)
      replace M1 := Lib.hid (x.cell M1.out)
      replace M2 := Lib.hid (x.cell M2.out)
      replace O0 := Lib.hid (x.cell O0.out)
      replace O1 := Lib.hid (x.cell O1.out)
      replace O2 := Lib.hid (x.cell O2.out)
      replace Rab := Lib.hid (Rab.out.ext x)
      replace Cab := Lib.hid (x.cell Cab.out)
      replace Rbc := Lib.hid (Rbc.out.ext x)
      replace Cbc := Lib.hid (x.cell Cbc.out)
      replace Roo := Lib.hid (Roo.out.ext x)
      replace Coo := Lib.hid (x.cell Coo.out)
      replace Rtt := Lib.hid (Rtt.out.ext x)
      replace Ctt := Lib.hid (x.cell Ctt.out)
      replace Ral := Lib.hid (Ral.out.ext x)
      replace Cal := Lib.hid (x.cell Cal.out)
      replace Rup := Lib.hid (Rup.out.ext x)
      replace Cup := Lib.hid (x.cell Cup.out)
      replace Rdn := Lib.hid (Rdn.out.ext x)
      replace Cdn := Lib.hid (x.cell Cdn.out)
      replace Rlf := Lib.hid (Rlf.out.ext x)
      replace Clf := Lib.hid (x.cell Clf.out)
      replace Rrg := Lib.hid (Rrg.out.ext x)
      replace Crg := Lib.hid (x.cell Crg.out)
      have X_19 := Lib.hid (X_18.out.trans x)
      clear X_18
      clear x
      obtain ⟨ap, np, hv, j1, j2, j3, j4⟩ := rr.open
      subst hv
      have Rp := Lib.hid rr
      clear rr j1 j2 j3 j4
      obtain ⟨Wp, hW⟩ : ∃ Wp, Wp = w10.alloc (.cells #[.slice ap np Q.length] 24) := ⟨_, rfl⟩
      have xa : Ext w10 Wp := by rw [hW]; exact (Ext.refl w10).alloc _
      have hba : Wp.heap[w10.heap.size]? = some (Obj.cells #[.slice ap np Q.length] 24 (0, 0)) := by rw [hW]; exact blk_at rfl
      replace R0_ := Lib.hid (R0_.out.ext xa)
      replace R1_ := Lib.hid (R1_.out.ext xa)
      replace R2_ := Lib.hid (R2_.out.ext xa)
      replace R3_ := Lib.hid (R3_.out.ext xa)
      replace R4_ := Lib.hid (R4_.out.ext xa)
      replace R5_ := Lib.hid (R5_.out.ext xa)
      replace M0 := Lib.hid (xa.cell M0.out)
      replace M1 := Lib.hid (xa.cell M1.out)
      replace M2 := Lib.hid (xa.cell M2.out)
      replace O0 := Lib.hid (xa.cell O0.out)
      replace O1 := Lib.hid (xa.cell O1.out)
      replace O2 := Lib.hid (xa.cell O2.out)
      replace Rab := Lib.hid (Rab.out.ext xa)
      replace Cab := Lib.hid (xa.cell Cab.out)
      replace Rbc := Lib.hid (Rbc.out.ext xa)
      replace Cbc := Lib.hid (xa.cell Cbc.out)
      replace Roo := Lib.hid (Roo.out.ext xa)
      replace Coo := Lib.hid (xa.cell Coo.out)
      replace Rtt := Lib.hid (Rtt.out.ext xa)
      replace Ctt := Lib.hid (xa.cell Ctt.out)
      replace Ral := Lib.hid (Ral.out.ext xa)
      replace Cal := Lib.hid (xa.cell Cal.out)
      replace Rup := Lib.hid (Rup.out.ext xa)
      replace Cup := Lib.hid (xa.cell Cup.out)
      replace Rdn := Lib.hid (Rdn.out.ext xa)
      replace Cdn := Lib.hid (xa.cell Cdn.out)
      replace Rlf := Lib.hid (Rlf.out.ext xa)
      replace Clf := Lib.hid (xa.cell Clf.out)
      replace Rrg := Lib.hid (Rrg.out.ext xa)
      replace Crg := Lib.hid (xa.cell Crg.out)
      replace Rp := Lib.hid (Rp.out.ext xa)
      have X_20 := Lib.hid (X_19.out.trans xa)
      clear X_19
      have Cp : Hid (Wp.cell? ⟨w10.heap.size, 0, none⟩ = some (.slice ap np Q.length)) := Lib.hid (by simp [World.cell?, hba])
      have ZWp : Hid (w10.heap.size + 1 = Wp.heap.size) := Lib.hid (by rw [hW]; simp)
      have HWp := Lib.hid hW
      clear hW xa hba
      have hz1 := HZ1.out
      have hq := HEX_.out
      rw [if_pos (.inl (by assumption))] at hq
      subst hq
      have t1 : (e1 != 0) = true := by simpa using hz1
      clear hz1
      go_wp2_with fail
      rw [← HWp.out]
      refine (lives15_calls _).mono ?_
      rintro e w13 ⟨rfl, x⟩
      replace R0_ := Lib.hid (R0_.out.ext x)
      replace R1_ := Lib.hid (R1_.out.ext x)
      replace R2_ := Lib.hid (R2_.out.ext x)
      replace R3_ := Lib.hid (R3_.out.ext x)
      replace R4_ := Lib.hid (R4_.out.ext x)
      replace R5_ := Lib.hid (R5_.out.ext x)
      replace M0 := Lib.hid (x.cell M0.out)
      replace M1 := Lib.hid (x.cell M1.out)
      replace M2 := Lib.hid (x.cell M2.out)
      replace O0 := Lib.hid (x.cell O0.out)
      replace O1 := Lib.hid (x.cell O1.out)
      replace O2 := Lib.hid (x.cell O2.out)
      replace Rab := Lib.hid (Rab.out.ext x)
      replace Cab := Lib.hid (x.cell Cab.out)
      replace Rbc := Lib.hid (Rbc.out.ext x)
      replace Cbc := Lib.hid (x.cell Cbc.out)
      replace Roo := Lib.hid (Roo.out.ext x)
      replace Coo := Lib.hid (x.cell Coo.out)
      replace Rtt := Lib.hid (Rtt.out.ext x)
      replace Ctt := Lib.hid (x.cell Ctt.out)
      replace Ral := Lib.hid (Ral.out.ext x)
      replace Cal := Lib.hid (x.cell Cal.out)
      replace Rup := Lib.hid (Rup.out.ext x)
      replace Cup := Lib.hid (x.cell Cup.out)
      replace Rdn := Lib.hid (Rdn.out.ext x)
      replace Cdn := Lib.hid (x.cell Cdn.out)
      replace Rlf := Lib.hid (Rlf.out.ext x)
      replace Clf := Lib.hid (x.cell Clf.out)
      replace Rrg := Lib.hid (Rrg.out.ext x)
      replace Crg := Lib.hid (x.cell Crg.out)
      replace Rp := Lib.hid (Rp.out.ext x)
      replace Cp := Lib.hid (x.cell Cp.out)
      have X_21 := Lib.hid (X_20.out.trans x)
      clear X_20
      clear x
      go_wp2
      go_ret
      exact ⟨rfl, X_21.out⟩
end Go.Proofs.Ytlmkcojimhbmiaa
