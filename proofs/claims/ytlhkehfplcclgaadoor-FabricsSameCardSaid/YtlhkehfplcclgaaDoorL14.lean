/- Texts of this claim in one file: libraries and walks. -/
import Derived.Test.YtlhkehfplcclgaaDoorL6
import Derived.Test.YtlhkehfplcclgaaDoorL7
import Derived.Test.YtlhkehfplcclgaaDoorL13
/- lives: the examples of the chapter. -/
namespace Go.Proofs.YtlhkehfplcclgaaDoor
set_option linter.unusedVariables false
set_option linter.unusedSimpArgs false
set_option maxRecDepth 8000
open Go Go.RowKit Go.Sort

/-- The example in a box, and boxes of three names. -/
structure LS (w : World) (t0 r0 u0 p0 c0 fb : Nat) (hv fv : Value) : Prop where
  m : ExM w t0 r0 u0 p0 c0 (-1)
  b : B4 w fb (.slice (some ⟨t0, 0, none⟩) 6 6) (.slice (some ⟨c0, 0, none⟩) 1 1) hv fv 35
  a1 : BN w (fb + 1) ⟨1, 0⟩
  a2 : BN w (fb + 1 + 1) ⟨1, 1⟩
  a3 : BN w (fb + 1 + 1 + 1) ⟨1, 2⟩
theorem LS.ext {w w' : World} {t0 r0 u0 p0 c0 fb : Nat} {hv fv : Value} (h : LS w t0 r0 u0 p0 c0 fb hv fv) (x : Ext w w') : LS w' t0 r0 u0 p0 c0 fb hv fv := ⟨h.m.ext x, h.b.ext x, h.a1.ext x, h.a2.ext x, h.a3.ext x⟩
theorem LS.set {w : World} {t0 r0 u0 p0 c0 fb : Nat} {hv fv hv' fv' : Value} (h : LS w t0 r0 u0 p0 c0 fb hv fv) {o : Nat} {v : Value} (hb : B4 (w.setCell ⟨fb, o, none⟩ v) fb (.slice (some ⟨t0, 0, none⟩) 6 6) (.slice (some ⟨c0, 0, none⟩) 1 1) hv' fv' 35) : LS (w.setCell ⟨fb, o, none⟩ v) t0 r0 u0 p0 c0 fb hv' fv' := by
  have hfb := h.b
  unfold B4 at hfb
  have hne : ∀ {g : Nat} {o : Array Value} {t : TypeId}, w.heap[g]? = some (.cells o t (0, 0)) → t ≠ 35 → g ≠ fb := fun hg ht e => by
    rw [e, hfb] at hg
    cases hg
    exact ht rfl
  have hs : ∀ {g : Nat} {o' : Obj}, g ≠ fb → w.heap[g]? = some o' → (w.setCell ⟨fb, o, none⟩ v).heap[g]? = some o' := fun hg h1 => by rw [Below.heap_setCell _ _ _ _ hg]; exact h1
  exact ⟨⟨hs (hne h.m.t (by decide)) h.m.t, hs (hne h.m.r (by decide)) h.m.r, hs (hne h.m.u (by decide)) h.m.u, hs (hne h.m.p (by decide)) h.m.p, hs (hne h.m.c (by decide)) h.m.c⟩, hb, hs (hne h.a1 (by decide)) h.a1, hs (hne h.a2 (by decide)) h.a2, hs (hne h.a3 (by decide)) h.a3⟩
theorem LS.set2 {w : World} {t0 r0 u0 p0 c0 fb : Nat} {hv fv : Value} (h : LS w t0 r0 u0 p0 c0 fb hv fv) (v : Value) : LS (w.setCell ⟨fb, 2, none⟩ v) t0 r0 u0 p0 c0 fb v fv := h.set (by
  have := h.b; unfold B4 at this ⊢
  simp [World.setCell, Array.getElem?_modify, this])
theorem LS.set3 {w : World} {t0 r0 u0 p0 c0 fb : Nat} {hv fv : Value} (h : LS w t0 r0 u0 p0 c0 fb hv fv) (v : Value) : LS (w.setCell ⟨fb, 3, none⟩ v) t0 r0 u0 p0 c0 fb hv v := h.set (by
  have := h.b; unfold B4 at this ⊢
  simp [World.setCell, Array.getElem?_modify, this])
theorem nl_set {w : World} {g fb o n : Nat} {cs : Array Value} {l : List Nm} {v : Value} (h : w.heap[g]? = some (.cells cs 41 (0, 0))) (hc : cs.toList = (l.map Nm.cs).flatten) (hn : n = l.length) (hg : g ≠ fb) (h9 : n ≤ 1000) : NL (w.setCell ⟨fb, o, none⟩ v) (.slice (some ⟨g, 0, none⟩) n n) n l :=
  CK.of_blk (by rw [Below.heap_setCell _ _ _ _ hg]; exact h) (Ks.nm l) (by rw [List.length_map]; exact hn) (Nat.le_refl _) (by omega) (by rw [hc, List.take_of_length_le (by rw [(Ks.nm l).len, List.length_map, hn]; exact Nat.le_refl _)])
theorem nl_held {w : World} {F o n hb : Nat} {v : Value} {cs : Array Value} {l : List Nm} (hh : hb = w.heap.size) (hc : cs.toList = (l.map Nm.cs).flatten) (hn : n = l.length) (h9 : n ≤ 1000) : NL ((w.setCell ⟨F, o, none⟩ v).alloc (.cells cs 41)) (.slice (some ⟨hb, 0, none⟩) n n) n l := by
  have h1 : (w.setCell ⟨F, o, none⟩ v).heap.size = hb := by rw [hh]; simp [World.setCell]
  have h2 := fun o' => Deep.blk_alloc_new (w.setCell ⟨F, o, none⟩ v) o'
  rw [h1] at h2
  exact CK.of_blk (h2 _) (Ks.nm l) (by rw [List.length_map]; exact hn) (Nat.le_refl _) (by omega) (by rw [hc, List.take_of_length_le (by rw [(Ks.nm l).len, List.length_map, hn]; exact Nat.le_refl _)])
theorem two_blk {M : World} {n : Nat} (h : M.heap.size = n) (A B : Obj) : ((M.alloc A).alloc B).heap[n]? = some A ∧ ((M.alloc A).alloc B).heap[n + 1]? = some B := by
  subst h
  refine ⟨?_, ?_⟩
  · rw [Below.heap_alloc _ _ _ (by simp)]; exact Deep.blk_alloc_new _ _
  · have := Deep.blk_alloc_new (M.alloc A) B; simpa using this
theorem nl_one {w : World} {g : Nat} {a : Nm} (h : w.heap[g]? = some (.cells #[.int .u8 a.y, .int .i64 a.n] 41 (0, 0))) : NL w (.slice (some ⟨g, 0, none⟩) 1 1) 1 [a] := CK.of_blk h (Ks.nm [a]) rfl (Nat.le_refl _) (by omega) rfl
/-- The names that are held and that have fallen are set, in either order. -/
theorem LS.both {w w0 : World} {t0 r0 u0 p0 c0 fb : Nat} {hv fv : Value} (h : LS w t0 r0 u0 p0 c0 fb hv fv) (x : Ext w0 w) (hw : w0.heap.size ≤ fb) (a b : Nm) :
    (LS (((((w.setCell ⟨fb, 2, none⟩ (.slice (some ⟨w.heap.size, 0, none⟩) 1 1)).setCell ⟨fb, 3, none⟩ (.slice (some ⟨w.heap.size + 1, 0, none⟩) 1 1)).alloc (.cells #[.int .u8 a.y, .int .i64 a.n] 41)).alloc (.cells #[.int .u8 b.y, .int .i64 b.n] 41)).drew) t0 r0 u0 p0 c0 fb (.slice (some ⟨w.heap.size, 0, none⟩) 1 1) (.slice (some ⟨w.heap.size + 1, 0, none⟩) 1 1) ∧
      NL (((((w.setCell ⟨fb, 2, none⟩ (.slice (some ⟨w.heap.size, 0, none⟩) 1 1)).setCell ⟨fb, 3, none⟩ (.slice (some ⟨w.heap.size + 1, 0, none⟩) 1 1)).alloc (.cells #[.int .u8 a.y, .int .i64 a.n] 41)).alloc (.cells #[.int .u8 b.y, .int .i64 b.n] 41)).drew) (.slice (some ⟨w.heap.size, 0, none⟩) 1 1) 1 [a] ∧
      NL (((((w.setCell ⟨fb, 2, none⟩ (.slice (some ⟨w.heap.size, 0, none⟩) 1 1)).setCell ⟨fb, 3, none⟩ (.slice (some ⟨w.heap.size + 1, 0, none⟩) 1 1)).alloc (.cells #[.int .u8 a.y, .int .i64 a.n] 41)).alloc (.cells #[.int .u8 b.y, .int .i64 b.n] 41)).drew) (.slice (some ⟨w.heap.size + 1, 0, none⟩) 1 1) 1 [b] ∧
      Ext w0 (((((w.setCell ⟨fb, 2, none⟩ (.slice (some ⟨w.heap.size, 0, none⟩) 1 1)).setCell ⟨fb, 3, none⟩ (.slice (some ⟨w.heap.size + 1, 0, none⟩) 1 1)).alloc (.cells #[.int .u8 a.y, .int .i64 a.n] 41)).alloc (.cells #[.int .u8 b.y, .int .i64 b.n] 41)).drew)) ∧
    (LS (((((w.setCell ⟨fb, 2, none⟩ (.slice (some ⟨w.heap.size + 1, 0, none⟩) 1 1)).setCell ⟨fb, 3, none⟩ (.slice (some ⟨w.heap.size, 0, none⟩) 1 1)).alloc (.cells #[.int .u8 b.y, .int .i64 b.n] 41)).alloc (.cells #[.int .u8 a.y, .int .i64 a.n] 41)).drew) t0 r0 u0 p0 c0 fb (.slice (some ⟨w.heap.size + 1, 0, none⟩) 1 1) (.slice (some ⟨w.heap.size, 0, none⟩) 1 1) ∧
      NL (((((w.setCell ⟨fb, 2, none⟩ (.slice (some ⟨w.heap.size + 1, 0, none⟩) 1 1)).setCell ⟨fb, 3, none⟩ (.slice (some ⟨w.heap.size, 0, none⟩) 1 1)).alloc (.cells #[.int .u8 b.y, .int .i64 b.n] 41)).alloc (.cells #[.int .u8 a.y, .int .i64 a.n] 41)).drew) (.slice (some ⟨w.heap.size + 1, 0, none⟩) 1 1) 1 [a] ∧
      NL (((((w.setCell ⟨fb, 2, none⟩ (.slice (some ⟨w.heap.size + 1, 0, none⟩) 1 1)).setCell ⟨fb, 3, none⟩ (.slice (some ⟨w.heap.size, 0, none⟩) 1 1)).alloc (.cells #[.int .u8 b.y, .int .i64 b.n] 41)).alloc (.cells #[.int .u8 a.y, .int .i64 a.n] 41)).drew) (.slice (some ⟨w.heap.size, 0, none⟩) 1 1) 1 [b] ∧
      Ext w0 (((((w.setCell ⟨fb, 2, none⟩ (.slice (some ⟨w.heap.size + 1, 0, none⟩) 1 1)).setCell ⟨fb, 3, none⟩ (.slice (some ⟨w.heap.size, 0, none⟩) 1 1)).alloc (.cells #[.int .u8 b.y, .int .i64 b.n] 41)).alloc (.cells #[.int .u8 a.y, .int .i64 a.n] 41)).drew)) := by
  have hsz : ∀ u v : Value, ((w.setCell ⟨fb, 2, none⟩ u).setCell ⟨fb, 3, none⟩ v).heap.size = w.heap.size := fun u v => by simp [World.setCell]
  exact ⟨⟨((h.set2 _).set3 _).ext (((((Ext.refl _).alloc _).alloc _)).drew), nl_one (two_blk (hsz _ _) _ _).1, nl_one (two_blk (hsz _ _) _ _).2, ((((x.setCell hw _).setCell hw _).alloc _).alloc _).drew⟩,
    ⟨((h.set2 _).set3 _).ext (((((Ext.refl _).alloc _).alloc _)).drew), nl_one (two_blk (hsz _ _) _ _).2, nl_one (two_blk (hsz _ _) _ _).1, ((((x.setCell hw _).setCell hw _).alloc _).alloc _).drew⟩⟩
set_option maxHeartbeats 16000000 in
theorem Lives_calls (w : World) (ht : PTab w) : Calls Tryd.prog 9 #[] w fun e w' => e = .returned (.bool true) ∧ Ext w w' := by
  have HEx := Lib.hid (Example_calls w)
  have HT := Lib.hid ht
  clear ht
  go_enter Tryd.func9, Tryd.ntmps9
  go_wp2_with fail
  refine HEx.out.mono ?_
  rintro e w1 ⟨t0, r0, u0, p0, c0, h0, rfl, hM, hh, _, x1⟩
  obtain ⟨fb, hfb⟩ : ∃ fb, fb = w1.heap.size := ⟨_, rfl⟩
  obtain ⟨W, hW⟩ : ∃ W, W = (((w1.alloc (.cells #[.slice (some ⟨t0, 0, none⟩) 6 6, .slice (some ⟨c0, 0, none⟩) 1 1, .slice (some ⟨h0, 0, none⟩) 2 2, .slice none 0 0] 35)).alloc (.cells #[.int .u8 1, .int .i64 0] 41)).alloc (.cells #[.int .u8 1, .int .i64 1] 41)).alloc (.cells #[.int .u8 1, .int .i64 2] 41) := ⟨_, rfl⟩
  have xW : Ext w1 W := by rw [hW]; exact ((((Ext.refl _).alloc _).alloc _).alloc _).alloc _
  have hB : B4 W fb (.slice (some ⟨t0, 0, none⟩) 6 6) (.slice (some ⟨c0, 0, none⟩) 1 1) (.slice (some ⟨h0, 0, none⟩) 2 2) (.slice none 0 0) 35 := by rw [hW, hfb]; exact (B4.new _ _ _ _ _ _).ext ((((Ext.refl _).alloc _).alloc _).alloc _)
  have hA1 : BN W (fb + 1) ⟨1, 0⟩ := by rw [hW, hfb]; have := (BN.new (w1.alloc (.cells #[.slice (some ⟨t0, 0, none⟩) 6 6, .slice (some ⟨c0, 0, none⟩) 1 1, .slice (some ⟨h0, 0, none⟩) 2 2, .slice none 0 0] 35)) ⟨1, 0⟩).ext (((Ext.refl _).alloc (.cells #[.int .u8 1, .int .i64 1] 41)).alloc (.cells #[.int .u8 1, .int .i64 2] 41)); simpa using this
  have hA2 : BN W (fb + 1 + 1) ⟨1, 1⟩ := by rw [hW, hfb]; have := (BN.new ((w1.alloc (.cells #[.slice (some ⟨t0, 0, none⟩) 6 6, .slice (some ⟨c0, 0, none⟩) 1 1, .slice (some ⟨h0, 0, none⟩) 2 2, .slice none 0 0] 35)).alloc (.cells #[.int .u8 1, .int .i64 0] 41)) ⟨1, 1⟩).ext ((Ext.refl _).alloc (.cells #[.int .u8 1, .int .i64 2] 41)); simpa using this
  have hA3 : BN W (fb + 1 + 1 + 1) ⟨1, 2⟩ := by rw [hW, hfb]; have := BN.new (((w1.alloc (.cells #[.slice (some ⟨t0, 0, none⟩) 6 6, .slice (some ⟨c0, 0, none⟩) 1 1, .slice (some ⟨h0, 0, none⟩) 2 2, .slice none 0 0] 35)).alloc (.cells #[.int .u8 1, .int .i64 0] 41)).alloc (.cells #[.int .u8 1, .int .i64 1] 41)) ⟨1, 2⟩; simpa using this
  have hS : LS W t0 r0 u0 p0 c0 fb (.slice (some ⟨h0, 0, none⟩) 2 2) (.slice none 0 0) := ⟨hM.ext xW, hB, hA1, hA2, hA3⟩
  have hH : NL W (.slice (some ⟨h0, 0, none⟩) 2 2) 2 [⟨1, 1⟩, ⟨1, 2⟩] := CK.of_blk (xW.block hh) (Ks.nm [⟨1, 1⟩, ⟨1, 2⟩]) rfl (Nat.le_refl _) (by omega) rfl
  have S := Lib.hid (And.intro hS hH)
  have hFI : FIn (exF (-1) [⟨1, 1⟩, ⟨1, 2⟩] []) := exFIn (by decide) (fun a ha => by
    simp only [List.mem_cons, List.not_mem_nil, or_false] at ha
    rcases ha with rfl | rfl <;> exact exIn _ _ (by decide)) (fun a ha => by cases ha) (by decide) (by decide)
  have HFI := Lib.hid hFI
  have HFB := Lib.hid (fun w' (x : Ext W w') => (hS.m.ext x).fb (hH.ext x) (NL.nil w'))
  have XW := Lib.hid (x1.trans xW)
  have X1 := Lib.hid x1
  have hwl : w.heap.size ≤ fb := by rw [hfb]; exact x1.size
  have HTx := Lib.hid (fun w' (x : Ext W w') => (show Calls Tryd.prog 12 #[.agg #[.slice (some ⟨t0, 0, none⟩) 6 6, .slice (some ⟨c0, 0, none⟩) 1 1, .slice (some ⟨h0, 0, none⟩) 2 2, .slice none 0 0]] w' fun e w'' => e = .returned (.string (bst exTxt)) ∧ Ext w' w'' by rw [← ex_text]; exact Text_calls _ _ _ _ _ w' (HFB.out w' x) hFI (fun _ => exOK) (HT.out.ext (XW.out.trans x))))
  have HW := Lib.hid hW; have Hfb := Lib.hid hfb
  clear hW hfb hS hH hB hA1 hA2 hA3 hM hh hFI x1 xW
  obtain ⟨b0, b1, b2, b3⟩ : (W.cell? ⟨fb, 0, none⟩ = _) ∧ (W.cell? ⟨fb, 1, none⟩ = _) ∧ (W.cell? ⟨fb, 2, none⟩ = _) ∧ (W.cell? ⟨fb, 3, none⟩ = _) := ⟨S.out.1.b.c0, S.out.1.b.c1, S.out.1.b.c2, S.out.1.b.c3⟩
  rw [HW.out, Hfb.out] at b0 b1 b2 b3
  go_wp2_with fail
  rw [← HW.out]
  clear b0 b1 b2 b3
  refine (HTx.out W (Ext.refl _)).mono ?_
  rintro e w2 ⟨rfl, x2⟩
  have X2 := Lib.hid x2
  clear x2
  have y0 := (S.out.1.ext X2.out)
  have b0 := y0.b.c0; have b1 := y0.b.c1; have b2 := y0.b.c2; have b3 := y0.b.c3
  obtain ⟨d0, d1⟩ := y0.a2.at
  obtain ⟨e0, e1⟩ := y0.a3.at
  simp only [Nat.zero_add] at d1 e1
  clear y0
  obtain ⟨F, hF⟩ : ∃ F, F = w1.heap.size := ⟨_, rfl⟩
  rw [← hF]
  obtain rfl : F = fb := by rw [hF, Hfb.out]
  clear hF
  have hTL : ((bst exTxt).toList == ([49, 46, 48, 32, 102, 114, 111, 110, 116, 32, 110, 101, 119, 10, 49, 46, 49, 32, 102, 114, 111, 110, 116, 10, 49, 46, 50, 32, 98, 97, 99, 107, 32, 116, 104, 114, 111, 117, 103, 104, 32, 49, 46, 48, 32, 112, 97, 115, 116, 32, 49, 46, 49, 60, 43, 10, 99, 114, 111, 115, 115, 32, 49, 46, 49, 32, 49, 46, 50, 32, 45, 49, 10, 104, 101, 108, 100, 32, 49, 46, 49, 32, 49, 46, 50, 10] : List UInt8)) = true := by
    rw [ByteArray.toList_eq, beq_iff_eq]; rfl
  generalize bst exTxt = TX at *
  go_wp2_with fail
  clear hTL b0 b1 b2 b3 d0 d1 e0 e1
  refine (Cross_calls _ _ _ _ (exF (-1) [⟨1, 1⟩, ⟨1, 2⟩] []) ⟨1, 2⟩ ⟨1, 1⟩ 1 w2 (HFB.out w2 X2.out) HFI.out (fun _ => exOK) (exIn _ _ (by decide)) (exIn _ _ (by decide)) (by decide)).mono ?_
  rintro e w3 ⟨tv, cv, hv, fv, rfl, x3, hok, hno⟩
  have hok2 := hok ex_crE
  rw [ex_crE]
  obtain ⟨hFB3, hXL3⟩ := hok2
  obtain ⟨ct', hT'⟩ := hFB3.t
  obtain ⟨ta', tn', rfl, u1, _, _, _⟩ := hT'.open
  obtain ⟨ch', hH'⟩ := hFB3.h
  obtain ⟨ha', hn', rfl, u3, _, _, _⟩ := hH'.open
  obtain ⟨cf', hF'⟩ := hFB3.f
  obtain ⟨fa', fn', rfl, u4, _, _, _⟩ := hF'.open
  rw [ex_crF] at hXL3
  obtain ⟨ca', cn', rfl, u2, _, _, _⟩ := hXL3.open
  have X3 := Lib.hid (X2.out.trans x3)
  rw [show ([] : List Xg).length = 0 from rfl]
  clear hok hno hFB3 hXL3 hT' hH' hF' u1 u3 u4 x3
  obtain ⟨W4, hW4⟩ : ∃ W4, W4 = w3.alloc (.cells #[.slice ta' tn' ct', .slice ca' 0 0, .slice ha' hn' ch', .slice fa' fn' cf'] 35) := ⟨_, rfl⟩
  have z4 : Ext w3 W4 := by rw [hW4]; exact (Ext.refl _).alloc _
  have X4 := Lib.hid (X3.out.trans z4)
  have y3 := S.out.1.ext X3.out
  have b0 := cell_alloc y3.b.c0 (.cells #[.slice ta' tn' ct', .slice ca' 0 0, .slice ha' hn' ch', .slice fa' fn' cf'] 35)
  have b1 := cell_alloc y3.b.c1 (.cells #[.slice ta' tn' ct', .slice ca' 0 0, .slice ha' hn' ch', .slice fa' fn' cf'] 35)
  have b2 := cell_alloc y3.b.c2 (.cells #[.slice ta' tn' ct', .slice ca' 0 0, .slice ha' hn' ch', .slice fa' fn' cf'] 35)
  have b3 := cell_alloc y3.b.c3 (.cells #[.slice ta' tn' ct', .slice ca' 0 0, .slice ha' hn' ch', .slice fa' fn' cf'] 35)
  obtain ⟨d0', d1'⟩ := y3.a2.at
  obtain ⟨e0', e1'⟩ := y3.a3.at
  simp only [Nat.zero_add] at d1' e1'
  have d0 := cell_alloc d0' (.cells #[.slice ta' tn' ct', .slice ca' 0 0, .slice ha' hn' ch', .slice fa' fn' cf'] 35)
  have d1 := cell_alloc d1' (.cells #[.slice ta' tn' ct', .slice ca' 0 0, .slice ha' hn' ch', .slice fa' fn' cf'] 35)
  have e0 := cell_alloc e0' (.cells #[.slice ta' tn' ct', .slice ca' 0 0, .slice ha' hn' ch', .slice fa' fn' cf'] 35)
  have e1 := cell_alloc e1' (.cells #[.slice ta' tn' ct', .slice ca' 0 0, .slice ha' hn' ch', .slice fa' fn' cf'] 35)
  have hlt := y3.a3
  have l3 : F + 1 + 1 + 1 < w3.heap.size := by unfold BN at hlt; exact (Array.getElem?_eq_some_iff.1 hlt).1
  have l0 : F < w3.heap.size := by omega
  have l2 : F + 1 + 1 < w3.heap.size := by omega
  have HW4 := Lib.hid hW4
  have HLk := Lib.hid (fun w' (x : Ext W w') => (show Calls Tryd.prog 24 #[.agg #[.slice (some ⟨t0, 0, none⟩) 6 6, .slice (some ⟨c0, 0, none⟩) 1 1, .slice (some ⟨h0, 0, none⟩) 2 2, .slice none 0 0], .agg #[.int .u8 1, .int .i64 2], .agg #[.int .u8 1, .int .i64 1]] w' fun e w'' => e = .returned (.int .i64 (-1)) ∧ Ext w' w'' by
    have := Linking_calls _ _ _ _ _ ⟨1, 2⟩ ⟨1, 1⟩ w' (HFB.out w' x) (by decide)
    rw [ex_lnk] at this
    exact this))
  clear hW4 z4 y3 hlt d0' d1' e0' e1'
  go_wp2_with fail
  rw [← HW4.out]
  clear b0 b1 b2 b3 d0 d1 e0 e1 l3 l0 l2
  refine (HLk.out W4 X4.out).mono ?_
  rintro e w5 ⟨rfl, x5⟩
  have X5 := Lib.hid (X4.out.trans x5)
  clear x5
  have S5 := Lib.hid (S.out.1.ext X5.out)
  have Y5 := Lib.hid (XW.out.trans X5.out)
  clear S HFB HTx HLk HW Hfb HW4 X1 X2 X3 X4 X5 XW HFI HEx
  obtain ⟨hba, hhb⟩ : ∃ hb, hb = w5.heap.size := ⟨_, rfl⟩
  have hF : F < w5.heap.size := S5.out.b.lt
  obtain ⟨Va, hV⟩ : ∃ V, V = (w5.setCell ⟨F, 2, none⟩ (.slice (some ⟨hba, 0, none⟩) 3 3)).alloc (.cells #[.int .u8 1, .int .i64 0, .int .u8 1, .int .i64 1, .int .u8 1, .int .i64 2] 41) := ⟨_, rfl⟩
  have SA := S5.out.ext ((Ext.refl w5).alloc (.cells #[.int .u8 1, .int .i64 0, .int .u8 1, .int .i64 1, .int .u8 1, .int .i64 2] 41))
  have SVa := Lib.hid (show LS Va t0 r0 u0 p0 c0 F (.slice (some ⟨hba, 0, none⟩) 3 3) (.slice none 0 0) by rw [hV]; exact (S5.out.set2 _).ext ((Ext.refl _).alloc _))
  have NVa := Lib.hid (show NL Va (.slice (some ⟨hba, 0, none⟩) 3 3) 3 [⟨1, 0⟩, ⟨1, 1⟩, ⟨1, 2⟩] by rw [hV]; exact nl_held hhb rfl rfl (by omega))
  have YVa := Lib.hid (show Ext w Va by rw [hV]; exact (Ext.setCell Y5.out hwl _).alloc _)
  have b0 := SA.b.c0; have b1 := SA.b.c1; have b2 := SA.b.c2; have b3 := SA.b.c3; have bf := SA.b.fr; have bl := S5.out.b.lt
  obtain ⟨d0, e0⟩ := S5.out.a1.at
  obtain ⟨d1, e1⟩ := S5.out.a2.at
  obtain ⟨d2, e2⟩ := S5.out.a3.at
  simp only [Nat.zero_add] at e0 e1 e2
  have HV := Lib.hid hV; have Hhb := Lib.hid hhb
  clear hV hhb SA
  go_upto_region 9 with fail
  rw [← Hhb.out, ← HV.out]
  clear b0 b1 b2 b3 bf bl hF HV Hhb d0 e0 d1 e1 d2 e2
  have b0 := SVa.out.b.c0; have b1 := SVa.out.b.c1; have b2 := SVa.out.b.c2; have b3 := SVa.out.b.c3
  go_wp2_with fail
  clear b0 b1 b2 b3
  refine (Check_calls _ _ _ _ (exF (-1) [⟨1, 0⟩, ⟨1, 1⟩, ⟨1, 2⟩] []) Va (SVa.out.m.fb NVa.out (NL.nil Va)) (exFIn (by decide) (fun a ha => by
    simp only [List.mem_cons, List.not_mem_nil, or_false] at ha
    rcases ha with rfl | rfl | rfl <;> exact exIn _ _ (by decide)) (fun a ha => by cases ha) (by decide) (by decide)) (fun _ => exOK)).mono ?_
  rintro e w6 ⟨rfl, xx⟩
  rw [ex_chk2]
  have S6 := Lib.hid (SVa.out.ext xx)
  have Y6 := Lib.hid (YVa.out.trans xx)
  clear xx SVa NVa YVa S5 Y5
  obtain ⟨hbb, hhb⟩ : ∃ hb, hb = w6.heap.size := ⟨_, rfl⟩
  have hF : F < w6.heap.size := S6.out.b.lt
  obtain ⟨Vb, hV⟩ : ∃ V, V = (w6.setCell ⟨F, 2, none⟩ (.slice (some ⟨hbb, 0, none⟩) 1 1)).alloc (.cells #[.int .u8 1, .int .i64 2] 41) := ⟨_, rfl⟩
  have SA := S6.out.ext ((Ext.refl w6).alloc (.cells #[.int .u8 1, .int .i64 2] 41))
  have SVb := Lib.hid (show LS Vb t0 r0 u0 p0 c0 F (.slice (some ⟨hbb, 0, none⟩) 1 1) (.slice none 0 0) by rw [hV]; exact (S6.out.set2 _).ext ((Ext.refl _).alloc _))
  have NVb := Lib.hid (show NL Vb (.slice (some ⟨hbb, 0, none⟩) 1 1) 1 [⟨1, 2⟩] by rw [hV]; exact nl_held hhb rfl rfl (by omega))
  have YVb := Lib.hid (show Ext w Vb by rw [hV]; exact (Ext.setCell Y6.out hwl _).alloc _)
  have b0 := SA.b.c0; have b1 := SA.b.c1; have b2 := SA.b.c2; have b3 := SA.b.c3; have bf := SA.b.fr; have bl := S6.out.b.lt
  obtain ⟨d2, e2⟩ := S6.out.a3.at
  simp only [Nat.zero_add] at e2
  have HV := Lib.hid hV; have Hhb := Lib.hid hhb
  clear hV hhb SA
  go_upto_region 11 with fail
  rw [← Hhb.out, ← HV.out]
  clear b0 b1 b2 b3 bf bl hF HV Hhb d2 e2
  have b0 := SVb.out.b.c0; have b1 := SVb.out.b.c1; have b2 := SVb.out.b.c2; have b3 := SVb.out.b.c3
  go_wp2_with fail
  clear b0 b1 b2 b3
  refine (Check_calls _ _ _ _ (exF (-1) [⟨1, 2⟩] []) Vb (SVb.out.m.fb NVb.out (NL.nil Vb)) (exFIn (by decide) (fun a ha => by
    simp only [List.mem_cons, List.not_mem_nil, or_false] at ha
    subst ha; exact exIn _ _ (by decide)) (fun a ha => by cases ha) (by decide) (by decide)) (fun _ => exOK)).mono ?_
  rintro e w7 ⟨rfl, xx⟩
  rw [ex_chk3]
  have S7 := Lib.hid (SVb.out.ext xx)
  have Y7 := Lib.hid (YVb.out.trans xx)
  clear xx SVb NVb YVb S6 Y6
  have hF : F < w7.heap.size := S7.out.b.lt
  have hF3 : F + 1 + 1 + 1 < w7.heap.size := by have z := S7.out.a3; unfold BN at z; exact (Array.getElem?_eq_some_iff.1 z).1
  have hF2 : F + 1 + 1 < w7.heap.size := by omega
  obtain ⟨d1, e1⟩ := S7.out.a2.at
  obtain ⟨d2, e2⟩ := S7.out.a3.at
  simp only [Nat.zero_add] at e1 e2
  have b0 := S7.out.b.c0; have b1 := S7.out.b.c1; have b2 := S7.out.b.c2; have b3 := S7.out.b.c3; have bf := S7.out.b.fr
  have HBo := Lib.hid (S7.out.both Y7.out hwl ⟨1, 1⟩ ⟨1, 2⟩)
  go_upto_region 12 with fail
  go_cut [] from 52 to 57 (fun wx => ∃ h1 f1 : Nat, Hid (LS wx t0 r0 u0 p0 c0 F (.slice (some ⟨h1, 0, none⟩) 1 1) (.slice (some ⟨f1, 0, none⟩) 1 1) ∧ NL wx (.slice (some ⟨h1, 0, none⟩) 1 1) 1 [⟨1, 1⟩] ∧ NL wx (.slice (some ⟨f1, 0, none⟩) 1 1) 1 [⟨1, 2⟩] ∧ Ext w wx))
  case first =>
    go_region
    · go_wp2_with fail
      go_meet
      case rel => first | exact ⟨_, _, Lib.hid HBo.out.1⟩ | exact ⟨_, _, Lib.hid HBo.out.2⟩
    · go_wp2_with fail
      go_meet
      case rel => first | exact ⟨_, _, Lib.hid HBo.out.1⟩ | exact ⟨_, _, Lib.hid HBo.out.2⟩
  case rest =>
    obtain ⟨h1p, f1p, S8c⟩ := hcut
    obtain ⟨wdp, hwd⟩ : ∃ wd, wd = wc := ⟨_, rfl⟩
    subst hwd
    have b0 := S8c.out.1.b.c0; have b1 := S8c.out.1.b.c1; have b2 := S8c.out.1.b.c2; have b3 := S8c.out.1.b.c3
    go_wp2_with fail
    clear b0 b1 b2 b3
    refine (Undone_calls _ _ _ _ (exF (-1) [⟨1, 1⟩] [⟨1, 2⟩]) wdp (S8c.out.1.m.fb S8c.out.2.1 S8c.out.2.2.1) (exFIn (by decide) (fun a ha => by rw [List.mem_singleton.1 ha]; exact exIn _ _ (by decide)) (fun a ha => by rw [List.mem_singleton.1 ha]; exact exIn _ _ (by decide)) (by decide) (by decide))).mono ?_
    rintro e w8 ⟨gp, np, hnp, rfl, hgp, hbp, xx⟩
    have hup := ex_und1
    rw [show (exF (-1) [⟨1, 1⟩] [⟨1, 2⟩]).ys = exT from rfl, show (exF (-1) [⟨1, 1⟩] [⟨1, 2⟩]).fallen = [⟨1, 2⟩] from rfl, hup] at hnp hbp
    obtain rfl : np = 0 := hnp
    have S8 := Lib.hid (S8c.out.1.ext xx)
    have Y8 := Lib.hid (S8c.out.2.2.2.trans xx)
    clear S8c hup hbp hgp xx S7 Y7 hF hF2 hF3 d1 e1 d2 e2 bf HBo
    have hF : F < w8.heap.size := S8.out.b.lt
    have hF3 : F + 1 + 1 + 1 < w8.heap.size := by have z := S8.out.a3; unfold BN at z; exact (Array.getElem?_eq_some_iff.1 z).1
    have hF2 : F + 1 + 1 < w8.heap.size := by omega
    obtain ⟨d1, e1⟩ := S8.out.a2.at
    obtain ⟨d2, e2⟩ := S8.out.a3.at
    simp only [Nat.zero_add] at e1 e2
    have b0 := S8.out.b.c0; have b1 := S8.out.b.c1; have b2 := S8.out.b.c2; have b3 := S8.out.b.c3; have bf := S8.out.b.fr
    have HBo := Lib.hid (S8.out.both Y8.out hwl ⟨1, 2⟩ ⟨1, 1⟩)
    go_upto_region 14 with fail
    go_cut [] from 60 to 65 (fun wx => ∃ h1 f1 : Nat, Hid (LS wx t0 r0 u0 p0 c0 F (.slice (some ⟨h1, 0, none⟩) 1 1) (.slice (some ⟨f1, 0, none⟩) 1 1) ∧ NL wx (.slice (some ⟨h1, 0, none⟩) 1 1) 1 [⟨1, 2⟩] ∧ NL wx (.slice (some ⟨f1, 0, none⟩) 1 1) 1 [⟨1, 1⟩] ∧ Ext w wx))
    case first =>
      go_region
      · go_wp2_with fail
        go_meet
        case rel => first | exact ⟨_, _, Lib.hid HBo.out.1⟩ | exact ⟨_, _, Lib.hid HBo.out.2⟩
      · go_wp2_with fail
        go_meet
        case rel => first | exact ⟨_, _, Lib.hid HBo.out.1⟩ | exact ⟨_, _, Lib.hid HBo.out.2⟩
    case rest =>
      obtain ⟨h1q, f1q, S9c⟩ := hcut
      obtain ⟨wdq, hwd⟩ : ∃ wd, wd = wc := ⟨_, rfl⟩
      subst hwd
      have b0 := S9c.out.1.b.c0; have b1 := S9c.out.1.b.c1; have b2 := S9c.out.1.b.c2; have b3 := S9c.out.1.b.c3
      go_wp2_with fail
      clear b0 b1 b2 b3
      refine (Undone_calls _ _ _ _ (exF (-1) [⟨1, 2⟩] [⟨1, 1⟩]) wdq (S9c.out.1.m.fb S9c.out.2.1 S9c.out.2.2.1) (exFIn (by decide) (fun a ha => by rw [List.mem_singleton.1 ha]; exact exIn _ _ (by decide)) (fun a ha => by rw [List.mem_singleton.1 ha]; exact exIn _ _ (by decide)) (by decide) (by decide))).mono ?_
      rintro e w9 ⟨gq, nq, hnq, rfl, hgq, hbq, xx⟩
      have huq := ex_und2
      rw [show (exF (-1) [⟨1, 2⟩] [⟨1, 1⟩]).ys = exT from rfl, show (exF (-1) [⟨1, 2⟩] [⟨1, 1⟩]).fallen = [⟨1, 1⟩] from rfl, huq] at hnq hbq
      obtain rfl : nq = 1 := hnq
      have S9 := Lib.hid (S9c.out.1.ext xx)
      have Y9 := Lib.hid (S9c.out.2.2.2.trans xx)
      clear S9c huq hgq xx S8 Y8 hF hF2 hF3 d1 e1 d2 e2 bf HBo
      have g0 : w9.cell? ⟨gq, 0, none⟩ = some (.int .u8 1) := by simp [World.cell?, hbq, Nm.cs]
      have g1 : w9.cell? ⟨gq, 1, none⟩ = some (.int .i64 1) := by simp [World.cell?, hbq, Nm.cs]
      obtain ⟨d1, e1⟩ := S9.out.a2.at
      simp only [Nat.zero_add] at e1
      clear hbq
      go_wp2
      go_quiet (fail)
      go_wp2
      go_ret
      exact ⟨rfl, Y9.out.drewN _⟩
end Go.Proofs.YtlhkehfplcclgaaDoor
/- less; what the law FabricsCompare says of the example. -/
namespace Go.Proofs.YtlhkehfplcclgaaDoor
set_option linter.unusedVariables false
set_option linter.unusedSimpArgs false
set_option maxRecDepth 8000
open Go Go.RowKit Go.Sort

def lessI (a b : Nm) : Int := if cmpN a b < 0 then 1 else 0
set_option maxHeartbeats 4000000 in
theorem Less_calls (a b : Nm) (w : World) : Calls Tryd.prog 21 #[a.val, b.val] w fun e w' => e = .returned (.int .i64 (lessI a b)) ∧ Ext w w' := by
  obtain ⟨ay, an⟩ := a
  obtain ⟨by', bn⟩ := b
  obtain ⟨R, hR⟩ : ∃ R, R = lessI ⟨ay, an⟩ ⟨by', bn⟩ := ⟨_, rfl⟩
  rw [← hR]
  have HR := Lib.hid (show R = if cmpN ⟨ay, an⟩ ⟨by', bn⟩ < 0 then 1 else 0 from hR)
  unfold Nm.val
  dsimp only
  have X := Lib.hid (show Ext w ((w.alloc (.cells #[.int .u8 ay, .int .i64 an] 41)).alloc (.cells #[.int .u8 by', .int .i64 bn] 41)) from ((Ext.refl _).alloc _).alloc _)
  clear hR
  go_enter Tryd.func21, Tryd.ntmps21
  by_cases h1 : ay < by'
  · have hr := HR.out
    rw [if_pos (cmpN_lt.2 (.inl h1))] at hr
    have Hr := Lib.hid hr
    have d1 : decide (ay < by') = true := decide_eq_true h1
    clear hr
    go_wp2
    go_ret
    exact ⟨ret_int (by rw [Hr.out]), X.out⟩
  · have d1 : decide (ay < by') = false := decide_eq_false h1
    by_cases h2 : ay = by'
    · subst h2
      by_cases h3 : an < bn
      · have hr := HR.out
        rw [if_pos (show cmpN ⟨ay, an⟩ ⟨ay, bn⟩ < 0 from cmpN_lt.2 (.inr ⟨rfl, h3⟩))] at hr
        have Hr := Lib.hid hr
        clear hr
        go_wp2
        go_ret
        exact ⟨ret_int (by rw [Hr.out]), X.out⟩
      · have hr := HR.out
        rw [if_neg (fun h => by rcases cmpN_lt.1 h with h | h; exact h1 h; exact h3 h.2)] at hr
        have Hr := Lib.hid hr
        clear hr
        go_wp2
        go_ret
        exact ⟨ret_int (by rw [Hr.out]), X.out⟩
    · have hr := HR.out
      rw [if_neg (fun h => by rcases cmpN_lt.1 h with h | h; exact h1 h; exact h2 h.1)] at hr
      have Hr := Lib.hid hr
      have q2 : (ay == by') = false := beq_eq_false_iff_ne.2 h2
      clear hr h2
      go_wp2
      go_ret
      exact ⟨ret_int (by rw [Hr.out]), X.out⟩
theorem cmpI_neg (a b : Int) : cmpI b a = -cmpI a b := by unfold cmpI; (repeat' split) <;> omega
theorem cmpN_neg (a b : Nm) : cmpN b a = -cmpN a b := by
  unfold cmpN orI
  rw [cmpI_neg a.y b.y, cmpI_neg a.n b.n]
  by_cases h : cmpI a.y b.y = 0
  · rw [if_pos h, if_pos (by omega)]
  · rw [if_neg h, if_neg (by omega)]
/-- The names of the example's loops. -/
def thereB (a : Nm) : Bool := decide (a.y = 1 ∧ 0 ≤ a.n ∧ a.n < 3)
theorem ex_has (a : Nm) : hasB exT a = thereB a := by
  obtain ⟨y, n⟩ := a
  unfold hasB thereB
  dsimp only
  by_cases h1 : y = 1
  · subst h1
    rw [show (yi exT ((1 : Int) - 1).toNat).length = 3 from rfl, show exT.length = 6 from rfl]
    rw [Bool.eq_iff_iff]
    simp only [Bool.and_eq_true, decide_eq_true_eq]
    exact ⟨fun h => ⟨trivial, h.2.2.1, by omega⟩, fun h => ⟨by omega, by omega, h.2.1, by omega⟩⟩
  · rw [show exT.length = 6 from rfl, decide_eq_false (show ¬ (y = 1 ∧ 0 ≤ n ∧ n < 3) from fun h => h1 h.1)]
    by_cases h2 : 1 ≤ y ∧ y ≤ 6
    · have h3 : (yi exT (y - 1).toNat).length = 0 := by
        rcases (show (y - 1).toNat = 1 ∨ (y - 1).toNat = 2 ∨ (y - 1).toNat = 3 ∨ (y - 1).toNat = 4 ∨ (y - 1).toNat = 5 by omega) with h | h | h | h | h <;> rw [h] <;> rfl
      rw [h3, Bool.eq_false_iff]
      simp only [ne_eq, Bool.and_eq_true, decide_eq_true_eq]
      omega
    · rw [Bool.eq_false_iff]
      simp only [ne_eq, Bool.and_eq_true, decide_eq_true_eq]
      omega
theorem lnk_ex (n : Int) (x y : Nm) : lnk [⟨⟨1, 1⟩, ⟨1, 2⟩, n⟩] x y = n ∨ lnk [⟨⟨1, 1⟩, ⟨1, 2⟩, n⟩] x y = 0 := by
  unfold lnk
  by_cases h : cmpX ⟨⟨1, 1⟩, ⟨1, 2⟩, n⟩ ⟨x, y, 0⟩ = 0
  · rw [if_pos h]; exact .inl rfl
  · rw [if_neg h]; exact .inr rfl
/-- What Cross says of two names of the example. -/
theorem ex_cross1 (s : Int) : crossE (exF (-1) [⟨1, 1⟩, ⟨1, 2⟩] []) ⟨1, 0⟩ ⟨1, 1⟩ s = if s = 1 ∨ s = -1 then 0 else 1 := by
  by_cases h1 : s = 1
  · subst h1; decide
  · by_cases h2 : s = -1
    · subst h2; decide
    · unfold crossE
      rw [if_pos ex_chk, if_neg (by omega), if_neg (by omega)]
theorem ex_cross2 (a b : Nm) : crossE (exF (-1) [⟨1, 1⟩, ⟨1, 2⟩] []) a b 1 = if a = b then 1 else if thereB a && thereB b then 0 else 7 := by
  unfold crossE
  rw [if_pos ex_chk]
  by_cases h : a = b
  · rw [if_neg (fun k => k.2 h), if_pos h]
  · rw [if_pos ⟨.inl rfl, h⟩, if_neg h]
    rw [show (exF (-1) [⟨1, 1⟩, ⟨1, 2⟩] []).ys = exT from rfl, show (exF (-1) [⟨1, 1⟩, ⟨1, 2⟩] []).cr = [⟨⟨1, 1⟩, ⟨1, 2⟩, -1⟩] from rfl, ex_has, ex_has]
    by_cases h2 : thereB a && thereB b
    · rw [if_pos h2, if_pos (by simpa using h2)]
      have := lnk_ex (-1) (pairX a b).a (pairX a b).b
      rw [if_pos (by omega)]
    · rw [if_neg h2, if_neg (by simpa using h2)]
theorem ex_cross3 : crossE (exF 1048576 [⟨1, 1⟩, ⟨1, 2⟩] []) ⟨1, 2⟩ ⟨1, 1⟩ 1 = 3 := by decide
theorem ex_cross4 : crossE (exF 1048576 [⟨1, 1⟩, ⟨1, 2⟩] []) ⟨1, 1⟩ ⟨1, 2⟩ (-1) = 0 := by decide
theorem ex_cross5 : (crossF (exF 1048576 [⟨1, 1⟩, ⟨1, 2⟩] []) ⟨1, 1⟩ ⟨1, 2⟩ (-1)).cr = [⟨⟨1, 1⟩, ⟨1, 2⟩, 1048575⟩] := by decide
theorem ex_lnk0 : lnk (exF 1048576 [⟨1, 1⟩, ⟨1, 2⟩] []).cr (pairX ⟨1, 0⟩ ⟨1, 0⟩).a (pairX ⟨1, 0⟩ ⟨1, 0⟩).b = 0 := by decide
end Go.Proofs.YtlhkehfplcclgaaDoor
/- added: plain, and the walk; crossings. -/
namespace Go.Proofs.YtlhkehfplcclgaaDoor
set_option linter.unusedVariables false
set_option linter.unusedSimpArgs false
set_option maxRecDepth 8000
open Go Go.RowKit

instance (a b : Nm) : Decidable (ltN a b) := by unfold ltN; infer_instance
def hitX (c : Xg) (a b : Nm) : Bool := decide (c.a = a ∧ c.b = b)
def insX (c : Xg) (a b : Nm) : Bool := decide (ltN a c.a ∨ (a = c.a ∧ ltN b c.b))
def updX (c : Xg) (a b : Nm) (s : Int) : Xg := if hitX c a b = true then ⟨c.a, c.b, c.n + s⟩ else c
def adr (a b : Nm) (s : Int) : Bool → List Xg → List Xg
  | d, [] => if d = true then [] else [⟨a, b, s⟩]
  | d, c :: l => ((if (d || hitX c a b) = false ∧ insX c a b = true then [⟨a, b, s⟩] else []) ++ (if (updX c a b s).n = 0 then [] else [updX c a b s])) ++ adr a b s (d || hitX c a b || insX c a b) l
theorem cmpX_gt {c d : Xg} : 0 < cmpX c d ↔ ltX d c := by
  unfold cmpX orI ltX
  by_cases h : cmpN c.a d.a = 0
  · rw [if_pos h, cmpN_gt]
    have := cmpN_eq.1 h
    rw [this]
    exact ⟨fun k => .inr ⟨rfl, k⟩, fun k => k.elim (fun k => absurd k ltN_irr) fun k => k.2⟩
  · rw [if_neg h, cmpN_gt]
    exact ⟨fun k => .inl k, fun k => k.elim id fun k => absurd (cmpN_eq.2 k.1.symm) h⟩
theorem SrtX.tail {c : Xg} {l : List Xg} (h : SrtX (c :: l)) : SrtX l := fun i j hij hj => h (i + 1) (j + 1) (by omega) (by simp; omega)
theorem SrtX.head {c : Xg} {l : List Xg} (h : SrtX (c :: l)) : ∀ d ∈ l, ltX c d := fun d hd => by
  obtain ⟨i, hi, rfl⟩ := List.mem_iff_getElem.1 hd
  have := h 0 (i + 1) (by omega) (by simp; omega)
  rw [xi_zero, xi_succ, xi_of hi] at this; exact this
theorem adr_true {a b : Nm} {s : Int} : ∀ {l : List Xg}, (∀ c ∈ l, hitX c a b = false ∧ c.n ≠ 0) → adr a b s true l = l
  | [], _ => rfl
  | c :: l, h => by
    have h1 := h c List.mem_cons_self
    have hu : updX c a b s = c := by unfold updX; rw [h1.1]; rfl
    rw [adr, hu, if_neg h1.2, h1.1, if_neg (by simp)]
    have := adr_true (a := a) (b := b) (s := s) fun d hd => h d (List.mem_cons_of_mem _ hd)
    simpa using this
theorem adr_addX {a b : Nm} {s : Int} (hs : s ≠ 0) : ∀ {l : List Xg}, SrtX l → (∀ c ∈ l, c.n ≠ 0) → adr a b s false l = addX l a b s
  | [], _, _ => rfl
  | c :: l, h, h0 => by
    have hl := fun d hd => h0 d (List.mem_cons_of_mem c hd)
    have hh := h.head
    have hc0 := h0 c List.mem_cons_self
    rw [adr, addX]
    by_cases h1 : hitX c a b = true
    · have h1' := h1
      unfold hitX at h1'
      have h2 := of_decide_eq_true h1'
      have hu : updX c a b s = ⟨c.a, c.b, c.n + s⟩ := by unfold updX; rw [if_pos h1]
      rw [if_pos (cmpX_eq.2 h2), hu, h1, if_neg (by simp)]
      have hrest : adr a b s true l = l := adr_true fun d hd => ⟨by
        unfold hitX
        refine decide_eq_false fun e => ?_
        have h3 := hh d hd
        unfold ltX at h3
        rw [h2.1, h2.2, e.1, e.2] at h3
        rcases h3 with h3 | ⟨_, h3⟩ <;> exact ltN_irr h3, hl d hd⟩
      simp only [Bool.or_true, Bool.true_or, hrest, h2.1, h2.2]
      split <;> simp
    · have h1f : hitX c a b = false := by simpa using h1
      have h2 : ¬ cmpX c ⟨a, b, 0⟩ = 0 := fun e => h1 (decide_eq_true (cmpX_eq.1 e))
      have hu : updX c a b s = c := by unfold updX; rw [if_neg h1]
      rw [if_neg h2, hu, if_neg hc0, h1f]
      by_cases h3 : insX c a b = true
      · have h3' := h3
        unfold insX at h3'
        have h4 : ltX ⟨a, b, 0⟩ c := (of_decide_eq_true h3' : ltN a c.a ∨ (a = c.a ∧ ltN b c.b))
        rw [if_pos (cmpX_gt.2 h4), h3]
        have hrest : adr a b s true l = l := adr_true fun d hd => ⟨by
          unfold hitX
          refine decide_eq_false fun e => ?_
          have h5 := ltX_trans h4 (hh d hd)
          unfold ltX at h5
          rw [e.1, e.2] at h5
          rcases h5 with h5 | ⟨_, h5⟩ <;> exact ltN_irr h5, hl d hd⟩
        simp [hrest]
      · have h3f : insX c a b = false := by simpa using h3
        rw [if_neg (fun e => h3 (decide_eq_true (show ltN a c.a ∨ (a = c.a ∧ ltN b c.b) from (cmpX_gt.1 e : ltX ⟨a, b, 0⟩ c)))), h3f]
        have ih := adr_addX (a := a) (b := b) hs h.tail hl
        simp [ih]
theorem xi_drop {l : List Xg} {k : Nat} (h : k < l.length) : l.drop k = xi l k :: l.drop (k + 1) := by
  rw [List.drop_eq_getElem_cons h, xi_of h]
/-- The two steps of a round. -/
theorem adr_step {a b : Nm} {s : Int} {d : Bool} {l : List Xg} {k : Nat} (h : k < l.length) :
    adr a b s d (l.drop k) = ((if (d || hitX (xi l k) a b) = false ∧ insX (xi l k) a b = true then [⟨a, b, s⟩] else []) ++ (if (updX (xi l k) a b s).n = 0 then [] else [updX (xi l k) a b s])) ++ adr a b s (d || hitX (xi l k) a b || insX (xi l k) a b) (l.drop (k + 1)) := by
  rw [xi_drop h, adr]
set_option maxHeartbeats 4000000 in
theorem Crossings_calls (u v : Value) (c d : Nat) (l : List Xg) (w : World) (h : XL w u c l) (k : XL w v d l) :
    Calls Tryd.prog 26 #[u, v] w fun e w' => e = .returned (.int .i64 1) ∧ Ext w w' := by
  obtain ⟨ua, n, rfl, hn, hnc, hc9, hu⟩ := h.open
  obtain ⟨va, m, rfl, hm, hmc, hd9, hv⟩ := k.open
  obtain rfl : m = n := by omega
  have HU := Lib.hid hu; have HV := Lib.hid hv; have X := Lib.hid (Ext.refl w)
  clear hu hv hn hm h k
  have q0 : ((m : Int) == m) = true := beq_self_eq_true _
  go_enter Tryd.func26, Tryd.ntmps26
  go_wp2
  go_loopg [5] m (fun g i wr => ∃ k : Nat, g + k = m ∧ i = .int .i64 k ∧ Hid (Ext w wr))
  case atStart => exact ⟨0, by omega, rfl, X⟩
  case round =>
    obtain ⟨k, hk, rfl, G⟩ := hrel
    by_cases hlt : k < m
    · have f1 : (k : Int) < m := by omega
      have f2 : (0 : Int) ≤ k := by omega
      obtain ⟨b1, o1, rfl, hA⟩ := HU.out k hlt
      obtain ⟨b2, o2, rfl, hB⟩ := HV.out k hlt
      obtain ⟨x, hx⟩ : ∃ x, x = xi l k := ⟨_, rfl⟩
      rw [← hx] at hA hB
      obtain ⟨q1, q2, q3, q4, q5⟩ := hA.ext G.out
      obtain ⟨p1, p2, p3, p4, p5⟩ := hB.ext G.out
      clear hA hB hx
      go_wp2
      go_quiet (fail)
      go_wp2
      go_roundg (m - (k + 1))
      case measure => omega
      case rel => exact ⟨k + 1, by omega, by go_num, Lib.hid (G.out.trans (by (focus (repeat (first | (with_reducible exact Ext.refl _) | (with_reducible apply Ext.drew) | (with_reducible apply Ext.drewN) | (with_reducible apply Ext.alloc))))))⟩
    · have f1 : ¬ (k : Int) < m := by omega
      go_wp2
      go_ret
      exact ⟨rfl, G.out⟩
end Go.Proofs.YtlhkehfplcclgaaDoor
/- The fabric of plain data: what Of makes of it. No program in sight. -/
namespace Go.Proofs.YtlhkehfplcclgaaDoor
set_option linter.unusedVariables false
set_option linter.unusedSimpArgs false
open Go Go.RowKit

/-! ### Sorted lists of names -/
def insN (a : Nm) : List Nm → List Nm
  | [] => [a]
  | b :: l => if ltN b a then b :: insN a l else a :: b :: l
def srt : List Nm → List Nm
  | [] => []
  | a :: l => insN a (srt l)
theorem insN_perm (a : Nm) : ∀ l, (insN a l).Perm (a :: l)
  | [] => List.Perm.refl _
  | b :: l => by
    unfold insN; split
    · exact (List.Perm.cons _ (insN_perm a l)).trans (List.Perm.swap _ _ _)
    · exact List.Perm.refl _
theorem srt_perm : ∀ l, (srt l).Perm l
  | [] => List.Perm.refl _
  | a :: l => (insN_perm a (srt l)).trans (List.Perm.cons _ (srt_perm l))
theorem srt_len (l : List Nm) : (srt l).length = l.length := (srt_perm l).length_eq
theorem insN_pw {a : Nm} : ∀ {l}, List.Pairwise (fun p q => ¬ ltN q p) l → List.Pairwise (fun p q => ¬ ltN q p) (insN a l)
  | [], _ => by simp [insN]
  | b :: l, h => by
    obtain ⟨h1, h2⟩ := List.pairwise_cons.1 h
    unfold insN; split
    · rename_i hlt
      refine List.pairwise_cons.2 ⟨fun q hq => ?_, insN_pw h2⟩
      rcases List.mem_cons.1 ((insN_perm a l).mem_iff.1 hq) with rfl | hq
      · exact fun e => ltN_irr (ltN_trans hlt e)
      · exact h1 q hq
    · rename_i hnlt
      refine List.pairwise_cons.2 ⟨fun q hq => ?_, h⟩
      rcases List.mem_cons.1 hq with rfl | hq
      · exact hnlt
      · exact not_lt_trans hnlt (h1 q hq)
theorem srt_pw : ∀ l, List.Pairwise (fun p q => ¬ ltN q p) (srt l)
  | [] => List.Pairwise.nil
  | a :: l => insN_pw (srt_pw l)
theorem pw_uniq : ∀ {l m : List Nm}, l.Perm m → List.Pairwise (fun p q => ¬ ltN q p) l → List.Pairwise (fun p q => ¬ ltN q p) m → l = m
  | [], m, h, _, _ => h.nil_eq
  | a :: l, m, h, hl, hm => by
    cases m with
    | nil => exact absurd h.length_eq (by simp)
    | cons b m =>
      obtain ⟨h1, h2⟩ := List.pairwise_cons.1 hl
      obtain ⟨h3, h4⟩ := List.pairwise_cons.1 hm
      have e : a = b := by
        rcases List.mem_cons.1 (h.mem_iff.1 List.mem_cons_self) with e | ha
        · exact e
        · rcases List.mem_cons.1 (h.mem_iff.2 List.mem_cons_self) with e | hb
          · exact e.symm
          · rcases ltN_tot a b with k | k | k
            · exact absurd k (h3 a ha)
            · exact k
            · exact absurd k (h1 b hb)
      subst e
      rw [pw_uniq h.cons_inv h2 h4]
theorem ni_pw {l : List Nm} (h : ∀ p q, p < q → q < l.length → ¬ ltN (ni l q) (ni l p)) : List.Pairwise (fun p q => ¬ ltN q p) l :=
  List.pairwise_iff_getElem.2 fun i j hi hj hij => by
    have := h i j hij hj
    rwa [ni_of hi, ni_of hj] at this
theorem pw_ni {l : List Nm} (h : List.Pairwise (fun p q => ¬ ltN q p) l) {p q : Nat} (h1 : p < q) (h2 : q < l.length) : ¬ ltN (ni l q) (ni l p) := by
  have := List.pairwise_iff_getElem.1 h p q (by omega) h2 h1
  rw [ni_of h2, ni_of (show p < l.length by omega)]; exact this
/-- Whatever is sorted is srt. -/
theorem srt_eq {l r : List Nm} (hp : r.Perm l) (h : ∀ p q, p < q → q < r.length → ¬ ltN (ni r q) (ni r p)) : r = srt l := pw_uniq (hp.trans (srt_perm l).symm) (ni_pw h) (srt_pw l)
theorem srtB_of {l : List Nm} (hp : List.Pairwise (fun p q => ¬ ltN q p) l) (hn : l.Nodup) : ∀ i, i < l.length → srtB l i = true := fun i hi => by
  unfold srtB
  by_cases h0 : i = 0
  · rw [decide_eq_true h0]; rfl
  · have h1 := pw_ni hp (p := i - 1) (q := i) (by omega) hi
    have h2 : ni l (i - 1) ≠ ni l i := by
      rw [ni_of (by omega), ni_of hi]
      intro e
      exact List.pairwise_iff_getElem.1 hn (i - 1) i (by omega) hi (by omega) e
    rcases ltN_tot (ni l (i - 1)) (ni l i) with k | k | k
    · rw [decide_eq_true (cmpN_lt.2 k), Bool.or_true]
    · exact absurd k h2
    · exact absurd k h1

/-! ### Sums of crossings -/
theorem SrtX_pw {l : List Xg} : SrtX l ↔ List.Pairwise ltX l := by
  rw [List.pairwise_iff_getElem]
  constructor
  · intro h i j hi hj hij
    have := h i j hij hj
    rwa [xi_of hi, xi_of hj] at this
  · intro h i j hij hj
    have := h i j (by omega) hj hij
    rwa [xi_of (by omega), xi_of hj]
theorem addX_all {P : Nm → Nm → Prop} {a b : Nm} {s : Int} : ∀ {l : List Xg}, (∀ c ∈ l, P c.a c.b) → P a b → ∀ c ∈ addX l a b s, P c.a c.b
  | [], _, h, c, hc => by
    rw [addX, List.mem_singleton] at hc; rw [hc]; exact h
  | d :: l, hl, h, c, hc => by
    have hl' := fun e he => hl e (List.mem_cons_of_mem d he)
    rw [addX] at hc
    split at hc
    · split at hc
      · exact hl' c hc
      · rcases List.mem_cons.1 hc with rfl | hc
        · exact h
        · exact hl' c hc
    · split at hc
      · rcases List.mem_cons.1 hc with rfl | hc
        · exact h
        · exact hl c hc
      · rcases List.mem_cons.1 hc with rfl | hc
        · exact hl _ List.mem_cons_self
        · exact addX_all hl' h c hc
theorem addX_bd {a b : Nm} {s k : Int} (hs : s ≠ 0 ∧ -1 ≤ s ∧ s ≤ 1) (hk : 0 ≤ k) : ∀ {l : List Xg}, (∀ c ∈ l, c.n ≠ 0 ∧ -k ≤ c.n ∧ c.n ≤ k) → ∀ c ∈ addX l a b s, c.n ≠ 0 ∧ -(k + 1) ≤ c.n ∧ c.n ≤ k + 1
  | [], _, c, hc => by
    rw [addX, List.mem_singleton] at hc; rw [hc]; dsimp only; omega
  | d :: l, hl, c, hc => by
    have hl' := fun e he => hl e (List.mem_cons_of_mem d he)
    have hd := hl d List.mem_cons_self
    rw [addX] at hc
    split at hc
    · split at hc
      · have := hl' c hc; omega
      · rename_i h0
        rcases List.mem_cons.1 hc with rfl | hc
        · dsimp only; omega
        · have := hl' c hc; omega
    · split at hc
      · rcases List.mem_cons.1 hc with rfl | hc
        · dsimp only; omega
        · have := hl c hc; omega
      · rcases List.mem_cons.1 hc with rfl | hc
        · omega
        · exact addX_bd hs hk hl' c hc
theorem addX_len {a b : Nm} {s : Int} : ∀ {l : List Xg}, (addX l a b s).length ≤ l.length + 1
  | [] => by simp [addX]
  | d :: l => by
    rw [addX]
    have := addX_len (a := a) (b := b) (s := s) (l := l)
    split
    · split <;> simp; omega
    · split <;> simp; omega
theorem addX_srt {a b : Nm} {s : Int} : ∀ {l : List Xg}, List.Pairwise ltX l → List.Pairwise ltX (addX l a b s)
  | [], _ => by simp [addX]
  | d :: l, h => by
    obtain ⟨h1, h2⟩ := List.pairwise_cons.1 h
    rw [addX]
    split
    · rename_i he
      have he := cmpX_eq.1 he
      split
      · exact h2
      · refine List.pairwise_cons.2 ⟨fun q hq => ?_, h2⟩
        have := h1 q hq
        unfold ltX at this ⊢
        rw [he.1, he.2] at this; exact this
    · split
      · rename_i hne hgt
        have hgt := cmpX_gt.1 hgt
        refine List.pairwise_cons.2 ⟨fun q hq => ?_, h⟩
        have : ltX ⟨a, b, 0⟩ q := by
          rcases List.mem_cons.1 hq with rfl | hq
          · exact hgt
          · exact ltX_trans hgt (h1 q hq)
        exact this
      · rename_i hne hgt
        have hlt : ltX d ⟨a, b, 0⟩ := cmpX_lt.1 (by omega)
        refine List.pairwise_cons.2 ⟨fun q hq => ?_, addX_srt h2⟩
        refine addX_all (P := fun x y => ltX d ⟨x, y, 0⟩) (fun c hc => ?_) hlt q hq
        exact h1 c hc
theorem pairX_srt {a b : Nm} (h : a ≠ b) : cmpN (pairX a b).a (pairX a b).b < 0 := by
  unfold pairX
  split
  · rename_i k; exact cmpN_lt.2 (cmpN_gt.1 k)
  · rename_i k
    have : cmpN a b ≠ 0 := fun e => h (cmpN_eq.1 e)
    dsimp only; omega
theorem pairX_mem {a b : Nm} {P : Nm → Prop} (ha : P a) (hb : P b) : P (pairX a b).a ∧ P (pairX a b).b := by
  unfold pairX; split
  · exact ⟨hb, ha⟩
  · exact ⟨ha, hb⟩
/-- Crossings that are as they should be; no sum is greater than k. -/
structure XOk (t : Tab) (k : Int) (l : List Xg) : Prop where
  s : List.Pairwise ltX l
  m : ∀ c ∈ l, hasB t c.a = true ∧ hasB t c.b = true ∧ cmpN c.a c.b < 0
  n : ∀ c ∈ l, c.n ≠ 0 ∧ -k ≤ c.n ∧ c.n ≤ k
theorem XOk.nil (t : Tab) : XOk t 0 [] := ⟨List.Pairwise.nil, fun c h => (by cases h), fun c h => (by cases h)⟩
theorem XOk.mono {t : Tab} {k k' : Int} {l : List Xg} (h : XOk t k l) (hk : k ≤ k') : XOk t k' l := ⟨h.s, h.m, fun c hc => by have := h.n c hc; omega⟩
theorem XOk.add {t : Tab} {k : Int} {l : List Xg} (h : XOk t k l) (hk : 0 ≤ k) {a b : Nm} (ha : hasB t a = true) (hb : hasB t b = true) (hab : cmpN a b < 0) {s : Int} (hs : s ≠ 0 ∧ -1 ≤ s ∧ s ≤ 1) : XOk t (k + 1) (addX l a b s) :=
  ⟨addX_srt h.s, addX_all (P := fun x y => hasB t x = true ∧ hasB t y = true ∧ cmpN x y < 0) h.m ⟨ha, hb, hab⟩, addX_bd hs hk h.n⟩
theorem XOk.chk {t : Tab} {k : Int} {l : List Xg} (h : XOk t k l) (hk : k ≤ 1048576) : cchk t l = 0 := cchk_ok fun i hi => by
  have h1 := h.m _ (xi_mem hi)
  have h2 := h.n _ (xi_mem hi)
  unfold crB
  rw [h1.1, h1.2.1, decide_eq_true h1.2.2, decide_eq_true (show -1048576 ≤ (xi l i).n by omega), decide_eq_true (show (xi l i).n ≤ 1048576 by omega), decide_eq_true h2.1]
  simp only [Bool.true_and, Bool.or_eq_true, decide_eq_true_eq]
  by_cases h0 : i = 0
  · exact .inl h0
  · exact .inr (cmpX_lt.2 (SrtX_pw.2 h.s (i - 1) i (by omega) hi))
theorem nodup_len {α : Type} [DecidableEq α] : ∀ {l m : List α}, l.Nodup → (∀ a ∈ l, a ∈ m) → l.length ≤ m.length
  | [], _, _, _ => Nat.zero_le _
  | a :: l, m, h, hm => by
    obtain ⟨h1, h2⟩ := List.nodup_cons.1 h
    have ha := hm a List.mem_cons_self
    have := nodup_len (l := l) (m := m.erase a) h2 fun b hb => (List.mem_erase_of_ne (fun (e : b = a) => h1 (e ▸ hb))).2 (hm b (List.mem_cons_of_mem _ hb))
    rw [List.length_erase_of_mem ha] at this
    have h3 : 0 < m.length := List.length_pos_iff.2 (List.ne_nil_of_mem ha)
    rw [List.length_cons]; omega
theorem srt_bd {l : List Xg} {m : List Nm} (h : List.Pairwise ltX l) (hm : ∀ c ∈ l, c.a ∈ m ∧ c.b ∈ m) : l.length ≤ m.length * m.length := by
  have h1 : (l.map fun c => (c.a, c.b)).Nodup := by
    unfold List.Nodup
    rw [List.pairwise_map]
    refine h.imp fun {a b} hab e => ?_
    have e := Prod.mk.inj e
    unfold ltX at hab
    rw [e.1, e.2] at hab
    rcases hab with k | ⟨_, k⟩ <;> exact ltN_irr k
  have h2 := nodup_len (m := (m.map fun a => m.map fun b => (a, b)).flatten) h1 fun p hp => by
    obtain ⟨c, hc, rfl⟩ := List.mem_map.1 hp
    have := hm c hc
    exact List.mem_flatten.2 ⟨_, List.mem_map.2 ⟨c.a, this.1, rfl⟩, List.mem_map.2 ⟨c.b, this.2, rfl⟩⟩
  rw [List.length_map] at h2
  refine Nat.le_trans h2 (Nat.le_of_eq ?_)
  have : ∀ k : List Nm, ((k.map fun a => m.map fun b => (a, b)).flatten).length = k.length * m.length := fun k => by
    induction k with
    | nil => simp
    | cons a k ih => simp only [List.map_cons, List.flatten_cons, List.length_append, List.length_map, ih, List.length_cons]; rw [Nat.succ_mul]; omega
  exact this m

/-! ### The fabric -/
structure FD where
  t : List LD
  fal : Int
  held : List Int
  cross : List (Int × Int × Int)
def thrAt (t : Tab) (a : Nm) : List Nm := (li (yi t (a.y - 1).toNat) a.n.toNat).thr
def freeB (t : Tab) (made : List Nm) (a : Nm) : Bool := made.all fun b => (thrAt t b).all fun c => decide (c ≠ a)
def fellB (fal : Int) (i : Nat) : Bool := decide (fal.toNat / 2 ^ (i % 64) % 2 = 1)
def insAt (l : List Nm) (k : Nat) (a : Nm) : List Nm := l.take k ++ [a] ++ l.drop k
def heldAt (h : List Int) (n i : Nat) : Nat := if i < h.length then (gi h i).toNat % (n + 1) else 0
def stepH (x : FD) (t : Tab) (made : List Nm) (s : List Nm × List Nm) (i : Nat) : List Nm × List Nm :=
  if freeB t made (ni made i) = true then
    if fellB x.fal i = true then (s.1, s.2 ++ [ni made i]) else (insAt s.1 (heldAt x.held s.1.length i) (ni made i), s.2)
  else s
def runH (x : FD) (t : Tab) (made : List Nm) (k : Nat) : List Nm × List Nm := (List.range k).foldl (stepH x t made) ([], [])
theorem runH_succ (x : FD) (t : Tab) (made : List Nm) (k : Nat) : runH x t made (k + 1) = stepH x t made (runH x t made k) k := by
  unfold runH; rw [List.range_succ, List.foldl_append]; rfl
def sgn (n : Int) : Int := 1 - 2 * (n % 2)
def stepC (made : List Nm) (cr : List Xg) (c : Int × Int × Int) : List Xg :=
  if ni made (c.1.toNat % made.length) = ni made (c.2.1.toNat % made.length) then cr
  else addX cr (pairX (ni made (c.1.toNat % made.length)) (ni made (c.2.1.toNat % made.length))).a (pairX (ni made (c.1.toNat % made.length)) (ni made (c.2.1.toNat % made.length))).b (sgn c.2.2)
def ofC (made : List Nm) (l : List (Int × Int × Int)) : List Xg := if 1 < made.length then l.foldl (stepC made) [] else []
def ofF (x : FD) : Fab := ⟨(ofT x.t).t, ofC (ofT x.t).made x.cross, (runH x (ofT x.t).t (ofT x.t).made (ofT x.t).made.length).1, srt (runH x (ofT x.t).t (ofT x.t).made (ofT x.t).made.length).2⟩
theorem sgn_bd (n : Int) : sgn n ≠ 0 ∧ -1 ≤ sgn n ∧ sgn n ≤ 1 := by unfold sgn; omega
theorem insAt_perm (l : List Nm) (k : Nat) (a : Nm) : (insAt l k a).Perm (a :: l) := by
  unfold insAt
  have : l = l.take k ++ l.drop k := (List.take_append_drop k l).symm
  conv => rhs; rw [this]
  rw [List.append_assoc]
  exact List.perm_middle
theorem runH_perm (x : FD) (t : Tab) (made : List Nm) : ∀ k, k ≤ made.length → ((runH x t made k).1 ++ (runH x t made k).2).Perm ((made.take k).filter (freeB t made))
  | 0, _ => by simp [runH]
  | k + 1, hk => by
    have ih := runH_perm x t made k (by omega)
    rw [runH_succ, List.take_succ_eq_append_getElem (by omega), List.filter_append]
    unfold stepH
    rw [ni_of (by omega)]
    by_cases hf : freeB t made made[k] = true
    · rw [if_pos hf]
      have e : [made[k]].filter (freeB t made) = [made[k]] := by simp [hf]
      rw [e]
      have h1 : (made[k] :: ((runH x t made k).1 ++ (runH x t made k).2)).Perm ((made.take k).filter (freeB t made) ++ [made[k]]) := (List.Perm.cons _ ih).trans (List.perm_append_singleton _ _).symm
      split
      · refine List.Perm.trans ?_ h1
        dsimp only
        rw [← List.append_assoc]
        exact List.perm_append_singleton _ _
      · refine List.Perm.trans ?_ h1
        dsimp only
        rw [← List.cons_append]
        exact List.Perm.append_right _ (insAt_perm _ _ _)
    · rw [if_neg hf]
      have e : [made[k]].filter (freeB t made) = [] := by simp [hf]
      rw [e, List.append_nil]; exact ih
theorem mem_thrT {t : Tab} {a : Nm} : a ∈ thrT t ↔ ∃ y n, y < t.length ∧ n < (yi t y).length ∧ a ∈ (li (yi t y) n).thr := by
  unfold thrT thrR
  constructor
  · intro h
    obtain ⟨q, hq, h⟩ := List.mem_flatten.1 h
    obtain ⟨r, hr, rfl⟩ := List.mem_map.1 hq
    obtain ⟨q, hq, h⟩ := List.mem_flatten.1 h
    obtain ⟨k, hk, rfl⟩ := List.mem_map.1 hq
    obtain ⟨y, hy, rfl⟩ := List.mem_iff_getElem.1 hr
    obtain ⟨n, hn, rfl⟩ := List.mem_iff_getElem.1 hk
    rw [← yi_of hy] at hn
    refine ⟨y, n, hy, hn, ?_⟩
    rw [li_of hn]
    have e : yi t y = t[y] := yi_of hy
    simp only [e]; exact h
  · rintro ⟨y, n, hy, hn, h⟩
    exact List.mem_flatten.2 ⟨_, List.mem_map.2 ⟨yi t y, yi_mem hy, rfl⟩, List.mem_flatten.2 ⟨_, List.mem_map.2 ⟨li (yi t y) n, li_mem hn, rfl⟩, h⟩⟩
theorem freeB_iff {s : TS} (h : TInv s) (a : Nm) : freeB s.t s.made a = true ↔ a ∉ thrT s.t := by
  unfold freeB
  rw [List.all_eq_true]
  constructor
  · intro h1 hm
    obtain ⟨y, n, hy, hn, ha⟩ := mem_thrT.1 hm
    have h2 := h1 ⟨(y : Int) + 1, (n : Nat)⟩ ((h.cov _).1 (hasB_nm.2 ⟨hy, hn⟩))
    have h3 := List.all_eq_true.1 h2 a (by unfold thrAt; dsimp only; rw [show ((y : Int) + 1 - 1).toNat = y by omega]; exact ha)
    exact of_decide_eq_true h3 rfl
  · intro h1 b hb
    rw [List.all_eq_true]
    intro c hc
    refine decide_eq_true fun e => h1 ?_
    subst e
    obtain ⟨y, n, rfl, hy, hn⟩ := hasB_iff ((h.cov b).2 hb)
    unfold thrAt at hc
    dsimp only at hc
    rw [show ((y : Int) + 1 - 1).toNat = y by omega] at hc
    exact mem_thrT.2 ⟨y, n, hy, hn, hc⟩
theorem ofC_go {t : Tab} {made : List Nm} (h : ∀ a ∈ made, hasB t a = true) (h1 : 1 < made.length) : ∀ (l : List (Int × Int × Int)) (k : Int) (cr : List Xg), 0 ≤ k → XOk t k cr → XOk t (k + l.length) (l.foldl (stepC made) cr)
  | [], k, cr, _, hx => by simpa using hx
  | c :: l, k, cr, hk, hx => by
    have hm : ∀ n : Nat, hasB t (ni made (n % made.length)) = true := fun n => h _ (ni_mem (Nat.mod_lt _ (by omega)))
    have h2 : XOk t (k + 1) (stepC made cr c) := by
      unfold stepC
      split
      · exact hx.mono (by omega)
      · rename_i hne
        have h3 := pairX_mem (P := fun a => hasB t a = true) (hm c.1.toNat) (hm c.2.1.toNat)
        exact hx.add hk h3.1 h3.2 (pairX_srt hne) (sgn_bd _)
    have := ofC_go h h1 l (k + 1) _ (by omega) h2
    rw [List.foldl_cons, List.length_cons]
    rw [show k + ((l.length + 1 : Nat) : Int) = k + 1 + l.length by omega]
    exact this
theorem ofC_ok {t : Tab} {made : List Nm} (h : ∀ a ∈ made, hasB t a = true) (l : List (Int × Int × Int)) : XOk t l.length (ofC made l) := by
  unfold ofC
  split
  · have := ofC_go h (by assumption) l 0 [] (Int.le_refl _) (XOk.nil t)
    simpa using this
  · exact (XOk.nil t).mono (by omega)
theorem ofC_len (made : List Nm) : ∀ (l : List (Int × Int × Int)) (cr : List Xg), (l.foldl (stepC made) cr).length ≤ cr.length + l.length
  | [], cr => Nat.le_refl _
  | c :: l, cr => by
    have h1 := ofC_len made l (stepC made cr c)
    have h2 : (stepC made cr c).length ≤ cr.length + 1 := by
      unfold stepC; split
      · omega
      · exact addX_len
    rw [List.foldl_cons, List.length_cons]; omega
/-- What is known of the fabric of plain data. -/
structure FOk (x : FD) : Prop where
  inv : TInv (ofT x.t)
  m60 : (ofT x.t).made.length ≤ 60
  ok : OKT (ofF x).ys
  perm : ((ofF x).held ++ (ofF x).fallen).Perm ((ofT x.t).made.filter (freeB (ofT x.t).t (ofT x.t).made))
  hm : ∀ a ∈ (ofF x).held ++ (ofF x).fallen, a ∈ (ofT x.t).made
  nd : ((ofF x).held ++ (ofF x).fallen).Nodup
  len : (ofF x).held.length + (ofF x).fallen.length ≤ (ofT x.t).made.length
  cr : XOk (ofT x.t).t x.cross.length (ofF x).cr
  p : pchk (ofF x) = 0
theorem fok (x : FD) : FOk x := by
  obtain ⟨hi, hl⟩ := ofT_inv x.t
  have hm60 : (ofT x.t).made.length ≤ 60 := by rw [hl, List.length_take]; omega
  have hp : ((ofF x).held ++ (ofF x).fallen).Perm ((ofT x.t).made.filter (freeB (ofT x.t).t (ofT x.t).made)) := by
    have h1 := runH_perm x (ofT x.t).t (ofT x.t).made (ofT x.t).made.length (Nat.le_refl _)
    rw [List.take_length] at h1
    exact (List.Perm.append_left _ (srt_perm _)).trans h1
  have hnd : ((ofF x).held ++ (ofF x).fallen).Nodup := hp.nodup_iff.2 (hi.nd.filter _)
  have hm : ∀ a ∈ (ofF x).held ++ (ofF x).fallen, a ∈ (ofT x.t).made ∧ a ∉ thrT (ofT x.t).t := fun a ha => by
    have h1 := List.mem_filter.1 (hp.mem_iff.1 ha)
    exact ⟨h1.1, (freeB_iff hi a).1 h1.2⟩
  refine ⟨hi, hm60, hi.ok hm60, hp, fun a ha => (hm a ha).1, hnd, ?_, ofC_ok (fun a ha => (hi.cov a).2 ha) _, ?_⟩
  · have h1 := hp.length_eq
    rw [List.length_append] at h1
    rw [h1]; exact List.length_filter_le _ _
  · refine pchk0 (fun a ha => (hi.cov a).2 (hm a ha).1) (srtB_of (srt_pw _) (List.nodup_append.1 hnd).2.1) fun y hy n hn => ?_
    unfold onceB tms addN cntN
    rw [show (ofF x).ys = (ofT x.t).t from rfl] at hy hn ⊢
    refine decide_eq_true ?_
    have hmd : (⟨(y : Int) + 1, (n : Nat)⟩ : Nm) ∈ (ofT x.t).made := (hi.cov _).1 (hasB_nm.2 ⟨hy, hn⟩)
    obtain ⟨a, ha⟩ : ∃ a : Nm, a = ⟨(y : Int) + 1, (n : Nat)⟩ := ⟨_, rfl⟩
    rw [← ha] at hmd ⊢
    by_cases hf : a ∈ thrT (ofT x.t).t
    · have h0 : a ∉ (ofF x).held ++ (ofF x).fallen := fun e => (hm a e).2 hf
      rw [List.count_append, List.count_eq_zero_of_not_mem h0, hi.tnd.count, if_pos hf]; rfl
    · have h1 : a ∈ (ofF x).held ++ (ofF x).fallen := hp.mem_iff.2 (List.mem_filter.2 ⟨hmd, (freeB_iff hi a).2 hf⟩)
      rw [List.count_append, List.count_eq_zero_of_not_mem hf, hnd.count, if_pos h1]; rfl
theorem FOk.chk {x : FD} (h : FOk x) (hx : x.cross.length ≤ 1048576) : fchk (ofF x) = 0 := by
  unfold fchk
  have h1 : lchk (ofF x).ys = 0 := by
    unfold lchk
    rw [if_pos (show (ofF x).ys.length = 6 from h.inv.l6), if_pos (show newB (ofF x).ys = true from h.inv.newT)]
  have h2 : cchk (ofF x).ys (ofF x).cr = 0 := h.cr.chk (by omega)
  rw [if_pos h1, if_pos h2]; exact h.p
theorem FOk.fin {x : FD} (h : FOk x) (hx : x.cross.length ≤ 1000) : FIn (ofF x) := by
  have hin : ∀ a, a ∈ (ofT x.t).made → a.In := fun a ha => nm_in h.inv.l6 (by rw [h.inv.cnt]; have := h.m60; omega) ((h.inv.cov a).2 ha)
  have hb : ∀ a, hasB (ofT x.t).t a = true → a.In := fun a ha => hin a ((h.inv.cov a).1 ha)
  have hl := h.len
  have h60 := h.m60
  refine ⟨fun a ha => hin a (h.hm a (List.mem_append_left _ ha)), fun a ha => hin a (h.hm a (List.mem_append_right _ ha)), fun c hc => ?_, fun r hr l hl => ?_, by omega, by omega, ?_, ?_, fun r hr => ?_, fun r hr l hl => ?_⟩
  · have h1 := h.cr.m c hc
    have h2 := h.cr.n c hc
    exact ⟨hb _ h1.1, hb _ h1.2.1, by omega, by omega⟩
  · have h1 := (h.inv.ri r hr l hl).1
    exact ⟨by rcases h1.bed with e | e <;> rw [e] <;> decide, fun a ha => (h1.i1 a ha).1, fun p hp => (h1.i2 p hp).1⟩
  · have h1 : (ofF x).cr.length ≤ x.cross.length := by
      show (ofC _ _).length ≤ _
      unfold ofC; split
      · have := ofC_len (ofT x.t).made x.cross []
        simpa using this
      · simp
    omega
  · rw [show (ofF x).ys.length = 6 from h.inv.l6]; decide
  · exact h.ok.r.n5 r hr
  · have h1 := h.inv.ri r hr l hl
    have h2 := h1.1.n1
    omega
end Go.Proofs.YtlhkehfplcclgaaDoor
