/- lives: the examples of the chapter. -/
import Derived.Test.YtlhkehfplcclgaaDoorKj
import Derived.Test.YtlhkehfplcclgaaDoorLibd
namespace Go.Proofs.YtlhkehfplcclgaaDoor
set_option linter.unusedVariables false
set_option linter.unusedSimpArgs false
set_option maxRecDepth 8000
open Go Go.RowKit Go.Sort

/-- The example in a box, and boxes of three names. -/
structure LS (w : World) (t0 r0 u0 p0 c0 fb : Nat) (hv fv : Value) : Prop where
  m : ExM w t0 r0 u0 p0 c0 (-1)
  b : B4 w fb (.slice (some ⟨t0, 0, none⟩) 6 6) (.slice (some ⟨c0, 0, none⟩) 1 1) hv fv 35
  a1 : BN w (fb + 1) ⟨1, 0⟩
  a2 : BN w (fb + 1 + 1) ⟨1, 1⟩
  a3 : BN w (fb + 1 + 1 + 1) ⟨1, 2⟩
theorem LS.ext {w w' : World} {t0 r0 u0 p0 c0 fb : Nat} {hv fv : Value} (h : LS w t0 r0 u0 p0 c0 fb hv fv) (x : Ext w w') : LS w' t0 r0 u0 p0 c0 fb hv fv := ⟨h.m.ext x, h.b.ext x, h.a1.ext x, h.a2.ext x, h.a3.ext x⟩
theorem LS.set {w : World} {t0 r0 u0 p0 c0 fb : Nat} {hv fv hv' fv' : Value} (h : LS w t0 r0 u0 p0 c0 fb hv fv) {o : Nat} {v : Value} (hb : B4 (w.setCell ⟨fb, o, none⟩ v) fb (.slice (some ⟨t0, 0, none⟩) 6 6) (.slice (some ⟨c0, 0, none⟩) 1 1) hv' fv' 35) : LS (w.setCell ⟨fb, o, none⟩ v) t0 r0 u0 p0 c0 fb hv' fv' := by
  have hfb := h.b
  unfold B4 at hfb
  have hne : ∀ {g : Nat} {o : Array Value} {t : TypeId}, w.heap[g]? = some (.cells o t (0, 0)) → t ≠ 35 → g ≠ fb := fun hg ht e => by
    rw [e, hfb] at hg
    cases hg
    exact ht rfl
  have hs : ∀ {g : Nat} {o' : Obj}, g ≠ fb → w.heap[g]? = some o' → (w.setCell ⟨fb, o, none⟩ v).heap[g]? = some o' := fun hg h1 => by rw [Below.heap_setCell _ _ _ _ hg]; exact h1
  exact ⟨⟨hs (hne h.m.t (by decide)) h.m.t, hs (hne h.m.r (by decide)) h.m.r, hs (hne h.m.u (by decide)) h.m.u, hs (hne h.m.p (by decide)) h.m.p, hs (hne h.m.c (by decide)) h.m.c⟩, hb, hs (hne h.a1 (by decide)) h.a1, hs (hne h.a2 (by decide)) h.a2, hs (hne h.a3 (by decide)) h.a3⟩
theorem LS.set2 {w : World} {t0 r0 u0 p0 c0 fb : Nat} {hv fv : Value} (h : LS w t0 r0 u0 p0 c0 fb hv fv) (v : Value) : LS (w.setCell ⟨fb, 2, none⟩ v) t0 r0 u0 p0 c0 fb v fv := h.set (by
  have := h.b; unfold B4 at this ⊢
  simp [World.setCell, Array.getElem?_modify, this])
theorem LS.set3 {w : World} {t0 r0 u0 p0 c0 fb : Nat} {hv fv : Value} (h : LS w t0 r0 u0 p0 c0 fb hv fv) (v : Value) : LS (w.setCell ⟨fb, 3, none⟩ v) t0 r0 u0 p0 c0 fb hv v := h.set (by
  have := h.b; unfold B4 at this ⊢
  simp [World.setCell, Array.getElem?_modify, this])
theorem nl_set {w : World} {g fb o n : Nat} {cs : Array Value} {l : List Nm} {v : Value} (h : w.heap[g]? = some (.cells cs 41 (0, 0))) (hc : cs.toList = (l.map Nm.cs).flatten) (hn : n = l.length) (hg : g ≠ fb) (h9 : n ≤ 1000) : NL (w.setCell ⟨fb, o, none⟩ v) (.slice (some ⟨g, 0, none⟩) n n) n l :=
  CK.of_blk (by rw [Below.heap_setCell _ _ _ _ hg]; exact h) (Ks.nm l) (by rw [List.length_map]; exact hn) (Nat.le_refl _) (by omega) (by rw [hc, List.take_of_length_le (by rw [(Ks.nm l).len, List.length_map, hn]; exact Nat.le_refl _)])
theorem nl_held {w : World} {F o n hb : Nat} {v : Value} {cs : Array Value} {l : List Nm} (hh : hb = w.heap.size) (hc : cs.toList = (l.map Nm.cs).flatten) (hn : n = l.length) (h9 : n ≤ 1000) : NL ((w.setCell ⟨F, o, none⟩ v).alloc (.cells cs 41)) (.slice (some ⟨hb, 0, none⟩) n n) n l := by
  have h1 : (w.setCell ⟨F, o, none⟩ v).heap.size = hb := by rw [hh]; simp [World.setCell]
  have h2 := fun o' => Deep.blk_alloc_new (w.setCell ⟨F, o, none⟩ v) o'
  rw [h1] at h2
  exact CK.of_blk (h2 _) (Ks.nm l) (by rw [List.length_map]; exact hn) (Nat.le_refl _) (by omega) (by rw [hc, List.take_of_length_le (by rw [(Ks.nm l).len, List.length_map, hn]; exact Nat.le_refl _)])
theorem two_blk {M : World} {n : Nat} (h : M.heap.size = n) (A B : Obj) : ((M.alloc A).alloc B).heap[n]? = some A ∧ ((M.alloc A).alloc B).heap[n + 1]? = some B := by
  subst h
  refine ⟨?_, ?_⟩
  · rw [Below.heap_alloc _ _ _ (by simp)]; exact Deep.blk_alloc_new _ _
  · have := Deep.blk_alloc_new (M.alloc A) B; simpa using this
theorem nl_one {w : World} {g : Nat} {a : Nm} (h : w.heap[g]? = some (.cells #[.int .u8 a.y, .int .i64 a.n] 41 (0, 0))) : NL w (.slice (some ⟨g, 0, none⟩) 1 1) 1 [a] := CK.of_blk h (Ks.nm [a]) rfl (Nat.le_refl _) (by omega) rfl
/-- The names that are held and that have fallen are set, in either order. -/
theorem LS.both {w w0 : World} {t0 r0 u0 p0 c0 fb : Nat} {hv fv : Value} (h : LS w t0 r0 u0 p0 c0 fb hv fv) (x : Ext w0 w) (hw : w0.heap.size ≤ fb) (a b : Nm) :
    (LS (((((w.setCell ⟨fb, 2, none⟩ (.slice (some ⟨w.heap.size, 0, none⟩) 1 1)).setCell ⟨fb, 3, none⟩ (.slice (some ⟨w.heap.size + 1, 0, none⟩) 1 1)).alloc (.cells #[.int .u8 a.y, .int .i64 a.n] 41)).alloc (.cells #[.int .u8 b.y, .int .i64 b.n] 41)).drew) t0 r0 u0 p0 c0 fb (.slice (some ⟨w.heap.size, 0, none⟩) 1 1) (.slice (some ⟨w.heap.size + 1, 0, none⟩) 1 1) ∧
      NL (((((w.setCell ⟨fb, 2, none⟩ (.slice (some ⟨w.heap.size, 0, none⟩) 1 1)).setCell ⟨fb, 3, none⟩ (.slice (some ⟨w.heap.size + 1, 0, none⟩) 1 1)).alloc (.cells #[.int .u8 a.y, .int .i64 a.n] 41)).alloc (.cells #[.int .u8 b.y, .int .i64 b.n] 41)).drew) (.slice (some ⟨w.heap.size, 0, none⟩) 1 1) 1 [a] ∧
      NL (((((w.setCell ⟨fb, 2, none⟩ (.slice (some ⟨w.heap.size, 0, none⟩) 1 1)).setCell ⟨fb, 3, none⟩ (.slice (some ⟨w.heap.size + 1, 0, none⟩) 1 1)).alloc (.cells #[.int .u8 a.y, .int .i64 a.n] 41)).alloc (.cells #[.int .u8 b.y, .int .i64 b.n] 41)).drew) (.slice (some ⟨w.heap.size + 1, 0, none⟩) 1 1) 1 [b] ∧
      Ext w0 (((((w.setCell ⟨fb, 2, none⟩ (.slice (some ⟨w.heap.size, 0, none⟩) 1 1)).setCell ⟨fb, 3, none⟩ (.slice (some ⟨w.heap.size + 1, 0, none⟩) 1 1)).alloc (.cells #[.int .u8 a.y, .int .i64 a.n] 41)).alloc (.cells #[.int .u8 b.y, .int .i64 b.n] 41)).drew)) ∧
    (LS (((((w.setCell ⟨fb, 2, none⟩ (.slice (some ⟨w.heap.size + 1, 0, none⟩) 1 1)).setCell ⟨fb, 3, none⟩ (.slice (some ⟨w.heap.size, 0, none⟩) 1 1)).alloc (.cells #[.int .u8 b.y, .int .i64 b.n] 41)).alloc (.cells #[.int .u8 a.y, .int .i64 a.n] 41)).drew) t0 r0 u0 p0 c0 fb (.slice (some ⟨w.heap.size + 1, 0, none⟩) 1 1) (.slice (some ⟨w.heap.size, 0, none⟩) 1 1) ∧
      NL (((((w.setCell ⟨fb, 2, none⟩ (.slice (some ⟨w.heap.size + 1, 0, none⟩) 1 1)).setCell ⟨fb, 3, none⟩ (.slice (some ⟨w.heap.size, 0, none⟩) 1 1)).alloc (.cells #[.int .u8 b.y, .int .i64 b.n] 41)).alloc (.cells #[.int .u8 a.y, .int .i64 a.n] 41)).drew) (.slice (some ⟨w.heap.size + 1, 0, none⟩) 1 1) 1 [a] ∧
      NL (((((w.setCell ⟨fb, 2, none⟩ (.slice (some ⟨w.heap.size + 1, 0, none⟩) 1 1)).setCell ⟨fb, 3, none⟩ (.slice (some ⟨w.heap.size, 0, none⟩) 1 1)).alloc (.cells #[.int .u8 b.y, .int .i64 b.n] 41)).alloc (.cells #[.int .u8 a.y, .int .i64 a.n] 41)).drew) (.slice (some ⟨w.heap.size, 0, none⟩) 1 1) 1 [b] ∧
      Ext w0 (((((w.setCell ⟨fb, 2, none⟩ (.slice (some ⟨w.heap.size + 1, 0, none⟩) 1 1)).setCell ⟨fb, 3, none⟩ (.slice (some ⟨w.heap.size, 0, none⟩) 1 1)).alloc (.cells #[.int .u8 b.y, .int .i64 b.n] 41)).alloc (.cells #[.int .u8 a.y, .int .i64 a.n] 41)).drew)) := by
  have hsz : ∀ u v : Value, ((w.setCell ⟨fb, 2, none⟩ u).setCell ⟨fb, 3, none⟩ v).heap.size = w.heap.size := fun u v => by simp [World.setCell]
  exact ⟨⟨((h.set2 _).set3 _).ext (((((Ext.refl _).alloc _).alloc _)).drew), nl_one (two_blk (hsz _ _) _ _).1, nl_one (two_blk (hsz _ _) _ _).2, ((((x.setCell hw _).setCell hw _).alloc _).alloc _).drew⟩,
    ⟨((h.set2 _).set3 _).ext (((((Ext.refl _).alloc _).alloc _)).drew), nl_one (two_blk (hsz _ _) _ _).2, nl_one (two_blk (hsz _ _) _ _).1, ((((x.setCell hw _).setCell hw _).alloc _).alloc _).drew⟩⟩
set_option maxHeartbeats 16000000 in
theorem Lives_calls (w : World) (ht : PTab w) : Calls Tryd.prog 9 #[] w fun e w' => e = .returned (.bool true) ∧ Ext w w' := by
  have HEx := Lib.hid (Example_calls w)
  have HT := Lib.hid ht
  clear ht
  go_enter Tryd.func9, Tryd.ntmps9
  go_wp2_with fail
  refine HEx.out.mono ?_
  rintro e w1 ⟨t0, r0, u0, p0, c0, h0, rfl, hM, hh, _, x1⟩
  obtain ⟨fb, hfb⟩ : ∃ fb, fb = w1.heap.size := ⟨_, rfl⟩
  obtain ⟨W, hW⟩ : ∃ W, W = (((w1.alloc (.cells #[.slice (some ⟨t0, 0, none⟩) 6 6, .slice (some ⟨c0, 0, none⟩) 1 1, .slice (some ⟨h0, 0, none⟩) 2 2, .slice none 0 0] 35)).alloc (.cells #[.int .u8 1, .int .i64 0] 41)).alloc (.cells #[.int .u8 1, .int .i64 1] 41)).alloc (.cells #[.int .u8 1, .int .i64 2] 41) := ⟨_, rfl⟩
  have xW : Ext w1 W := by rw [hW]; exact ((((Ext.refl _).alloc _).alloc _).alloc _).alloc _
  have hB : B4 W fb (.slice (some ⟨t0, 0, none⟩) 6 6) (.slice (some ⟨c0, 0, none⟩) 1 1) (.slice (some ⟨h0, 0, none⟩) 2 2) (.slice none 0 0) 35 := by rw [hW, hfb]; exact (B4.new _ _ _ _ _ _).ext ((((Ext.refl _).alloc _).alloc _).alloc _)
  have hA1 : BN W (fb + 1) ⟨1, 0⟩ := by rw [hW, hfb]; have := (BN.new (w1.alloc (.cells #[.slice (some ⟨t0, 0, none⟩) 6 6, .slice (some ⟨c0, 0, none⟩) 1 1, .slice (some ⟨h0, 0, none⟩) 2 2, .slice none 0 0] 35)) ⟨1, 0⟩).ext (((Ext.refl _).alloc (.cells #[.int .u8 1, .int .i64 1] 41)).alloc (.cells #[.int .u8 1, .int .i64 2] 41)); simpa using this
  have hA2 : BN W (fb + 1 + 1) ⟨1, 1⟩ := by rw [hW, hfb]; have := (BN.new ((w1.alloc (.cells #[.slice (some ⟨t0, 0, none⟩) 6 6, .slice (some ⟨c0, 0, none⟩) 1 1, .slice (some ⟨h0, 0, none⟩) 2 2, .slice none 0 0] 35)).alloc (.cells #[.int .u8 1, .int .i64 0] 41)) ⟨1, 1⟩).ext ((Ext.refl _).alloc (.cells #[.int .u8 1, .int .i64 2] 41)); simpa using this
  have hA3 : BN W (fb + 1 + 1 + 1) ⟨1, 2⟩ := by rw [hW, hfb]; have := BN.new (((w1.alloc (.cells #[.slice (some ⟨t0, 0, none⟩) 6 6, .slice (some ⟨c0, 0, none⟩) 1 1, .slice (some ⟨h0, 0, none⟩) 2 2, .slice none 0 0] 35)).alloc (.cells #[.int .u8 1, .int .i64 0] 41)).alloc (.cells #[.int .u8 1, .int .i64 1] 41)) ⟨1, 2⟩; simpa using this
  have hS : LS W t0 r0 u0 p0 c0 fb (.slice (some ⟨h0, 0, none⟩) 2 2) (.slice none 0 0) := ⟨hM.ext xW, hB, hA1, hA2, hA3⟩
  have hH : NL W (.slice (some ⟨h0, 0, none⟩) 2 2) 2 [⟨1, 1⟩, ⟨1, 2⟩] := CK.of_blk (xW.block hh) (Ks.nm [⟨1, 1⟩, ⟨1, 2⟩]) rfl (Nat.le_refl _) (by omega) rfl
  have S := Lib.hid (And.intro hS hH)
  have hFI : FIn (exF (-1) [⟨1, 1⟩, ⟨1, 2⟩] []) := exFIn (by decide) (fun a ha => by
    simp only [List.mem_cons, List.not_mem_nil, or_false] at ha
    rcases ha with rfl | rfl <;> exact exIn _ _ (by decide)) (fun a ha => by cases ha) (by decide) (by decide)
  have HFI := Lib.hid hFI
  have HFB := Lib.hid (fun w' (x : Ext W w') => (hS.m.ext x).fb (hH.ext x) (NL.nil w'))
  have XW := Lib.hid (x1.trans xW)
  have X1 := Lib.hid x1
  have hwl : w.heap.size ≤ fb := by rw [hfb]; exact x1.size
  have HTx := Lib.hid (fun w' (x : Ext W w') => (show Calls Tryd.prog 12 #[.agg #[.slice (some ⟨t0, 0, none⟩) 6 6, .slice (some ⟨c0, 0, none⟩) 1 1, .slice (some ⟨h0, 0, none⟩) 2 2, .slice none 0 0]] w' fun e w'' => e = .returned (.string (bst exTxt)) ∧ Ext w' w'' by rw [← ex_text]; exact Text_calls _ _ _ _ _ w' (HFB.out w' x) hFI (fun _ => exOK) (HT.out.ext (XW.out.trans x))))
  have HW := Lib.hid hW; have Hfb := Lib.hid hfb
  clear hW hfb hS hH hB hA1 hA2 hA3 hM hh hFI x1 xW
  obtain ⟨b0, b1, b2, b3⟩ : (W.cell? ⟨fb, 0, none⟩ = _) ∧ (W.cell? ⟨fb, 1, none⟩ = _) ∧ (W.cell? ⟨fb, 2, none⟩ = _) ∧ (W.cell? ⟨fb, 3, none⟩ = _) := ⟨S.out.1.b.c0, S.out.1.b.c1, S.out.1.b.c2, S.out.1.b.c3⟩
  rw [HW.out, Hfb.out] at b0 b1 b2 b3
  go_wp2_with fail
  rw [← HW.out]
  clear b0 b1 b2 b3
  refine (HTx.out W (Ext.refl _)).mono ?_
  rintro e w2 ⟨rfl, x2⟩
  have X2 := Lib.hid x2
  clear x2
  have y0 := (S.out.1.ext X2.out)
  have b0 := y0.b.c0; have b1 := y0.b.c1; have b2 := y0.b.c2; have b3 := y0.b.c3
  obtain ⟨d0, d1⟩ := y0.a2.at
  obtain ⟨e0, e1⟩ := y0.a3.at
  simp only [Nat.zero_add] at d1 e1
  clear y0
  obtain ⟨F, hF⟩ : ∃ F, F = w1.heap.size := ⟨_, rfl⟩
  rw [← hF]
  obtain rfl : F = fb := by rw [hF, Hfb.out]
  clear hF
  have hTL : ((bst exTxt).toList == ([49, 46, 48, 32, 102, 114, 111, 110, 116, 32, 110, 101, 119, 10, 49, 46, 49, 32, 102, 114, 111, 110, 116, 10, 49, 46, 50, 32, 98, 97, 99, 107, 32, 116, 104, 114, 111, 117, 103, 104, 32, 49, 46, 48, 32, 112, 97, 115, 116, 32, 49, 46, 49, 60, 43, 10, 99, 114, 111, 115, 115, 32, 49, 46, 49, 32, 49, 46, 50, 32, 45, 49, 10, 104, 101, 108, 100, 32, 49, 46, 49, 32, 49, 46, 50, 10] : List UInt8)) = true := by
    rw [ByteArray.toList_eq, beq_iff_eq]; rfl
  generalize bst exTxt = TX at *
  go_wp2_with fail
  clear hTL b0 b1 b2 b3 d0 d1 e0 e1
  refine (Cross_calls _ _ _ _ (exF (-1) [⟨1, 1⟩, ⟨1, 2⟩] []) ⟨1, 2⟩ ⟨1, 1⟩ 1 w2 (HFB.out w2 X2.out) HFI.out (fun _ => exOK) (exIn _ _ (by decide)) (exIn _ _ (by decide)) (by decide)).mono ?_
  rintro e w3 ⟨tv, cv, hv, fv, rfl, x3, hok, hno⟩
  have hok2 := hok ex_crE
  rw [ex_crE]
  obtain ⟨hFB3, hXL3⟩ := hok2
  obtain ⟨ct', hT'⟩ := hFB3.t
  obtain ⟨ta', tn', rfl, u1, _, _, _⟩ := hT'.open
  obtain ⟨ch', hH'⟩ := hFB3.h
  obtain ⟨ha', hn', rfl, u3, _, _, _⟩ := hH'.open
  obtain ⟨cf', hF'⟩ := hFB3.f
  obtain ⟨fa', fn', rfl, u4, _, _, _⟩ := hF'.open
  rw [ex_crF] at hXL3
  obtain ⟨ca', cn', rfl, u2, _, _, _⟩ := hXL3.open
  have X3 := Lib.hid (X2.out.trans x3)
  rw [show ([] : List Xg).length = 0 from rfl]
  clear hok hno hFB3 hXL3 hT' hH' hF' u1 u3 u4 x3
  obtain ⟨W4, hW4⟩ : ∃ W4, W4 = w3.alloc (.cells #[.slice ta' tn' ct', .slice ca' 0 0, .slice ha' hn' ch', .slice fa' fn' cf'] 35) := ⟨_, rfl⟩
  have z4 : Ext w3 W4 := by rw [hW4]; exact (Ext.refl _).alloc _
  have X4 := Lib.hid (X3.out.trans z4)
  have y3 := S.out.1.ext X3.out
  have b0 := cell_alloc y3.b.c0 (.cells #[.slice ta' tn' ct', .slice ca' 0 0, .slice ha' hn' ch', .slice fa' fn' cf'] 35)
  have b1 := cell_alloc y3.b.c1 (.cells #[.slice ta' tn' ct', .slice ca' 0 0, .slice ha' hn' ch', .slice fa' fn' cf'] 35)
  have b2 := cell_alloc y3.b.c2 (.cells #[.slice ta' tn' ct', .slice ca' 0 0, .slice ha' hn' ch', .slice fa' fn' cf'] 35)
  have b3 := cell_alloc y3.b.c3 (.cells #[.slice ta' tn' ct', .slice ca' 0 0, .slice ha' hn' ch', .slice fa' fn' cf'] 35)
  obtain ⟨d0', d1'⟩ := y3.a2.at
  obtain ⟨e0', e1'⟩ := y3.a3.at
  simp only [Nat.zero_add] at d1' e1'
  have d0 := cell_alloc d0' (.cells #[.slice ta' tn' ct', .slice ca' 0 0, .slice ha' hn' ch', .slice fa' fn' cf'] 35)
  have d1 := cell_alloc d1' (.cells #[.slice ta' tn' ct', .slice ca' 0 0, .slice ha' hn' ch', .slice fa' fn' cf'] 35)
  have e0 := cell_alloc e0' (.cells #[.slice ta' tn' ct', .slice ca' 0 0, .slice ha' hn' ch', .slice fa' fn' cf'] 35)
  have e1 := cell_alloc e1' (.cells #[.slice ta' tn' ct', .slice ca' 0 0, .slice ha' hn' ch', .slice fa' fn' cf'] 35)
  have hlt := y3.a3
  have l3 : F + 1 + 1 + 1 < w3.heap.size := by unfold BN at hlt; exact (Array.getElem?_eq_some_iff.1 hlt).1
  have l0 : F < w3.heap.size := by omega
  have l2 : F + 1 + 1 < w3.heap.size := by omega
  have HW4 := Lib.hid hW4
  have HLk := Lib.hid (fun w' (x : Ext W w') => (show Calls Tryd.prog 24 #[.agg #[.slice (some ⟨t0, 0, none⟩) 6 6, .slice (some ⟨c0, 0, none⟩) 1 1, .slice (some ⟨h0, 0, none⟩) 2 2, .slice none 0 0], .agg #[.int .u8 1, .int .i64 2], .agg #[.int .u8 1, .int .i64 1]] w' fun e w'' => e = .returned (.int .i64 (-1)) ∧ Ext w' w'' by
    have := Linking_calls _ _ _ _ _ ⟨1, 2⟩ ⟨1, 1⟩ w' (HFB.out w' x) (by decide)
    rw [ex_lnk] at this
    exact this))
  clear hW4 z4 y3 hlt d0' d1' e0' e1'
  go_wp2_with fail
  rw [← HW4.out]
  clear b0 b1 b2 b3 d0 d1 e0 e1 l3 l0 l2
  refine (HLk.out W4 X4.out).mono ?_
  rintro e w5 ⟨rfl, x5⟩
  have X5 := Lib.hid (X4.out.trans x5)
  clear x5
  have S5 := Lib.hid (S.out.1.ext X5.out)
  have Y5 := Lib.hid (XW.out.trans X5.out)
  clear S HFB HTx HLk HW Hfb HW4 X1 X2 X3 X4 X5 XW HFI HEx
  obtain ⟨hba, hhb⟩ : ∃ hb, hb = w5.heap.size := ⟨_, rfl⟩
  have hF : F < w5.heap.size := S5.out.b.lt
  obtain ⟨Va, hV⟩ : ∃ V, V = (w5.setCell ⟨F, 2, none⟩ (.slice (some ⟨hba, 0, none⟩) 3 3)).alloc (.cells #[.int .u8 1, .int .i64 0, .int .u8 1, .int .i64 1, .int .u8 1, .int .i64 2] 41) := ⟨_, rfl⟩
  have SA := S5.out.ext ((Ext.refl w5).alloc (.cells #[.int .u8 1, .int .i64 0, .int .u8 1, .int .i64 1, .int .u8 1, .int .i64 2] 41))
  have SVa := Lib.hid (show LS Va t0 r0 u0 p0 c0 F (.slice (some ⟨hba, 0, none⟩) 3 3) (.slice none 0 0) by rw [hV]; exact (S5.out.set2 _).ext ((Ext.refl _).alloc _))
  have NVa := Lib.hid (show NL Va (.slice (some ⟨hba, 0, none⟩) 3 3) 3 [⟨1, 0⟩, ⟨1, 1⟩, ⟨1, 2⟩] by rw [hV]; exact nl_held hhb rfl rfl (by omega))
  have YVa := Lib.hid (show Ext w Va by rw [hV]; exact (Ext.setCell Y5.out hwl _).alloc _)
  have b0 := SA.b.c0; have b1 := SA.b.c1; have b2 := SA.b.c2; have b3 := SA.b.c3; have bf := SA.b.fr; have bl := S5.out.b.lt
  obtain ⟨d0, e0⟩ := S5.out.a1.at
  obtain ⟨d1, e1⟩ := S5.out.a2.at
  obtain ⟨d2, e2⟩ := S5.out.a3.at
  simp only [Nat.zero_add] at e0 e1 e2
  have HV := Lib.hid hV; have Hhb := Lib.hid hhb
  clear hV hhb SA
  go_upto_region 9 with fail
  rw [← Hhb.out, ← HV.out]
  clear b0 b1 b2 b3 bf bl hF HV Hhb d0 e0 d1 e1 d2 e2
  have b0 := SVa.out.b.c0; have b1 := SVa.out.b.c1; have b2 := SVa.out.b.c2; have b3 := SVa.out.b.c3
  go_wp2_with fail
  clear b0 b1 b2 b3
  refine (Check_calls _ _ _ _ (exF (-1) [⟨1, 0⟩, ⟨1, 1⟩, ⟨1, 2⟩] []) Va (SVa.out.m.fb NVa.out (NL.nil Va)) (exFIn (by decide) (fun a ha => by
    simp only [List.mem_cons, List.not_mem_nil, or_false] at ha
    rcases ha with rfl | rfl | rfl <;> exact exIn _ _ (by decide)) (fun a ha => by cases ha) (by decide) (by decide)) (fun _ => exOK)).mono ?_
  rintro e w6 ⟨rfl, xx⟩
  rw [ex_chk2]
  have S6 := Lib.hid (SVa.out.ext xx)
  have Y6 := Lib.hid (YVa.out.trans xx)
  clear xx SVa NVa YVa S5 Y5
  obtain ⟨hbb, hhb⟩ : ∃ hb, hb = w6.heap.size := ⟨_, rfl⟩
  have hF : F < w6.heap.size := S6.out.b.lt
  obtain ⟨Vb, hV⟩ : ∃ V, V = (w6.setCell ⟨F, 2, none⟩ (.slice (some ⟨hbb, 0, none⟩) 1 1)).alloc (.cells #[.int .u8 1, .int .i64 2] 41) := ⟨_, rfl⟩
  have SA := S6.out.ext ((Ext.refl w6).alloc (.cells #[.int .u8 1, .int .i64 2] 41))
  have SVb := Lib.hid (show LS Vb t0 r0 u0 p0 c0 F (.slice (some ⟨hbb, 0, none⟩) 1 1) (.slice none 0 0) by rw [hV]; exact (S6.out.set2 _).ext ((Ext.refl _).alloc _))
  have NVb := Lib.hid (show NL Vb (.slice (some ⟨hbb, 0, none⟩) 1 1) 1 [⟨1, 2⟩] by rw [hV]; exact nl_held hhb rfl rfl (by omega))
  have YVb := Lib.hid (show Ext w Vb by rw [hV]; exact (Ext.setCell Y6.out hwl _).alloc _)
  have b0 := SA.b.c0; have b1 := SA.b.c1; have b2 := SA.b.c2; have b3 := SA.b.c3; have bf := SA.b.fr; have bl := S6.out.b.lt
  obtain ⟨d2, e2⟩ := S6.out.a3.at
  simp only [Nat.zero_add] at e2
  have HV := Lib.hid hV; have Hhb := Lib.hid hhb
  clear hV hhb SA
  go_upto_region 11 with fail
  rw [← Hhb.out, ← HV.out]
  clear b0 b1 b2 b3 bf bl hF HV Hhb d2 e2
  have b0 := SVb.out.b.c0; have b1 := SVb.out.b.c1; have b2 := SVb.out.b.c2; have b3 := SVb.out.b.c3
  go_wp2_with fail
  clear b0 b1 b2 b3
  refine (Check_calls _ _ _ _ (exF (-1) [⟨1, 2⟩] []) Vb (SVb.out.m.fb NVb.out (NL.nil Vb)) (exFIn (by decide) (fun a ha => by
    simp only [List.mem_cons, List.not_mem_nil, or_false] at ha
    subst ha; exact exIn _ _ (by decide)) (fun a ha => by cases ha) (by decide) (by decide)) (fun _ => exOK)).mono ?_
  rintro e w7 ⟨rfl, xx⟩
  rw [ex_chk3]
  have S7 := Lib.hid (SVb.out.ext xx)
  have Y7 := Lib.hid (YVb.out.trans xx)
  clear xx SVb NVb YVb S6 Y6
  have hF : F < w7.heap.size := S7.out.b.lt
  have hF3 : F + 1 + 1 + 1 < w7.heap.size := by have z := S7.out.a3; unfold BN at z; exact (Array.getElem?_eq_some_iff.1 z).1
  have hF2 : F + 1 + 1 < w7.heap.size := by omega
  obtain ⟨d1, e1⟩ := S7.out.a2.at
  obtain ⟨d2, e2⟩ := S7.out.a3.at
  simp only [Nat.zero_add] at e1 e2
  have b0 := S7.out.b.c0; have b1 := S7.out.b.c1; have b2 := S7.out.b.c2; have b3 := S7.out.b.c3; have bf := S7.out.b.fr
  have HBo := Lib.hid (S7.out.both Y7.out hwl ⟨1, 1⟩ ⟨1, 2⟩)
  go_upto_region 12 with fail
  go_cut [] from 52 to 57 (fun wx => ∃ h1 f1 : Nat, Hid (LS wx t0 r0 u0 p0 c0 F (.slice (some ⟨h1, 0, none⟩) 1 1) (.slice (some ⟨f1, 0, none⟩) 1 1) ∧ NL wx (.slice (some ⟨h1, 0, none⟩) 1 1) 1 [⟨1, 1⟩] ∧ NL wx (.slice (some ⟨f1, 0, none⟩) 1 1) 1 [⟨1, 2⟩] ∧ Ext w wx))
  case first =>
    go_region
    · go_wp2_with fail
      go_meet
      case rel => first | exact ⟨_, _, Lib.hid HBo.out.1⟩ | exact ⟨_, _, Lib.hid HBo.out.2⟩
    · go_wp2_with fail
      go_meet
      case rel => first | exact ⟨_, _, Lib.hid HBo.out.1⟩ | exact ⟨_, _, Lib.hid HBo.out.2⟩
  case rest =>
    obtain ⟨h1p, f1p, S8c⟩ := hcut
    obtain ⟨wdp, hwd⟩ : ∃ wd, wd = wc := ⟨_, rfl⟩
    subst hwd
    have b0 := S8c.out.1.b.c0; have b1 := S8c.out.1.b.c1; have b2 := S8c.out.1.b.c2; have b3 := S8c.out.1.b.c3
    go_wp2_with fail
    clear b0 b1 b2 b3
    refine (Undone_calls _ _ _ _ (exF (-1) [⟨1, 1⟩] [⟨1, 2⟩]) wdp (S8c.out.1.m.fb S8c.out.2.1 S8c.out.2.2.1) (exFIn (by decide) (fun a ha => by rw [List.mem_singleton.1 ha]; exact exIn _ _ (by decide)) (fun a ha => by rw [List.mem_singleton.1 ha]; exact exIn _ _ (by decide)) (by decide) (by decide))).mono ?_
    rintro e w8 ⟨gp, np, hnp, rfl, hgp, hbp, xx⟩
    have hup := ex_und1
    rw [show (exF (-1) [⟨1, 1⟩] [⟨1, 2⟩]).ys = exT from rfl, show (exF (-1) [⟨1, 1⟩] [⟨1, 2⟩]).fallen = [⟨1, 2⟩] from rfl, hup] at hnp hbp
    obtain rfl : np = 0 := hnp
    have S8 := Lib.hid (S8c.out.1.ext xx)
    have Y8 := Lib.hid (S8c.out.2.2.2.trans xx)
    clear S8c hup hbp hgp xx S7 Y7 hF hF2 hF3 d1 e1 d2 e2 bf HBo
    have hF : F < w8.heap.size := S8.out.b.lt
    have hF3 : F + 1 + 1 + 1 < w8.heap.size := by have z := S8.out.a3; unfold BN at z; exact (Array.getElem?_eq_some_iff.1 z).1
    have hF2 : F + 1 + 1 < w8.heap.size := by omega
    obtain ⟨d1, e1⟩ := S8.out.a2.at
    obtain ⟨d2, e2⟩ := S8.out.a3.at
    simp only [Nat.zero_add] at e1 e2
    have b0 := S8.out.b.c0; have b1 := S8.out.b.c1; have b2 := S8.out.b.c2; have b3 := S8.out.b.c3; have bf := S8.out.b.fr
    have HBo := Lib.hid (S8.out.both Y8.out hwl ⟨1, 2⟩ ⟨1, 1⟩)
    go_upto_region 14 with fail
    go_cut [] from 60 to 65 (fun wx => ∃ h1 f1 : Nat, Hid (LS wx t0 r0 u0 p0 c0 F (.slice (some ⟨h1, 0, none⟩) 1 1) (.slice (some ⟨f1, 0, none⟩) 1 1) ∧ NL wx (.slice (some ⟨h1, 0, none⟩) 1 1) 1 [⟨1, 2⟩] ∧ NL wx (.slice (some ⟨f1, 0, none⟩) 1 1) 1 [⟨1, 1⟩] ∧ Ext w wx))
    case first =>
      go_region
      · go_wp2_with fail
        go_meet
        case rel => first | exact ⟨_, _, Lib.hid HBo.out.1⟩ | exact ⟨_, _, Lib.hid HBo.out.2⟩
      · go_wp2_with fail
        go_meet
        case rel => first | exact ⟨_, _, Lib.hid HBo.out.1⟩ | exact ⟨_, _, Lib.hid HBo.out.2⟩
    case rest =>
      obtain ⟨h1q, f1q, S9c⟩ := hcut
      obtain ⟨wdq, hwd⟩ : ∃ wd, wd = wc := ⟨_, rfl⟩
      subst hwd
      have b0 := S9c.out.1.b.c0; have b1 := S9c.out.1.b.c1; have b2 := S9c.out.1.b.c2; have b3 := S9c.out.1.b.c3
      go_wp2_with fail
      clear b0 b1 b2 b3
      refine (Undone_calls _ _ _ _ (exF (-1) [⟨1, 2⟩] [⟨1, 1⟩]) wdq (S9c.out.1.m.fb S9c.out.2.1 S9c.out.2.2.1) (exFIn (by decide) (fun a ha => by rw [List.mem_singleton.1 ha]; exact exIn _ _ (by decide)) (fun a ha => by rw [List.mem_singleton.1 ha]; exact exIn _ _ (by decide)) (by decide) (by decide))).mono ?_
      rintro e w9 ⟨gq, nq, hnq, rfl, hgq, hbq, xx⟩
      have huq := ex_und2
      rw [show (exF (-1) [⟨1, 2⟩] [⟨1, 1⟩]).ys = exT from rfl, show (exF (-1) [⟨1, 2⟩] [⟨1, 1⟩]).fallen = [⟨1, 1⟩] from rfl, huq] at hnq hbq
      obtain rfl : nq = 1 := hnq
      have S9 := Lib.hid (S9c.out.1.ext xx)
      have Y9 := Lib.hid (S9c.out.2.2.2.trans xx)
      clear S9c huq hgq xx S8 Y8 hF hF2 hF3 d1 e1 d2 e2 bf HBo
      have g0 : w9.cell? ⟨gq, 0, none⟩ = some (.int .u8 1) := by simp [World.cell?, hbq, Nm.cs]
      have g1 : w9.cell? ⟨gq, 1, none⟩ = some (.int .i64 1) := by simp [World.cell?, hbq, Nm.cs]
      obtain ⟨d1, e1⟩ := S9.out.a2.at
      simp only [Nat.zero_add] at e1
      clear hbq
      go_wp2
      go_quiet (fail)
      go_wp2
      go_ret
      exact ⟨rfl, Y9.out.drewN _⟩
end Go.Proofs.YtlhkehfplcclgaaDoor
