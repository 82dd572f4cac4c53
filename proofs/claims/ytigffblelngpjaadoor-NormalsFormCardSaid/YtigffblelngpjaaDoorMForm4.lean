/- Texts of this claim in one file: libraries and walks. -/
import Derived.Test.YtigffblelngpjaaDoorMForm3
/- The law NormalsTimes: its walk (printed by gen_l25a.py). -/
namespace Go.Proofs.YtigffblelngpjaaDoor
set_option linter.unusedVariables false
set_option linter.unusedSimpArgs false
set_option maxRecDepth 100000
open Go Go.RowKit

theorem nx_nil (w : World) (N q : Int) : NX w (.agg #[.int .i64 N, .int .i64 q, .slice none 0 0]) N q [] := ⟨none, rfl, ISX.nil _ _⟩
theorem PTab.at {w w' : World} (h : PTab w) (x : Ext w w') : PTab w' := h.ext x
theorem winvL_bd {n : Nat} {w : List Int} (n8 : n ≤ 8) (n1 : 1 ≤ n) (h : Val n w) : ∀ i, i < w.length → -100 ≤ gi w i ∧ gi w i ≤ 100 := val_bd (by omega) (by omega) h

set_option maxHeartbeats 32000000 in
theorem NormalsTimes_walk (n : Int) (va vb : Value) (ca cb : Nat) (xs ys : List Int) (w : World) (hn : 0 ≤ n ∧ n ≤ 255) (h : IS .u8 w va ca xs) (h' : IS .u8 w vb cb ys) (hb : ∀ i, i < xs.length → 0 ≤ gi xs i ∧ gi xs i ≤ 255) (hb' : ∀ i, i < ys.length → 0 ≤ gi ys i ∧ gi ys i ≤ 255) (ht : PTab w) :
    Calls Tryd.prog 5 #[.int .u8 n, va, vb] w fun e w' => e = .returned (.bool true) ∧ Ext w w' := by
  obtain ⟨m, hm⟩ : ∃ m : Nat, (m : Int) = 1 + n % 6 := ⟨(1 + n % 6).toNat, by omega⟩
  have m1 : 1 ≤ m := by omega
  have m6 : m ≤ 6 := by omega
  have hStr := fun w => Strands_m n m w hn hm
  obtain ⟨a1, n1, c1, rfl, hn1, rfl, h1⟩ := h.out
  obtain ⟨a2, n2, c2, rfl, hn2, rfl, h2⟩ := h'.out
  have hOf := fun w' (x : Ext w w') => WOf_calls m (.slice a1 n1 c1) c1 xs w' (h1.ext x) hb ⟨by omega, by omega⟩
  have hOf' := fun w' (x : Ext w w') => WOf_calls m (.slice a2 n2 c2) c2 ys w' (h2.ext x) hb' ⟨by omega, by omega⟩
  have hv : Val m (wordOf m xs) := wordOf_val (by omega) hb
  have hv' : Val m (wordOf m ys) := wordOf_val (by omega) hb'
  have hl24 := wordOf_24 m xs
  have hl24' := wordOf_24 m ys
  obtain ⟨W, hW⟩ : ∃ W, W = wordOf m xs := ⟨_, rfl⟩
  obtain ⟨V, hV⟩ : ∃ V, V = wordOf m ys := ⟨_, rfl⟩
  rw [← hW] at hOf hv hl24
  rw [← hV] at hOf' hv' hl24'
  have hnW := fun v c w' (hi : IS .i64 w' v c W) => NOf2_calls m v c W w' hi (wcheck_val (by omega) (by omega) (by omega) hv) hv m1 (by omega) (by omega)
  have hnV := fun v c w' (hi : IS .i64 w' v c V) => NOf2_calls m v c V w' hi (wcheck_val (by omega) (by omega) (by omega) hv') hv' m1 (by omega) (by omega)
  have hlD : (W ++ V).length ≤ 48 := by rw [List.length_append]; omega
  have hnD := fun v c w' (hi : IS .i64 w' v c (W ++ V)) => NOf2_calls m v c (W ++ V) w' hi (wcheck_val (by omega) (by omega) (by omega) (hv.app hv')) (hv.app hv') m1 (by omega) (by omega)
  have hlI := winvL_len W
  have hnI := fun v c w' (hi : IS .i64 w' v c (winvL W)) => NOf2_calls m v c (winvL W) w' hi (wcheck_val (by omega) (by omega) (by rw [hlI]; omega) hv.inv) hv.inv m1 (by omega) (by rw [hlI]; omega)
  have hIn := fun v c w' (hi : IS .i64 w' v c W) => show Calls Tryd.prog 21 #[.int .i64 (m : Int), v] w' (RetIE .i64 w' W.length (winvL W) 0) from by
    have := WInverse_calls m v c W w' hi (wcheck_val (by omega) (by omega) (by omega) hv) (winvL_bd (by omega) m1 hv) (by omega)
    rwa [show W.reverse.map (fun x => -x) = winvL W from rfl] at this
  have hLi := fun qa qi qz la li lz => @law_i m W qa qi qz la li lz m1 hv
  have HS := Lib.hid hStr; have HOf := Lib.hid hOf; have HOf' := Lib.hid hOf'; have HnW := Lib.hid hnW; have HnV := Lib.hid hnV; have HnD := Lib.hid hnD; have HnI := Lib.hid hnI; have HIn := Lib.hid hIn; have HLi := Lib.hid hLi; have hT := Lib.hid ht; have HlW := Lib.hid hl24; have HlV := Lib.hid hl24'
  clear hStr hOf hOf' hnW hnV hnD hnI hIn hLi ht hv hv' hl24 hl24' hW hV hm hb hb' h h' h1 h2 hn1 hn2 hlD hlI
  have hX := Lib.hid (Ext.refl w)
  go_enter Tryd.func5, Tryd.ntmps5
  go_wp2_with fail
  refine (HS.out _).mono ?_
  rintro e w1 ⟨rfl, rfl⟩
  go_wp2_with fail
  refine (HOf.out _ hX.out).mono ?_
  rintro e w2 hr
  obtain ⟨sW, nW, cW, rfl, hnW, hW, x⟩ := hr.open
  clear hr
  have xx : Ext w w2 := Ext.trans (Ext.refl w) x
  replace hX := Lib.hid (Ext.trans hX.out xx)
  replace hT := Lib.hid (hT.out.ext xx)
  clear xx x
  have iW := Lib.hid hW
  clear hW hnW
  go_wp2_with fail
  refine (HOf'.out _ hX.out).mono ?_
  rintro e w3 hr
  obtain ⟨sV, nV, cV, rfl, hnV, hV, x⟩ := hr.open
  clear hr
  have xx : Ext w2 w3 := Ext.trans (Ext.refl w2) x
  replace hX := Lib.hid (Ext.trans hX.out xx)
  replace hT := Lib.hid (hT.out.ext xx)
  replace iW := Lib.hid (iW.out.ext xx)
  clear xx x
  have iV := Lib.hid hV
  clear hV hnV
  go_wp2_with fail
  refine (HnW.out _ _ _ iW.out).mono ?_
  rintro e w4 hr
  obtain ⟨va, qa, la, rfl, hx, ho, hq, b1, b2, b3, x⟩ := hr
  obtain ⟨pa, ma, rfl, hx⟩ := hx.v
  have haN := Lib.hid hx; have haO := Lib.hid ho; have haQ := Lib.hid hq
  have haL : Hid (-24 ≤ qa ∧ qa ≤ 24 ∧ la.length ≤ 24) := Lib.hid (by have := HlW.out; have := HlV.out; omega)
  clear hx ho hq b1 b2 b3
  have xx : Ext w3 w4 := Ext.trans (Ext.refl w3) x
  replace hX := Lib.hid (Ext.trans hX.out xx)
  replace hT := Lib.hid (hT.out.ext xx)
  replace iW := Lib.hid (iW.out.ext xx)
  replace iV := Lib.hid (iV.out.ext xx)
  clear xx x
  go_wp2_with fail
  refine (HnV.out _ _ _ (iV.out.ext ((Ext.refl w4).alloc (.cells #[.int .i64 (m : Int), .int .i64 qa, .slice pa ma ma] 30)))).mono ?_
  rintro e w5 hr
  obtain ⟨vb, qb, lb, rfl, hx, ho, hq, b1, b2, b3, x⟩ := hr
  obtain ⟨pb, mb, rfl, hx⟩ := hx.v
  have hbN := Lib.hid hx; have hbO := Lib.hid ho; have hbQ := Lib.hid hq
  have hbL : Hid (-24 ≤ qb ∧ qb ≤ 24 ∧ lb.length ≤ 24) := Lib.hid (by have := HlW.out; have := HlV.out; omega)
  clear hx ho hq b1 b2 b3
  have haB := Lib.hid (show B3 w5 (w4.heap.size) (.int .i64 (m : Int)) (.int .i64 qa) (.slice pa ma ma) 30 from Ext.block x (show B3 (w4.alloc (.cells #[.int .i64 (m : Int), .int .i64 qa, .slice pa ma ma] 30)) (w4.heap.size) (.int .i64 (m : Int)) (.int .i64 qa) (.slice pa ma ma) 30 from B3.new _ _ _ _ _))
  have xx : Ext w4 w5 := Ext.trans ((Ext.refl w4).alloc (.cells #[.int .i64 (m : Int), .int .i64 qa, .slice pa ma ma] 30)) x
  replace hX := Lib.hid (Ext.trans hX.out xx)
  replace hT := Lib.hid (hT.out.ext xx)
  replace iW := Lib.hid (iW.out.ext xx)
  replace iV := Lib.hid (iV.out.ext xx)
  replace haN := Lib.hid (haN.out.ext xx)
  clear xx x
  have ca0_0 := B3.c0 haB.out
  have ca1_0 := B3.c1 haB.out
  have ca2_0 := B3.c2 haB.out
  have ca0_1 := B3.c0 (show B3 (w5.alloc (.cells #[.int .i64 (m : Int), .int .i64 qb, .slice pb mb mb] 30)) (w4.heap.size) (.int .i64 (m : Int)) (.int .i64 qa) (.slice pa ma ma) 30 from Ext.block ((Ext.refl w5).alloc (.cells #[.int .i64 (m : Int), .int .i64 qb, .slice pb mb mb] 30)) haB.out)
  have ca1_1 := B3.c1 (show B3 (w5.alloc (.cells #[.int .i64 (m : Int), .int .i64 qb, .slice pb mb mb] 30)) (w4.heap.size) (.int .i64 (m : Int)) (.int .i64 qa) (.slice pa ma ma) 30 from Ext.block ((Ext.refl w5).alloc (.cells #[.int .i64 (m : Int), .int .i64 qb, .slice pb mb mb] 30)) haB.out)
  have ca2_1 := B3.c2 (show B3 (w5.alloc (.cells #[.int .i64 (m : Int), .int .i64 qb, .slice pb mb mb] 30)) (w4.heap.size) (.int .i64 (m : Int)) (.int .i64 qa) (.slice pa ma ma) 30 from Ext.block ((Ext.refl w5).alloc (.cells #[.int .i64 (m : Int), .int .i64 qb, .slice pb mb mb] 30)) haB.out)
  have cb0_1 := B3.c0 (show B3 (w5.alloc (.cells #[.int .i64 (m : Int), .int .i64 qb, .slice pb mb mb] 30)) (w5.heap.size) (.int .i64 (m : Int)) (.int .i64 qb) (.slice pb mb mb) 30 from B3.new _ _ _ _ _)
  have cb1_1 := B3.c1 (show B3 (w5.alloc (.cells #[.int .i64 (m : Int), .int .i64 qb, .slice pb mb mb] 30)) (w5.heap.size) (.int .i64 (m : Int)) (.int .i64 qb) (.slice pb mb mb) 30 from B3.new _ _ _ _ _)
  have cb2_1 := B3.c2 (show B3 (w5.alloc (.cells #[.int .i64 (m : Int), .int .i64 qb, .slice pb mb mb] 30)) (w5.heap.size) (.int .i64 (m : Int)) (.int .i64 qb) (.slice pb mb mb) 30 from B3.new _ _ _ _ _)
  go_wp2_with fail
  refine (Times_calls _ _ m qa qb la lb _ (haN.out.ext ((Ext.refl w5).alloc (.cells #[.int .i64 (m : Int), .int .i64 qb, .slice pb mb mb] 30))) (hbN.out.ext ((Ext.refl w5).alloc (.cells #[.int .i64 (m : Int), .int .i64 qb, .slice pb mb mb] 30))) haO.out hbO.out (by have := haL.out; have := hbL.out; omega) (by have := haL.out; have := hbL.out; omega) (by have := haL.out; have := hbL.out; omega)).mono ?_
  rintro e w6 hr
  obtain ⟨vc, qc, lc, rfl, hx, ho, hq, b1, b2, b3, x⟩ := hr
  obtain ⟨pc, mc, rfl, hx⟩ := hx.v
  have hcN := Lib.hid hx; have hcO := Lib.hid ho; have hcQ := Lib.hid hq
  have hcL : Hid (-48 ≤ qc ∧ qc ≤ 96 ∧ lc.length ≤ 48) := Lib.hid (by have := haL.out; have := hbL.out; omega)
  clear hx ho hq b1 b2 b3
  have hbB := Lib.hid (show B3 w6 (w5.heap.size) (.int .i64 (m : Int)) (.int .i64 qb) (.slice pb mb mb) 30 from Ext.block x (show B3 (w5.alloc (.cells #[.int .i64 (m : Int), .int .i64 qb, .slice pb mb mb] 30)) (w5.heap.size) (.int .i64 (m : Int)) (.int .i64 qb) (.slice pb mb mb) 30 from B3.new _ _ _ _ _))
  have xx : Ext w5 w6 := Ext.trans ((Ext.refl w5).alloc (.cells #[.int .i64 (m : Int), .int .i64 qb, .slice pb mb mb] 30)) x
  replace hX := Lib.hid (Ext.trans hX.out xx)
  replace hT := Lib.hid (hT.out.ext xx)
  replace iW := Lib.hid (iW.out.ext xx)
  replace iV := Lib.hid (iV.out.ext xx)
  replace haN := Lib.hid (haN.out.ext xx)
  replace haB := Lib.hid (show B3 w6 (w4.heap.size) (.int .i64 (m : Int)) (.int .i64 qa) (.slice pa ma ma) 30 from Ext.block xx haB.out)
  replace hbN := Lib.hid (hbN.out.ext xx)
  clear xx x
  clear ca0_0 ca1_0 ca2_0 ca0_1 ca1_1 ca2_1 cb0_1 cb1_1 cb2_1
  have hs : (w6.alloc (.cells #[.int .i64 (m : Int), .int .i64 qc, .slice pc mc mc] 30)).heap.size = w6.heap.size + 1 := by simp
  have hbk : ((w6.alloc (.cells #[.int .i64 (m : Int), .int .i64 qc, .slice pc mc mc] 30)).alloc (.cells #[] 3)).heap[w6.heap.size + 1]? = some (.cells #[] 3 (0, 0)) := by rw [← hs]; exact Deep.blk_alloc_new _ _
  have Hs := Lib.hid hs; have Hbk := Lib.hid hbk
  clear hs hbk
  go_wp2_with (at_builtin; refine app_own weiInt rfl _ _ rfl (w6.heap.size + 1) _ 0 [] rfl (own0 Hbk.out (Nat.le_refl _)) _ _ _ rfl (iW.out.ext (((Ext.refl w6).alloc (.cells #[.int .i64 (m : Int), .int .i64 qc, .slice pc mc mc] 30)).alloc (.cells #[] 3))) (onesI _) ?c1 ?c2 ?c3 ?_)
  case c1 => have := HlW.out; simp; omega
  case c2 => have := HlW.out; simp; omega
  case c3 => simp
  intro v7 w7 hown7 hb7
  have y7 : Ext (w6.alloc (.cells #[.int .i64 (m : Int), .int .i64 qc, .slice pc mc mc] 30)) w7 := by unfold Ext; rw [Hs.out]; exact Below.trans (by rw [← Hs.out]; exact (Ext.refl _).alloc _) hb7
  have Hown7 := Lib.hid (show w7.ownsRow (w6.heap.size + 1) 3 1 v7 W.length (W.map (Value.int .i64)) by simpa using hown7)
  have Y7 := Lib.hid y7
  clear hown7 hb7 y7
  go_wp2_with (at_builtin; refine app_own weiInt rfl _ _ rfl (w6.heap.size + 1) v7 W.length _ rfl Hown7.out _ _ _ rfl (iV.out.ext (Ext.trans ((Ext.refl w6).alloc (.cells #[.int .i64 (m : Int), .int .i64 qc, .slice pc mc mc] 30)) Y7.out)) (onesI _) ?d1 ?d2 ?d3 ?_)
  case d1 => have := HlW.out; have := HlV.out; simp; omega
  case d2 => have := HlW.out; have := HlV.out; simp; omega
  case d3 => have := Y7.out.size; have := Hs.out; omega
  intro v8 w8 hown8 hb8
  have x : Ext (w6.alloc (.cells #[.int .i64 (m : Int), .int .i64 qc, .slice pc mc mc] 30)) w8 := by have y := Y7.out; unfold Ext at y ⊢; rw [Hs.out] at y ⊢; exact Below.trans y hb8
  have hown8' : w8.ownsRow (w6.heap.size + 1) 3 1 v8 (W ++ V).length ((W ++ V).map (Value.int .i64)) := by simpa using hown8
  obtain ⟨c8, h8⟩ := IS.of_own hown8'
  have iD := Lib.hid h8
  clear hown8 hb8 hown8' h8 Hown7 Y7 Hs Hbk
  have hcB := Lib.hid (show B3 w8 (w6.heap.size) (.int .i64 (m : Int)) (.int .i64 qc) (.slice pc mc mc) 30 from Ext.block x (show B3 (w6.alloc (.cells #[.int .i64 (m : Int), .int .i64 qc, .slice pc mc mc] 30)) (w6.heap.size) (.int .i64 (m : Int)) (.int .i64 qc) (.slice pc mc mc) 30 from B3.new _ _ _ _ _))
  have xx : Ext w6 w8 := Ext.trans ((Ext.refl w6).alloc (.cells #[.int .i64 (m : Int), .int .i64 qc, .slice pc mc mc] 30)) x
  replace hX := Lib.hid (Ext.trans hX.out xx)
  replace hT := Lib.hid (hT.out.ext xx)
  replace iW := Lib.hid (iW.out.ext xx)
  replace iV := Lib.hid (iV.out.ext xx)
  replace haN := Lib.hid (haN.out.ext xx)
  replace haB := Lib.hid (show B3 w8 (w4.heap.size) (.int .i64 (m : Int)) (.int .i64 qa) (.slice pa ma ma) 30 from Ext.block xx haB.out)
  replace hbN := Lib.hid (hbN.out.ext xx)
  replace hbB := Lib.hid (show B3 w8 (w5.heap.size) (.int .i64 (m : Int)) (.int .i64 qb) (.slice pb mb mb) 30 from Ext.block xx hbB.out)
  replace hcN := Lib.hid (hcN.out.ext xx)
  clear xx x
  go_wp2_with fail
  refine (HnD.out _ _ _ iD.out).mono ?_
  rintro e w9 hr
  obtain ⟨vd, qd, ld, rfl, hx, ho, hq, b1, b2, b3, x⟩ := hr
  obtain ⟨pd, md, rfl, hx⟩ := hx.v
  have hdN := Lib.hid hx; have hdO := Lib.hid ho; have hdQ := Lib.hid hq
  have hdL : Hid (-48 ≤ qd ∧ qd ≤ 48 ∧ ld.length ≤ 48) := Lib.hid (by have := HlW.out; have := HlV.out; rw [List.length_append] at *; omega)
  clear hx ho hq b1 b2 b3
  have xx : Ext w8 w9 := Ext.trans (Ext.refl w8) x
  replace hX := Lib.hid (Ext.trans hX.out xx)
  replace hT := Lib.hid (hT.out.ext xx)
  replace iW := Lib.hid (iW.out.ext xx)
  replace iV := Lib.hid (iV.out.ext xx)
  replace haN := Lib.hid (haN.out.ext xx)
  replace haB := Lib.hid (show B3 w9 (w4.heap.size) (.int .i64 (m : Int)) (.int .i64 qa) (.slice pa ma ma) 30 from Ext.block xx haB.out)
  replace hbN := Lib.hid (hbN.out.ext xx)
  replace hbB := Lib.hid (show B3 w9 (w5.heap.size) (.int .i64 (m : Int)) (.int .i64 qb) (.slice pb mb mb) 30 from Ext.block xx hbB.out)
  replace hcN := Lib.hid (hcN.out.ext xx)
  replace hcB := Lib.hid (show B3 w9 (w6.heap.size) (.int .i64 (m : Int)) (.int .i64 qc) (.slice pc mc mc) 30 from Ext.block xx hcB.out)
  replace iD := Lib.hid (iD.out.ext xx)
  clear xx x
  have Ecd := Lib.hid (law_c haQ.out hbQ.out hcQ.out hdQ.out hcO.out hdO.out)
  have cc0_0 := B3.c0 hcB.out
  have cc1_0 := B3.c1 hcB.out
  have cc2_0 := B3.c2 hcB.out
  have cc0_1 := B3.c0 (show B3 (w9.alloc (.cells #[.int .i64 (m : Int), .int .i64 qd, .slice pd md md] 30)) (w6.heap.size) (.int .i64 (m : Int)) (.int .i64 qc) (.slice pc mc mc) 30 from Ext.block ((Ext.refl w9).alloc (.cells #[.int .i64 (m : Int), .int .i64 qd, .slice pd md md] 30)) hcB.out)
  have cc1_1 := B3.c1 (show B3 (w9.alloc (.cells #[.int .i64 (m : Int), .int .i64 qd, .slice pd md md] 30)) (w6.heap.size) (.int .i64 (m : Int)) (.int .i64 qc) (.slice pc mc mc) 30 from Ext.block ((Ext.refl w9).alloc (.cells #[.int .i64 (m : Int), .int .i64 qd, .slice pd md md] 30)) hcB.out)
  have cc2_1 := B3.c2 (show B3 (w9.alloc (.cells #[.int .i64 (m : Int), .int .i64 qd, .slice pd md md] 30)) (w6.heap.size) (.int .i64 (m : Int)) (.int .i64 qc) (.slice pc mc mc) 30 from Ext.block ((Ext.refl w9).alloc (.cells #[.int .i64 (m : Int), .int .i64 qd, .slice pd md md] 30)) hcB.out)
  have cd0_1 := B3.c0 (show B3 (w9.alloc (.cells #[.int .i64 (m : Int), .int .i64 qd, .slice pd md md] 30)) (w9.heap.size) (.int .i64 (m : Int)) (.int .i64 qd) (.slice pd md md) 30 from B3.new _ _ _ _ _)
  have cd1_1 := B3.c1 (show B3 (w9.alloc (.cells #[.int .i64 (m : Int), .int .i64 qd, .slice pd md md] 30)) (w9.heap.size) (.int .i64 (m : Int)) (.int .i64 qd) (.slice pd md md) 30 from B3.new _ _ _ _ _)
  have cd2_1 := B3.c2 (show B3 (w9.alloc (.cells #[.int .i64 (m : Int), .int .i64 qd, .slice pd md md] 30)) (w9.heap.size) (.int .i64 (m : Int)) (.int .i64 qd) (.slice pd md md) 30 from B3.new _ _ _ _ _)
  go_wp2_with fail
  refine (NSame_calls _ _ m m qc qd lc ld _ (hcN.out.ext ((Ext.refl w9).alloc (.cells #[.int .i64 (m : Int), .int .i64 qd, .slice pd md md] 30))).ns (hdN.out.ext ((Ext.refl w9).alloc (.cells #[.int .i64 (m : Int), .int .i64 qd, .slice pd md md] 30))).ns (hcO.out.pl.byt hcO.out.n8) (hdO.out.pl.byt hdO.out.n8)).mono ?_
  rintro e w10 ⟨rfl, x⟩
  rw [show nsame (m : Int) m qc qd lc ld = true from decide_eq_true ⟨rfl, Ecd.out.1, Ecd.out.2⟩]
  have hdB := Lib.hid (show B3 w10 (w9.heap.size) (.int .i64 (m : Int)) (.int .i64 qd) (.slice pd md md) 30 from Ext.block x (show B3 (w9.alloc (.cells #[.int .i64 (m : Int), .int .i64 qd, .slice pd md md] 30)) (w9.heap.size) (.int .i64 (m : Int)) (.int .i64 qd) (.slice pd md md) 30 from B3.new _ _ _ _ _))
  have xx : Ext w9 w10 := Ext.trans ((Ext.refl w9).alloc (.cells #[.int .i64 (m : Int), .int .i64 qd, .slice pd md md] 30)) x
  replace hX := Lib.hid (Ext.trans hX.out xx)
  replace hT := Lib.hid (hT.out.ext xx)
  replace iW := Lib.hid (iW.out.ext xx)
  replace iV := Lib.hid (iV.out.ext xx)
  replace haN := Lib.hid (haN.out.ext xx)
  replace haB := Lib.hid (show B3 w10 (w4.heap.size) (.int .i64 (m : Int)) (.int .i64 qa) (.slice pa ma ma) 30 from Ext.block xx haB.out)
  replace hbN := Lib.hid (hbN.out.ext xx)
  replace hbB := Lib.hid (show B3 w10 (w5.heap.size) (.int .i64 (m : Int)) (.int .i64 qb) (.slice pb mb mb) 30 from Ext.block xx hbB.out)
  replace hcN := Lib.hid (hcN.out.ext xx)
  replace hcB := Lib.hid (show B3 w10 (w6.heap.size) (.int .i64 (m : Int)) (.int .i64 qc) (.slice pc mc mc) 30 from Ext.block xx hcB.out)
  replace iD := Lib.hid (iD.out.ext xx)
  replace hdN := Lib.hid (hdN.out.ext xx)
  clear xx x
  clear cc0_0 cc1_0 cc2_0 cc0_1 cc1_1 cc2_1 cd0_1 cd1_1 cd2_1
  have cc0_0 := B3.c0 hcB.out
  have cc1_0 := B3.c1 hcB.out
  have cc2_0 := B3.c2 hcB.out
  go_wp2_with fail
  refine (Clipped_calls _ m qc lc _ hcN.out).mono ?_
  rintro e w11 ⟨rfl, x⟩
  have xx : Ext w10 w11 := Ext.trans (Ext.refl w10) x
  replace hX := Lib.hid (Ext.trans hX.out xx)
  replace hT := Lib.hid (hT.out.ext xx)
  replace iW := Lib.hid (iW.out.ext xx)
  replace iV := Lib.hid (iV.out.ext xx)
  replace haN := Lib.hid (haN.out.ext xx)
  replace haB := Lib.hid (show B3 w11 (w4.heap.size) (.int .i64 (m : Int)) (.int .i64 qa) (.slice pa ma ma) 30 from Ext.block xx haB.out)
  replace hbN := Lib.hid (hbN.out.ext xx)
  replace hbB := Lib.hid (show B3 w11 (w5.heap.size) (.int .i64 (m : Int)) (.int .i64 qb) (.slice pb mb mb) 30 from Ext.block xx hbB.out)
  replace hcN := Lib.hid (hcN.out.ext xx)
  replace hcB := Lib.hid (show B3 w11 (w6.heap.size) (.int .i64 (m : Int)) (.int .i64 qc) (.slice pc mc mc) 30 from Ext.block xx hcB.out)
  replace iD := Lib.hid (iD.out.ext xx)
  replace hdN := Lib.hid (hdN.out.ext xx)
  replace hdB := Lib.hid (show B3 w11 (w9.heap.size) (.int .i64 (m : Int)) (.int .i64 qd) (.slice pd md md) 30 from Ext.block xx hdB.out)
  clear xx x
  clear cc0_0 cc1_0 cc2_0
  have ca0_0 := B3.c0 haB.out
  have ca1_0 := B3.c1 haB.out
  have ca2_0 := B3.c2 haB.out
  go_wp2_with fail
  refine (NInverse_calls _ m qa la _ haN.out haO.out (by have := haL.out; omega) (by have := haL.out; omega)).mono ?_
  rintro e w12 hr
  obtain ⟨vi, qi, li, rfl, hx, ho, hq, b1, b2, b3, x⟩ := hr
  obtain ⟨pi, mi, rfl, hx⟩ := hx.v
  have hiN := Lib.hid hx; have hiO := Lib.hid ho; have hiQ := Lib.hid hq
  have hiL : Hid (-48 ≤ qi ∧ qi ≤ 24 ∧ li.length ≤ 24) := Lib.hid (by have := haL.out; omega)
  clear hx ho hq b1 b2 b3
  have xx : Ext w11 w12 := Ext.trans (Ext.refl w11) x
  replace hX := Lib.hid (Ext.trans hX.out xx)
  replace hT := Lib.hid (hT.out.ext xx)
  replace iW := Lib.hid (iW.out.ext xx)
  replace iV := Lib.hid (iV.out.ext xx)
  replace haN := Lib.hid (haN.out.ext xx)
  replace haB := Lib.hid (show B3 w12 (w4.heap.size) (.int .i64 (m : Int)) (.int .i64 qa) (.slice pa ma ma) 30 from Ext.block xx haB.out)
  replace hbN := Lib.hid (hbN.out.ext xx)
  replace hbB := Lib.hid (show B3 w12 (w5.heap.size) (.int .i64 (m : Int)) (.int .i64 qb) (.slice pb mb mb) 30 from Ext.block xx hbB.out)
  replace hcN := Lib.hid (hcN.out.ext xx)
  replace hcB := Lib.hid (show B3 w12 (w6.heap.size) (.int .i64 (m : Int)) (.int .i64 qc) (.slice pc mc mc) 30 from Ext.block xx hcB.out)
  replace iD := Lib.hid (iD.out.ext xx)
  replace hdN := Lib.hid (hdN.out.ext xx)
  replace hdB := Lib.hid (show B3 w12 (w9.heap.size) (.int .i64 (m : Int)) (.int .i64 qd) (.slice pd md md) 30 from Ext.block xx hdB.out)
  clear xx x
  clear ca0_0 ca1_0 ca2_0
  have ca0_0 := B3.c0 haB.out
  have ca1_0 := B3.c1 haB.out
  have ca2_0 := B3.c2 haB.out
  have ca0_1 := B3.c0 (show B3 (w12.alloc (.cells #[.int .i64 (m : Int), .int .i64 qi, .slice pi mi mi] 30)) (w4.heap.size) (.int .i64 (m : Int)) (.int .i64 qa) (.slice pa ma ma) 30 from Ext.block ((Ext.refl w12).alloc (.cells #[.int .i64 (m : Int), .int .i64 qi, .slice pi mi mi] 30)) haB.out)
  have ca1_1 := B3.c1 (show B3 (w12.alloc (.cells #[.int .i64 (m : Int), .int .i64 qi, .slice pi mi mi] 30)) (w4.heap.size) (.int .i64 (m : Int)) (.int .i64 qa) (.slice pa ma ma) 30 from Ext.block ((Ext.refl w12).alloc (.cells #[.int .i64 (m : Int), .int .i64 qi, .slice pi mi mi] 30)) haB.out)
  have ca2_1 := B3.c2 (show B3 (w12.alloc (.cells #[.int .i64 (m : Int), .int .i64 qi, .slice pi mi mi] 30)) (w4.heap.size) (.int .i64 (m : Int)) (.int .i64 qa) (.slice pa ma ma) 30 from Ext.block ((Ext.refl w12).alloc (.cells #[.int .i64 (m : Int), .int .i64 qi, .slice pi mi mi] 30)) haB.out)
  have ci0_1 := B3.c0 (show B3 (w12.alloc (.cells #[.int .i64 (m : Int), .int .i64 qi, .slice pi mi mi] 30)) (w12.heap.size) (.int .i64 (m : Int)) (.int .i64 qi) (.slice pi mi mi) 30 from B3.new _ _ _ _ _)
  have ci1_1 := B3.c1 (show B3 (w12.alloc (.cells #[.int .i64 (m : Int), .int .i64 qi, .slice pi mi mi] 30)) (w12.heap.size) (.int .i64 (m : Int)) (.int .i64 qi) (.slice pi mi mi) 30 from B3.new _ _ _ _ _)
  have ci2_1 := B3.c2 (show B3 (w12.alloc (.cells #[.int .i64 (m : Int), .int .i64 qi, .slice pi mi mi] 30)) (w12.heap.size) (.int .i64 (m : Int)) (.int .i64 qi) (.slice pi mi mi) 30 from B3.new _ _ _ _ _)
  go_wp2_with fail
  refine (Times_calls _ _ m qa qi la li _ (haN.out.ext ((Ext.refl w12).alloc (.cells #[.int .i64 (m : Int), .int .i64 qi, .slice pi mi mi] 30))) (hiN.out.ext ((Ext.refl w12).alloc (.cells #[.int .i64 (m : Int), .int .i64 qi, .slice pi mi mi] 30))) haO.out hiO.out (by have := haL.out; have := hiL.out; omega) (by have := haL.out; have := hiL.out; omega) (by have := haL.out; have := hiL.out; omega)).mono ?_
  rintro e w13 hr
  obtain ⟨vk, qk, lk, rfl, hx, ho, hq, b1, b2, b3, x⟩ := hr
  obtain ⟨pk, mk, rfl, hx⟩ := hx.v
  have hkN := Lib.hid hx; have hkO := Lib.hid ho; have hkQ := Lib.hid hq
  have hkL : Hid (-72 ≤ qk ∧ qk ≤ 96 ∧ lk.length ≤ 48) := Lib.hid (by have := haL.out; have := hiL.out; omega)
  clear hx ho hq b1 b2 b3
  have hiB := Lib.hid (show B3 w13 (w12.heap.size) (.int .i64 (m : Int)) (.int .i64 qi) (.slice pi mi mi) 30 from Ext.block x (show B3 (w12.alloc (.cells #[.int .i64 (m : Int), .int .i64 qi, .slice pi mi mi] 30)) (w12.heap.size) (.int .i64 (m : Int)) (.int .i64 qi) (.slice pi mi mi) 30 from B3.new _ _ _ _ _))
  have xx : Ext w12 w13 := Ext.trans ((Ext.refl w12).alloc (.cells #[.int .i64 (m : Int), .int .i64 qi, .slice pi mi mi] 30)) x
  replace hX := Lib.hid (Ext.trans hX.out xx)
  replace hT := Lib.hid (hT.out.ext xx)
  replace iW := Lib.hid (iW.out.ext xx)
  replace iV := Lib.hid (iV.out.ext xx)
  replace haN := Lib.hid (haN.out.ext xx)
  replace haB := Lib.hid (show B3 w13 (w4.heap.size) (.int .i64 (m : Int)) (.int .i64 qa) (.slice pa ma ma) 30 from Ext.block xx haB.out)
  replace hbN := Lib.hid (hbN.out.ext xx)
  replace hbB := Lib.hid (show B3 w13 (w5.heap.size) (.int .i64 (m : Int)) (.int .i64 qb) (.slice pb mb mb) 30 from Ext.block xx hbB.out)
  replace hcN := Lib.hid (hcN.out.ext xx)
  replace hcB := Lib.hid (show B3 w13 (w6.heap.size) (.int .i64 (m : Int)) (.int .i64 qc) (.slice pc mc mc) 30 from Ext.block xx hcB.out)
  replace iD := Lib.hid (iD.out.ext xx)
  replace hdN := Lib.hid (hdN.out.ext xx)
  replace hdB := Lib.hid (show B3 w13 (w9.heap.size) (.int .i64 (m : Int)) (.int .i64 qd) (.slice pd md md) 30 from Ext.block xx hdB.out)
  replace hiN := Lib.hid (hiN.out.ext xx)
  clear xx x
  clear ca0_0 ca1_0 ca2_0 ca0_1 ca1_1 ca2_1 ci0_1 ci1_1 ci2_1
  have ci0_0 := B3.c0 hiB.out
  have ci1_0 := B3.c1 hiB.out
  have ci2_0 := B3.c2 hiB.out
  have ci0_1 := B3.c0 (show B3 (w13.alloc (.cells #[.int .i64 (m : Int), .int .i64 qk, .slice pk mk mk] 30)) (w12.heap.size) (.int .i64 (m : Int)) (.int .i64 qi) (.slice pi mi mi) 30 from Ext.block ((Ext.refl w13).alloc (.cells #[.int .i64 (m : Int), .int .i64 qk, .slice pk mk mk] 30)) hiB.out)
  have ci1_1 := B3.c1 (show B3 (w13.alloc (.cells #[.int .i64 (m : Int), .int .i64 qk, .slice pk mk mk] 30)) (w12.heap.size) (.int .i64 (m : Int)) (.int .i64 qi) (.slice pi mi mi) 30 from Ext.block ((Ext.refl w13).alloc (.cells #[.int .i64 (m : Int), .int .i64 qk, .slice pk mk mk] 30)) hiB.out)
  have ci2_1 := B3.c2 (show B3 (w13.alloc (.cells #[.int .i64 (m : Int), .int .i64 qk, .slice pk mk mk] 30)) (w12.heap.size) (.int .i64 (m : Int)) (.int .i64 qi) (.slice pi mi mi) 30 from Ext.block ((Ext.refl w13).alloc (.cells #[.int .i64 (m : Int), .int .i64 qk, .slice pk mk mk] 30)) hiB.out)
  have ca0_0 := B3.c0 haB.out
  have ca1_0 := B3.c1 haB.out
  have ca2_0 := B3.c2 haB.out
  have ca0_1 := B3.c0 (show B3 (w13.alloc (.cells #[.int .i64 (m : Int), .int .i64 qk, .slice pk mk mk] 30)) (w4.heap.size) (.int .i64 (m : Int)) (.int .i64 qa) (.slice pa ma ma) 30 from Ext.block ((Ext.refl w13).alloc (.cells #[.int .i64 (m : Int), .int .i64 qk, .slice pk mk mk] 30)) haB.out)
  have ca1_1 := B3.c1 (show B3 (w13.alloc (.cells #[.int .i64 (m : Int), .int .i64 qk, .slice pk mk mk] 30)) (w4.heap.size) (.int .i64 (m : Int)) (.int .i64 qa) (.slice pa ma ma) 30 from Ext.block ((Ext.refl w13).alloc (.cells #[.int .i64 (m : Int), .int .i64 qk, .slice pk mk mk] 30)) haB.out)
  have ca2_1 := B3.c2 (show B3 (w13.alloc (.cells #[.int .i64 (m : Int), .int .i64 qk, .slice pk mk mk] 30)) (w4.heap.size) (.int .i64 (m : Int)) (.int .i64 qa) (.slice pa ma ma) 30 from Ext.block ((Ext.refl w13).alloc (.cells #[.int .i64 (m : Int), .int .i64 qk, .slice pk mk mk] 30)) haB.out)
  go_wp2_with fail
  refine (Times_calls _ _ m qi qa li la _ (hiN.out.ext ((Ext.refl w13).alloc (.cells #[.int .i64 (m : Int), .int .i64 qk, .slice pk mk mk] 30))) (haN.out.ext ((Ext.refl w13).alloc (.cells #[.int .i64 (m : Int), .int .i64 qk, .slice pk mk mk] 30))) hiO.out haO.out (by have := hiL.out; have := haL.out; omega) (by have := hiL.out; have := haL.out; omega) (by have := hiL.out; have := haL.out; omega)).mono ?_
  rintro e w14 hr
  obtain ⟨vo, qo, lo, rfl, hx, ho, hq, b1, b2, b3, x⟩ := hr
  obtain ⟨po, mo, rfl, hx⟩ := hx.v
  have hoN := Lib.hid hx; have hoO := Lib.hid ho; have hoQ := Lib.hid hq
  have hoL : Hid (-72 ≤ qo ∧ qo ≤ 96 ∧ lo.length ≤ 48) := Lib.hid (by have := hiL.out; have := haL.out; omega)
  clear hx ho hq b1 b2 b3
  have hkB := Lib.hid (show B3 w14 (w13.heap.size) (.int .i64 (m : Int)) (.int .i64 qk) (.slice pk mk mk) 30 from Ext.block x (show B3 (w13.alloc (.cells #[.int .i64 (m : Int), .int .i64 qk, .slice pk mk mk] 30)) (w13.heap.size) (.int .i64 (m : Int)) (.int .i64 qk) (.slice pk mk mk) 30 from B3.new _ _ _ _ _))
  have xx : Ext w13 w14 := Ext.trans ((Ext.refl w13).alloc (.cells #[.int .i64 (m : Int), .int .i64 qk, .slice pk mk mk] 30)) x
  replace hX := Lib.hid (Ext.trans hX.out xx)
  replace hT := Lib.hid (hT.out.ext xx)
  replace iW := Lib.hid (iW.out.ext xx)
  replace iV := Lib.hid (iV.out.ext xx)
  replace haN := Lib.hid (haN.out.ext xx)
  replace haB := Lib.hid (show B3 w14 (w4.heap.size) (.int .i64 (m : Int)) (.int .i64 qa) (.slice pa ma ma) 30 from Ext.block xx haB.out)
  replace hbN := Lib.hid (hbN.out.ext xx)
  replace hbB := Lib.hid (show B3 w14 (w5.heap.size) (.int .i64 (m : Int)) (.int .i64 qb) (.slice pb mb mb) 30 from Ext.block xx hbB.out)
  replace hcN := Lib.hid (hcN.out.ext xx)
  replace hcB := Lib.hid (show B3 w14 (w6.heap.size) (.int .i64 (m : Int)) (.int .i64 qc) (.slice pc mc mc) 30 from Ext.block xx hcB.out)
  replace iD := Lib.hid (iD.out.ext xx)
  replace hdN := Lib.hid (hdN.out.ext xx)
  replace hdB := Lib.hid (show B3 w14 (w9.heap.size) (.int .i64 (m : Int)) (.int .i64 qd) (.slice pd md md) 30 from Ext.block xx hdB.out)
  replace hiN := Lib.hid (hiN.out.ext xx)
  replace hiB := Lib.hid (show B3 w14 (w12.heap.size) (.int .i64 (m : Int)) (.int .i64 qi) (.slice pi mi mi) 30 from Ext.block xx hiB.out)
  replace hkN := Lib.hid (hkN.out.ext xx)
  clear xx x
  clear ci0_0 ci1_0 ci2_0 ci0_1 ci1_1 ci2_1 ca0_0 ca1_0 ca2_0 ca0_1 ca1_1 ca2_1
  go_wp2_with fail
  refine (HIn.out _ _ _ (iW.out.ext ((Ext.refl w14).alloc (.cells #[.int .i64 (m : Int), .int .i64 qo, .slice po mo mo] 30)))).mono ?_
  rintro e w15 hr
  obtain ⟨sU, nU, cU, rfl, hnU, hcU, hU, x⟩ := hr.open
  clear hr
  have hoB := Lib.hid (show B3 w15 (w14.heap.size) (.int .i64 (m : Int)) (.int .i64 qo) (.slice po mo mo) 30 from Ext.block x (show B3 (w14.alloc (.cells #[.int .i64 (m : Int), .int .i64 qo, .slice po mo mo] 30)) (w14.heap.size) (.int .i64 (m : Int)) (.int .i64 qo) (.slice po mo mo) 30 from B3.new _ _ _ _ _))
  have xx : Ext w14 w15 := Ext.trans ((Ext.refl w14).alloc (.cells #[.int .i64 (m : Int), .int .i64 qo, .slice po mo mo] 30)) x
  replace hX := Lib.hid (Ext.trans hX.out xx)
  replace hT := Lib.hid (hT.out.ext xx)
  replace iW := Lib.hid (iW.out.ext xx)
  replace iV := Lib.hid (iV.out.ext xx)
  replace haN := Lib.hid (haN.out.ext xx)
  replace haB := Lib.hid (show B3 w15 (w4.heap.size) (.int .i64 (m : Int)) (.int .i64 qa) (.slice pa ma ma) 30 from Ext.block xx haB.out)
  replace hbN := Lib.hid (hbN.out.ext xx)
  replace hbB := Lib.hid (show B3 w15 (w5.heap.size) (.int .i64 (m : Int)) (.int .i64 qb) (.slice pb mb mb) 30 from Ext.block xx hbB.out)
  replace hcN := Lib.hid (hcN.out.ext xx)
  replace hcB := Lib.hid (show B3 w15 (w6.heap.size) (.int .i64 (m : Int)) (.int .i64 qc) (.slice pc mc mc) 30 from Ext.block xx hcB.out)
  replace iD := Lib.hid (iD.out.ext xx)
  replace hdN := Lib.hid (hdN.out.ext xx)
  replace hdB := Lib.hid (show B3 w15 (w9.heap.size) (.int .i64 (m : Int)) (.int .i64 qd) (.slice pd md md) 30 from Ext.block xx hdB.out)
  replace hiN := Lib.hid (hiN.out.ext xx)
  replace hiB := Lib.hid (show B3 w15 (w12.heap.size) (.int .i64 (m : Int)) (.int .i64 qi) (.slice pi mi mi) 30 from Ext.block xx hiB.out)
  replace hkN := Lib.hid (hkN.out.ext xx)
  replace hkB := Lib.hid (show B3 w15 (w13.heap.size) (.int .i64 (m : Int)) (.int .i64 qk) (.slice pk mk mk) 30 from Ext.block xx hkB.out)
  replace hoN := Lib.hid (hoN.out.ext xx)
  clear xx x
  have iU := Lib.hid hU
  clear hU hnU hcU
  go_wp2_with fail
  refine (HnI.out _ _ _ iU.out).mono ?_
  rintro e w16 hr
  obtain ⟨vz, qz, lz, rfl, hx, ho, hq, b1, b2, b3, x⟩ := hr
  obtain ⟨pz, mz, rfl, hx⟩ := hx.v
  have hzN := Lib.hid hx; have hzO := Lib.hid ho; have hzQ := Lib.hid hq
  have hzL : Hid (-24 ≤ qz ∧ qz ≤ 24 ∧ lz.length ≤ 24) := Lib.hid (by have := HlW.out; rw [winvL_len] at *; omega)
  clear hx ho hq b1 b2 b3
  have xx : Ext w15 w16 := Ext.trans (Ext.refl w15) x
  replace hX := Lib.hid (Ext.trans hX.out xx)
  replace hT := Lib.hid (hT.out.ext xx)
  replace iW := Lib.hid (iW.out.ext xx)
  replace iV := Lib.hid (iV.out.ext xx)
  replace haN := Lib.hid (haN.out.ext xx)
  replace haB := Lib.hid (show B3 w16 (w4.heap.size) (.int .i64 (m : Int)) (.int .i64 qa) (.slice pa ma ma) 30 from Ext.block xx haB.out)
  replace hbN := Lib.hid (hbN.out.ext xx)
  replace hbB := Lib.hid (show B3 w16 (w5.heap.size) (.int .i64 (m : Int)) (.int .i64 qb) (.slice pb mb mb) 30 from Ext.block xx hbB.out)
  replace hcN := Lib.hid (hcN.out.ext xx)
  replace hcB := Lib.hid (show B3 w16 (w6.heap.size) (.int .i64 (m : Int)) (.int .i64 qc) (.slice pc mc mc) 30 from Ext.block xx hcB.out)
  replace iD := Lib.hid (iD.out.ext xx)
  replace hdN := Lib.hid (hdN.out.ext xx)
  replace hdB := Lib.hid (show B3 w16 (w9.heap.size) (.int .i64 (m : Int)) (.int .i64 qd) (.slice pd md md) 30 from Ext.block xx hdB.out)
  replace hiN := Lib.hid (hiN.out.ext xx)
  replace hiB := Lib.hid (show B3 w16 (w12.heap.size) (.int .i64 (m : Int)) (.int .i64 qi) (.slice pi mi mi) 30 from Ext.block xx hiB.out)
  replace hkN := Lib.hid (hkN.out.ext xx)
  replace hkB := Lib.hid (show B3 w16 (w13.heap.size) (.int .i64 (m : Int)) (.int .i64 qk) (.slice pk mk mk) 30 from Ext.block xx hkB.out)
  replace hoN := Lib.hid (hoN.out.ext xx)
  replace hoB := Lib.hid (show B3 w16 (w14.heap.size) (.int .i64 (m : Int)) (.int .i64 qo) (.slice po mo mo) 30 from Ext.block xx hoB.out)
  replace iU := Lib.hid (iU.out.ext xx)
  clear xx x
  have huN := Lib.hid (nx_nil w16 m 0)
  have huO := Lib.hid (nfo_nil m1 (by omega : m ≤ 8) (fun _ => rfl) ⟨by omega, by omega⟩ : NFo m 0 [])
  have Eiz := Lib.hid (HLi.out _ _ _ _ _ _ haQ.out hiQ.out hzQ.out hiO.out hzO.out)
  have Ek := Lib.hid (law_k haO.out hiQ.out hkQ.out hkO.out)
  have Eo := Lib.hid (law_o haO.out hiQ.out hoQ.out hoO.out)
  have ci0_0 := B3.c0 hiB.out
  have ci1_0 := B3.c1 hiB.out
  have ci2_0 := B3.c2 hiB.out
  have ci0_1 := B3.c0 (show B3 (w16.alloc (.cells #[.int .i64 (m : Int), .int .i64 qz, .slice pz mz mz] 30)) (w12.heap.size) (.int .i64 (m : Int)) (.int .i64 qi) (.slice pi mi mi) 30 from Ext.block ((Ext.refl w16).alloc (.cells #[.int .i64 (m : Int), .int .i64 qz, .slice pz mz mz] 30)) hiB.out)
  have ci1_1 := B3.c1 (show B3 (w16.alloc (.cells #[.int .i64 (m : Int), .int .i64 qz, .slice pz mz mz] 30)) (w12.heap.size) (.int .i64 (m : Int)) (.int .i64 qi) (.slice pi mi mi) 30 from Ext.block ((Ext.refl w16).alloc (.cells #[.int .i64 (m : Int), .int .i64 qz, .slice pz mz mz] 30)) hiB.out)
  have ci2_1 := B3.c2 (show B3 (w16.alloc (.cells #[.int .i64 (m : Int), .int .i64 qz, .slice pz mz mz] 30)) (w12.heap.size) (.int .i64 (m : Int)) (.int .i64 qi) (.slice pi mi mi) 30 from Ext.block ((Ext.refl w16).alloc (.cells #[.int .i64 (m : Int), .int .i64 qz, .slice pz mz mz] 30)) hiB.out)
  have ci0_2 := B3.c0 (show B3 ((w16.alloc (.cells #[.int .i64 (m : Int), .int .i64 qz, .slice pz mz mz] 30)).alloc (.cells #[.int .i64 (m : Int), .int .i64 0, .slice none 0 0] 30)) (w12.heap.size) (.int .i64 (m : Int)) (.int .i64 qi) (.slice pi mi mi) 30 from Ext.block (((Ext.refl w16).alloc (.cells #[.int .i64 (m : Int), .int .i64 qz, .slice pz mz mz] 30)).alloc (.cells #[.int .i64 (m : Int), .int .i64 0, .slice none 0 0] 30)) hiB.out)
  have ci1_2 := B3.c1 (show B3 ((w16.alloc (.cells #[.int .i64 (m : Int), .int .i64 qz, .slice pz mz mz] 30)).alloc (.cells #[.int .i64 (m : Int), .int .i64 0, .slice none 0 0] 30)) (w12.heap.size) (.int .i64 (m : Int)) (.int .i64 qi) (.slice pi mi mi) 30 from Ext.block (((Ext.refl w16).alloc (.cells #[.int .i64 (m : Int), .int .i64 qz, .slice pz mz mz] 30)).alloc (.cells #[.int .i64 (m : Int), .int .i64 0, .slice none 0 0] 30)) hiB.out)
  have ci2_2 := B3.c2 (show B3 ((w16.alloc (.cells #[.int .i64 (m : Int), .int .i64 qz, .slice pz mz mz] 30)).alloc (.cells #[.int .i64 (m : Int), .int .i64 0, .slice none 0 0] 30)) (w12.heap.size) (.int .i64 (m : Int)) (.int .i64 qi) (.slice pi mi mi) 30 from Ext.block (((Ext.refl w16).alloc (.cells #[.int .i64 (m : Int), .int .i64 qz, .slice pz mz mz] 30)).alloc (.cells #[.int .i64 (m : Int), .int .i64 0, .slice none 0 0] 30)) hiB.out)
  have cz0_1 := B3.c0 (show B3 (w16.alloc (.cells #[.int .i64 (m : Int), .int .i64 qz, .slice pz mz mz] 30)) (w16.heap.size) (.int .i64 (m : Int)) (.int .i64 qz) (.slice pz mz mz) 30 from B3.new _ _ _ _ _)
  have cz1_1 := B3.c1 (show B3 (w16.alloc (.cells #[.int .i64 (m : Int), .int .i64 qz, .slice pz mz mz] 30)) (w16.heap.size) (.int .i64 (m : Int)) (.int .i64 qz) (.slice pz mz mz) 30 from B3.new _ _ _ _ _)
  have cz2_1 := B3.c2 (show B3 (w16.alloc (.cells #[.int .i64 (m : Int), .int .i64 qz, .slice pz mz mz] 30)) (w16.heap.size) (.int .i64 (m : Int)) (.int .i64 qz) (.slice pz mz mz) 30 from B3.new _ _ _ _ _)
  have cz0_2 := B3.c0 (show B3 ((w16.alloc (.cells #[.int .i64 (m : Int), .int .i64 qz, .slice pz mz mz] 30)).alloc (.cells #[.int .i64 (m : Int), .int .i64 0, .slice none 0 0] 30)) (w16.heap.size) (.int .i64 (m : Int)) (.int .i64 qz) (.slice pz mz mz) 30 from Ext.block ((Ext.refl (w16.alloc (.cells #[.int .i64 (m : Int), .int .i64 qz, .slice pz mz mz] 30))).alloc (.cells #[.int .i64 (m : Int), .int .i64 0, .slice none 0 0] 30)) (show B3 (w16.alloc (.cells #[.int .i64 (m : Int), .int .i64 qz, .slice pz mz mz] 30)) (w16.heap.size) (.int .i64 (m : Int)) (.int .i64 qz) (.slice pz mz mz) 30 from B3.new _ _ _ _ _))
  have cz1_2 := B3.c1 (show B3 ((w16.alloc (.cells #[.int .i64 (m : Int), .int .i64 qz, .slice pz mz mz] 30)).alloc (.cells #[.int .i64 (m : Int), .int .i64 0, .slice none 0 0] 30)) (w16.heap.size) (.int .i64 (m : Int)) (.int .i64 qz) (.slice pz mz mz) 30 from Ext.block ((Ext.refl (w16.alloc (.cells #[.int .i64 (m : Int), .int .i64 qz, .slice pz mz mz] 30))).alloc (.cells #[.int .i64 (m : Int), .int .i64 0, .slice none 0 0] 30)) (show B3 (w16.alloc (.cells #[.int .i64 (m : Int), .int .i64 qz, .slice pz mz mz] 30)) (w16.heap.size) (.int .i64 (m : Int)) (.int .i64 qz) (.slice pz mz mz) 30 from B3.new _ _ _ _ _))
  have cz2_2 := B3.c2 (show B3 ((w16.alloc (.cells #[.int .i64 (m : Int), .int .i64 qz, .slice pz mz mz] 30)).alloc (.cells #[.int .i64 (m : Int), .int .i64 0, .slice none 0 0] 30)) (w16.heap.size) (.int .i64 (m : Int)) (.int .i64 qz) (.slice pz mz mz) 30 from Ext.block ((Ext.refl (w16.alloc (.cells #[.int .i64 (m : Int), .int .i64 qz, .slice pz mz mz] 30))).alloc (.cells #[.int .i64 (m : Int), .int .i64 0, .slice none 0 0] 30)) (show B3 (w16.alloc (.cells #[.int .i64 (m : Int), .int .i64 qz, .slice pz mz mz] 30)) (w16.heap.size) (.int .i64 (m : Int)) (.int .i64 qz) (.slice pz mz mz) 30 from B3.new _ _ _ _ _))
  go_wp2_with fail
  refine (NSame_calls _ _ m m qi qz li lz _ (hiN.out.ext (((Ext.refl w16).alloc (.cells #[.int .i64 (m : Int), .int .i64 qz, .slice pz mz mz] 30)).alloc (.cells #[.int .i64 (m : Int), .int .i64 0, .slice none 0 0] 30))).ns (hzN.out.ext (((Ext.refl w16).alloc (.cells #[.int .i64 (m : Int), .int .i64 qz, .slice pz mz mz] 30)).alloc (.cells #[.int .i64 (m : Int), .int .i64 0, .slice none 0 0] 30))).ns (hiO.out.pl.byt hiO.out.n8) (hzO.out.pl.byt hzO.out.n8)).mono ?_
  rintro e w17 ⟨rfl, x⟩
  rw [show nsame (m : Int) m qi qz li lz = true from decide_eq_true ⟨rfl, Eiz.out.1, Eiz.out.2⟩]
  have hzB := Lib.hid (show B3 w17 (w16.heap.size) (.int .i64 (m : Int)) (.int .i64 qz) (.slice pz mz mz) 30 from Ext.block x (show B3 ((w16.alloc (.cells #[.int .i64 (m : Int), .int .i64 qz, .slice pz mz mz] 30)).alloc (.cells #[.int .i64 (m : Int), .int .i64 0, .slice none 0 0] 30)) (w16.heap.size) (.int .i64 (m : Int)) (.int .i64 qz) (.slice pz mz mz) 30 from Ext.block ((Ext.refl (w16.alloc (.cells #[.int .i64 (m : Int), .int .i64 qz, .slice pz mz mz] 30))).alloc (.cells #[.int .i64 (m : Int), .int .i64 0, .slice none 0 0] 30)) (show B3 (w16.alloc (.cells #[.int .i64 (m : Int), .int .i64 qz, .slice pz mz mz] 30)) (w16.heap.size) (.int .i64 (m : Int)) (.int .i64 qz) (.slice pz mz mz) 30 from B3.new _ _ _ _ _)))
  have huB := Lib.hid (show B3 w17 (w16.heap.size + 1) (.int .i64 (m : Int)) (.int .i64 0) (.slice none 0 0) 30 from Ext.block x (show B3 ((w16.alloc (.cells #[.int .i64 (m : Int), .int .i64 qz, .slice pz mz mz] 30)).alloc (.cells #[.int .i64 (m : Int), .int .i64 0, .slice none 0 0] 30)) (w16.heap.size + 1) (.int .i64 (m : Int)) (.int .i64 0) (.slice none 0 0) 30 from by have := B3.new (w16.alloc (.cells #[.int .i64 (m : Int), .int .i64 qz, .slice pz mz mz] 30)) (.int .i64 (m : Int)) (.int .i64 0) (.slice none 0 0) 30; simpa using this))
  have xx : Ext w16 w17 := Ext.trans (((Ext.refl w16).alloc (.cells #[.int .i64 (m : Int), .int .i64 qz, .slice pz mz mz] 30)).alloc (.cells #[.int .i64 (m : Int), .int .i64 0, .slice none 0 0] 30)) x
  replace hX := Lib.hid (Ext.trans hX.out xx)
  replace hT := Lib.hid (hT.out.ext xx)
  replace iW := Lib.hid (iW.out.ext xx)
  replace iV := Lib.hid (iV.out.ext xx)
  replace haN := Lib.hid (haN.out.ext xx)
  replace haB := Lib.hid (show B3 w17 (w4.heap.size) (.int .i64 (m : Int)) (.int .i64 qa) (.slice pa ma ma) 30 from Ext.block xx haB.out)
  replace hbN := Lib.hid (hbN.out.ext xx)
  replace hbB := Lib.hid (show B3 w17 (w5.heap.size) (.int .i64 (m : Int)) (.int .i64 qb) (.slice pb mb mb) 30 from Ext.block xx hbB.out)
  replace hcN := Lib.hid (hcN.out.ext xx)
  replace hcB := Lib.hid (show B3 w17 (w6.heap.size) (.int .i64 (m : Int)) (.int .i64 qc) (.slice pc mc mc) 30 from Ext.block xx hcB.out)
  replace iD := Lib.hid (iD.out.ext xx)
  replace hdN := Lib.hid (hdN.out.ext xx)
  replace hdB := Lib.hid (show B3 w17 (w9.heap.size) (.int .i64 (m : Int)) (.int .i64 qd) (.slice pd md md) 30 from Ext.block xx hdB.out)
  replace hiN := Lib.hid (hiN.out.ext xx)
  replace hiB := Lib.hid (show B3 w17 (w12.heap.size) (.int .i64 (m : Int)) (.int .i64 qi) (.slice pi mi mi) 30 from Ext.block xx hiB.out)
  replace hkN := Lib.hid (hkN.out.ext xx)
  replace hkB := Lib.hid (show B3 w17 (w13.heap.size) (.int .i64 (m : Int)) (.int .i64 qk) (.slice pk mk mk) 30 from Ext.block xx hkB.out)
  replace hoN := Lib.hid (hoN.out.ext xx)
  replace hoB := Lib.hid (show B3 w17 (w14.heap.size) (.int .i64 (m : Int)) (.int .i64 qo) (.slice po mo mo) 30 from Ext.block xx hoB.out)
  replace iU := Lib.hid (iU.out.ext xx)
  replace hzN := Lib.hid (hzN.out.ext xx)
  replace huN := Lib.hid (huN.out.ext xx)
  clear xx x
  clear ci0_0 ci1_0 ci2_0 ci0_1 ci1_1 ci2_1 ci0_2 ci1_2 ci2_2 cz0_1 cz1_1 cz2_1 cz0_2 cz1_2 cz2_2
  have ck0_0 := B3.c0 hkB.out
  have ck1_0 := B3.c1 hkB.out
  have ck2_0 := B3.c2 hkB.out
  have cu0_0 := B3.c0 huB.out
  have cu1_0 := B3.c1 huB.out
  have cu2_0 := B3.c2 huB.out
  go_wp2_with fail
  refine (NSame_calls _ _ m m qk 0 lk [] _ hkN.out.ns huN.out.ns (hkO.out.pl.byt hkO.out.n8) (huO.out.pl.byt huO.out.n8)).mono ?_
  rintro e w18 ⟨rfl, x⟩
  rw [show nsame (m : Int) m qk 0 lk [] = true from decide_eq_true ⟨rfl, Ek.out.1, Ek.out.2⟩]
  have xx : Ext w17 w18 := Ext.trans (Ext.refl w17) x
  replace hX := Lib.hid (Ext.trans hX.out xx)
  replace hT := Lib.hid (hT.out.ext xx)
  replace iW := Lib.hid (iW.out.ext xx)
  replace iV := Lib.hid (iV.out.ext xx)
  replace haN := Lib.hid (haN.out.ext xx)
  replace haB := Lib.hid (show B3 w18 (w4.heap.size) (.int .i64 (m : Int)) (.int .i64 qa) (.slice pa ma ma) 30 from Ext.block xx haB.out)
  replace hbN := Lib.hid (hbN.out.ext xx)
  replace hbB := Lib.hid (show B3 w18 (w5.heap.size) (.int .i64 (m : Int)) (.int .i64 qb) (.slice pb mb mb) 30 from Ext.block xx hbB.out)
  replace hcN := Lib.hid (hcN.out.ext xx)
  replace hcB := Lib.hid (show B3 w18 (w6.heap.size) (.int .i64 (m : Int)) (.int .i64 qc) (.slice pc mc mc) 30 from Ext.block xx hcB.out)
  replace iD := Lib.hid (iD.out.ext xx)
  replace hdN := Lib.hid (hdN.out.ext xx)
  replace hdB := Lib.hid (show B3 w18 (w9.heap.size) (.int .i64 (m : Int)) (.int .i64 qd) (.slice pd md md) 30 from Ext.block xx hdB.out)
  replace hiN := Lib.hid (hiN.out.ext xx)
  replace hiB := Lib.hid (show B3 w18 (w12.heap.size) (.int .i64 (m : Int)) (.int .i64 qi) (.slice pi mi mi) 30 from Ext.block xx hiB.out)
  replace hkN := Lib.hid (hkN.out.ext xx)
  replace hkB := Lib.hid (show B3 w18 (w13.heap.size) (.int .i64 (m : Int)) (.int .i64 qk) (.slice pk mk mk) 30 from Ext.block xx hkB.out)
  replace hoN := Lib.hid (hoN.out.ext xx)
  replace hoB := Lib.hid (show B3 w18 (w14.heap.size) (.int .i64 (m : Int)) (.int .i64 qo) (.slice po mo mo) 30 from Ext.block xx hoB.out)
  replace iU := Lib.hid (iU.out.ext xx)
  replace hzN := Lib.hid (hzN.out.ext xx)
  replace huN := Lib.hid (huN.out.ext xx)
  replace hzB := Lib.hid (show B3 w18 (w16.heap.size) (.int .i64 (m : Int)) (.int .i64 qz) (.slice pz mz mz) 30 from Ext.block xx hzB.out)
  replace huB := Lib.hid (show B3 w18 (w16.heap.size + 1) (.int .i64 (m : Int)) (.int .i64 0) (.slice none 0 0) 30 from Ext.block xx huB.out)
  clear xx x
  clear ck0_0 ck1_0 ck2_0 cu0_0 cu1_0 cu2_0
  have co0_0 := B3.c0 hoB.out
  have co1_0 := B3.c1 hoB.out
  have co2_0 := B3.c2 hoB.out
  have cu0_0 := B3.c0 huB.out
  have cu1_0 := B3.c1 huB.out
  have cu2_0 := B3.c2 huB.out
  go_wp2_with fail
  refine (NSame_calls _ _ m m qo 0 lo [] _ hoN.out.ns huN.out.ns (hoO.out.pl.byt hoO.out.n8) (huO.out.pl.byt huO.out.n8)).mono ?_
  rintro e w19 ⟨rfl, x⟩
  rw [show nsame (m : Int) m qo 0 lo [] = true from decide_eq_true ⟨rfl, Eo.out.1, Eo.out.2⟩]
  have xx : Ext w18 w19 := Ext.trans (Ext.refl w18) x
  replace hX := Lib.hid (Ext.trans hX.out xx)
  replace hT := Lib.hid (hT.out.ext xx)
  replace iW := Lib.hid (iW.out.ext xx)
  replace iV := Lib.hid (iV.out.ext xx)
  replace haN := Lib.hid (haN.out.ext xx)
  replace haB := Lib.hid (show B3 w19 (w4.heap.size) (.int .i64 (m : Int)) (.int .i64 qa) (.slice pa ma ma) 30 from Ext.block xx haB.out)
  replace hbN := Lib.hid (hbN.out.ext xx)
  replace hbB := Lib.hid (show B3 w19 (w5.heap.size) (.int .i64 (m : Int)) (.int .i64 qb) (.slice pb mb mb) 30 from Ext.block xx hbB.out)
  replace hcN := Lib.hid (hcN.out.ext xx)
  replace hcB := Lib.hid (show B3 w19 (w6.heap.size) (.int .i64 (m : Int)) (.int .i64 qc) (.slice pc mc mc) 30 from Ext.block xx hcB.out)
  replace iD := Lib.hid (iD.out.ext xx)
  replace hdN := Lib.hid (hdN.out.ext xx)
  replace hdB := Lib.hid (show B3 w19 (w9.heap.size) (.int .i64 (m : Int)) (.int .i64 qd) (.slice pd md md) 30 from Ext.block xx hdB.out)
  replace hiN := Lib.hid (hiN.out.ext xx)
  replace hiB := Lib.hid (show B3 w19 (w12.heap.size) (.int .i64 (m : Int)) (.int .i64 qi) (.slice pi mi mi) 30 from Ext.block xx hiB.out)
  replace hkN := Lib.hid (hkN.out.ext xx)
  replace hkB := Lib.hid (show B3 w19 (w13.heap.size) (.int .i64 (m : Int)) (.int .i64 qk) (.slice pk mk mk) 30 from Ext.block xx hkB.out)
  replace hoN := Lib.hid (hoN.out.ext xx)
  replace hoB := Lib.hid (show B3 w19 (w14.heap.size) (.int .i64 (m : Int)) (.int .i64 qo) (.slice po mo mo) 30 from Ext.block xx hoB.out)
  replace iU := Lib.hid (iU.out.ext xx)
  replace hzN := Lib.hid (hzN.out.ext xx)
  replace huN := Lib.hid (huN.out.ext xx)
  replace hzB := Lib.hid (show B3 w19 (w16.heap.size) (.int .i64 (m : Int)) (.int .i64 qz) (.slice pz mz mz) 30 from Ext.block xx hzB.out)
  replace huB := Lib.hid (show B3 w19 (w16.heap.size + 1) (.int .i64 (m : Int)) (.int .i64 0) (.slice none 0 0) 30 from Ext.block xx huB.out)
  clear xx x
  clear co0_0 co1_0 co2_0 cu0_0 cu1_0 cu2_0
  have ci0_0 := B3.c0 hiB.out
  have ci1_0 := B3.c1 hiB.out
  have ci2_0 := B3.c2 hiB.out
  go_wp2_with fail
  refine (Clipped_calls _ m qi li _ hiN.out).mono ?_
  rintro e w20 ⟨rfl, x⟩
  have xx : Ext w19 w20 := Ext.trans (Ext.refl w19) x
  replace hX := Lib.hid (Ext.trans hX.out xx)
  replace hT := Lib.hid (hT.out.ext xx)
  replace iW := Lib.hid (iW.out.ext xx)
  replace iV := Lib.hid (iV.out.ext xx)
  replace haN := Lib.hid (haN.out.ext xx)
  replace haB := Lib.hid (show B3 w20 (w4.heap.size) (.int .i64 (m : Int)) (.int .i64 qa) (.slice pa ma ma) 30 from Ext.block xx haB.out)
  replace hbN := Lib.hid (hbN.out.ext xx)
  replace hbB := Lib.hid (show B3 w20 (w5.heap.size) (.int .i64 (m : Int)) (.int .i64 qb) (.slice pb mb mb) 30 from Ext.block xx hbB.out)
  replace hcN := Lib.hid (hcN.out.ext xx)
  replace hcB := Lib.hid (show B3 w20 (w6.heap.size) (.int .i64 (m : Int)) (.int .i64 qc) (.slice pc mc mc) 30 from Ext.block xx hcB.out)
  replace iD := Lib.hid (iD.out.ext xx)
  replace hdN := Lib.hid (hdN.out.ext xx)
  replace hdB := Lib.hid (show B3 w20 (w9.heap.size) (.int .i64 (m : Int)) (.int .i64 qd) (.slice pd md md) 30 from Ext.block xx hdB.out)
  replace hiN := Lib.hid (hiN.out.ext xx)
  replace hiB := Lib.hid (show B3 w20 (w12.heap.size) (.int .i64 (m : Int)) (.int .i64 qi) (.slice pi mi mi) 30 from Ext.block xx hiB.out)
  replace hkN := Lib.hid (hkN.out.ext xx)
  replace hkB := Lib.hid (show B3 w20 (w13.heap.size) (.int .i64 (m : Int)) (.int .i64 qk) (.slice pk mk mk) 30 from Ext.block xx hkB.out)
  replace hoN := Lib.hid (hoN.out.ext xx)
  replace hoB := Lib.hid (show B3 w20 (w14.heap.size) (.int .i64 (m : Int)) (.int .i64 qo) (.slice po mo mo) 30 from Ext.block xx hoB.out)
  replace iU := Lib.hid (iU.out.ext xx)
  replace hzN := Lib.hid (hzN.out.ext xx)
  replace huN := Lib.hid (huN.out.ext xx)
  replace hzB := Lib.hid (show B3 w20 (w16.heap.size) (.int .i64 (m : Int)) (.int .i64 qz) (.slice pz mz mz) 30 from Ext.block xx hzB.out)
  replace huB := Lib.hid (show B3 w20 (w16.heap.size + 1) (.int .i64 (m : Int)) (.int .i64 0) (.slice none 0 0) 30 from Ext.block xx huB.out)
  clear xx x
  clear ci0_0 ci1_0 ci2_0
  by_cases hm1 : m = 1
  · have e1 : ((m : Int) == 1) = true := by simp; omega
    have htN := Lib.hid (nx_nil w20 m 0)
    have htO := Lib.hid (nfo_nil m1 (by omega : m ≤ 8) (fun e => by omega) ⟨by omega, by omega⟩ : NFo m 0 [])
    clear hm1
    have ca0_0 := B3.c0 haB.out
    have ca1_0 := B3.c1 haB.out
    have ca2_0 := B3.c2 haB.out
    have ca0_1 := B3.c0 (show B3 (w20.alloc (.cells #[.int .i64 (m : Int), .int .i64 0, .slice none 0 0] 30)) (w4.heap.size) (.int .i64 (m : Int)) (.int .i64 qa) (.slice pa ma ma) 30 from Ext.block ((Ext.refl w20).alloc (.cells #[.int .i64 (m : Int), .int .i64 0, .slice none 0 0] 30)) haB.out)
    have ca1_1 := B3.c1 (show B3 (w20.alloc (.cells #[.int .i64 (m : Int), .int .i64 0, .slice none 0 0] 30)) (w4.heap.size) (.int .i64 (m : Int)) (.int .i64 qa) (.slice pa ma ma) 30 from Ext.block ((Ext.refl w20).alloc (.cells #[.int .i64 (m : Int), .int .i64 0, .slice none 0 0] 30)) haB.out)
    have ca2_1 := B3.c2 (show B3 (w20.alloc (.cells #[.int .i64 (m : Int), .int .i64 0, .slice none 0 0] 30)) (w4.heap.size) (.int .i64 (m : Int)) (.int .i64 qa) (.slice pa ma ma) 30 from Ext.block ((Ext.refl w20).alloc (.cells #[.int .i64 (m : Int), .int .i64 0, .slice none 0 0] 30)) haB.out)
    have ct0_1 := B3.c0 (show B3 (w20.alloc (.cells #[.int .i64 (m : Int), .int .i64 0, .slice none 0 0] 30)) (w20.heap.size) (.int .i64 (m : Int)) (.int .i64 0) (.slice none 0 0) 30 from B3.new _ _ _ _ _)
    have ct1_1 := B3.c1 (show B3 (w20.alloc (.cells #[.int .i64 (m : Int), .int .i64 0, .slice none 0 0] 30)) (w20.heap.size) (.int .i64 (m : Int)) (.int .i64 0) (.slice none 0 0) 30 from B3.new _ _ _ _ _)
    have ct2_1 := B3.c2 (show B3 (w20.alloc (.cells #[.int .i64 (m : Int), .int .i64 0, .slice none 0 0] 30)) (w20.heap.size) (.int .i64 (m : Int)) (.int .i64 0) (.slice none 0 0) 30 from B3.new _ _ _ _ _)
    go_wp2_with fail
    refine (Times_calls _ _ m qa 0 la [] _ (haN.out.ext ((Ext.refl w20).alloc (.cells #[.int .i64 (m : Int), .int .i64 0, .slice none 0 0] 30))) (htN.out.ext ((Ext.refl w20).alloc (.cells #[.int .i64 (m : Int), .int .i64 0, .slice none 0 0] 30))) haO.out htO.out (by have := haL.out; omega) (by have := haL.out; simp; omega) (by have := haL.out; simp; omega)).mono ?_
    rintro e w21 hr
    obtain ⟨vs, qs, ls, rfl, hx, ho, hq, b1, b2, b3, x⟩ := hr
    obtain ⟨ps, ms, rfl, hx⟩ := hx.v
    have hsN := Lib.hid hx; have hsO := Lib.hid ho; have hsQ := Lib.hid hq
    clear hx ho hq b1 b2 b3
    have htB := Lib.hid (show B3 w21 (w20.heap.size) (.int .i64 (m : Int)) (.int .i64 0) (.slice none 0 0) 30 from Ext.block x (show B3 (w20.alloc (.cells #[.int .i64 (m : Int), .int .i64 0, .slice none 0 0] 30)) (w20.heap.size) (.int .i64 (m : Int)) (.int .i64 0) (.slice none 0 0) 30 from B3.new _ _ _ _ _))
    have xx : Ext w20 w21 := Ext.trans ((Ext.refl w20).alloc (.cells #[.int .i64 (m : Int), .int .i64 0, .slice none 0 0] 30)) x
    replace hX := Lib.hid (Ext.trans hX.out xx)
    replace hT := Lib.hid (hT.out.ext xx)
    replace iW := Lib.hid (iW.out.ext xx)
    replace iV := Lib.hid (iV.out.ext xx)
    replace haN := Lib.hid (haN.out.ext xx)
    replace haB := Lib.hid (show B3 w21 (w4.heap.size) (.int .i64 (m : Int)) (.int .i64 qa) (.slice pa ma ma) 30 from Ext.block xx haB.out)
    replace hbN := Lib.hid (hbN.out.ext xx)
    replace hbB := Lib.hid (show B3 w21 (w5.heap.size) (.int .i64 (m : Int)) (.int .i64 qb) (.slice pb mb mb) 30 from Ext.block xx hbB.out)
    replace hcN := Lib.hid (hcN.out.ext xx)
    replace hcB := Lib.hid (show B3 w21 (w6.heap.size) (.int .i64 (m : Int)) (.int .i64 qc) (.slice pc mc mc) 30 from Ext.block xx hcB.out)
    replace iD := Lib.hid (iD.out.ext xx)
    replace hdN := Lib.hid (hdN.out.ext xx)
    replace hdB := Lib.hid (show B3 w21 (w9.heap.size) (.int .i64 (m : Int)) (.int .i64 qd) (.slice pd md md) 30 from Ext.block xx hdB.out)
    replace hiN := Lib.hid (hiN.out.ext xx)
    replace hiB := Lib.hid (show B3 w21 (w12.heap.size) (.int .i64 (m : Int)) (.int .i64 qi) (.slice pi mi mi) 30 from Ext.block xx hiB.out)
    replace hkN := Lib.hid (hkN.out.ext xx)
    replace hkB := Lib.hid (show B3 w21 (w13.heap.size) (.int .i64 (m : Int)) (.int .i64 qk) (.slice pk mk mk) 30 from Ext.block xx hkB.out)
    replace hoN := Lib.hid (hoN.out.ext xx)
    replace hoB := Lib.hid (show B3 w21 (w14.heap.size) (.int .i64 (m : Int)) (.int .i64 qo) (.slice po mo mo) 30 from Ext.block xx hoB.out)
    replace iU := Lib.hid (iU.out.ext xx)
    replace hzN := Lib.hid (hzN.out.ext xx)
    replace huN := Lib.hid (huN.out.ext xx)
    replace hzB := Lib.hid (show B3 w21 (w16.heap.size) (.int .i64 (m : Int)) (.int .i64 qz) (.slice pz mz mz) 30 from Ext.block xx hzB.out)
    replace huB := Lib.hid (show B3 w21 (w16.heap.size + 1) (.int .i64 (m : Int)) (.int .i64 0) (.slice none 0 0) 30 from Ext.block xx huB.out)
    replace htN := Lib.hid (htN.out.ext xx)
    clear xx x
    clear ca0_0 ca1_0 ca2_0 ca0_1 ca1_1 ca2_1 ct0_1 ct1_1 ct2_1
    have ct0_0 := B3.c0 htB.out
    have ct1_0 := B3.c1 htB.out
    have ct2_0 := B3.c2 htB.out
    have ct0_1 := B3.c0 (show B3 (w21.alloc (.cells #[.int .i64 (m : Int), .int .i64 qs, .slice ps ms ms] 30)) (w20.heap.size) (.int .i64 (m : Int)) (.int .i64 0) (.slice none 0 0) 30 from Ext.block ((Ext.refl w21).alloc (.cells #[.int .i64 (m : Int), .int .i64 qs, .slice ps ms ms] 30)) htB.out)
    have ct1_1 := B3.c1 (show B3 (w21.alloc (.cells #[.int .i64 (m : Int), .int .i64 qs, .slice ps ms ms] 30)) (w20.heap.size) (.int .i64 (m : Int)) (.int .i64 0) (.slice none 0 0) 30 from Ext.block ((Ext.refl w21).alloc (.cells #[.int .i64 (m : Int), .int .i64 qs, .slice ps ms ms] 30)) htB.out)
    have ct2_1 := B3.c2 (show B3 (w21.alloc (.cells #[.int .i64 (m : Int), .int .i64 qs, .slice ps ms ms] 30)) (w20.heap.size) (.int .i64 (m : Int)) (.int .i64 0) (.slice none 0 0) 30 from Ext.block ((Ext.refl w21).alloc (.cells #[.int .i64 (m : Int), .int .i64 qs, .slice ps ms ms] 30)) htB.out)
    have ca0_0 := B3.c0 haB.out
    have ca1_0 := B3.c1 haB.out
    have ca2_0 := B3.c2 haB.out
    have ca0_1 := B3.c0 (show B3 (w21.alloc (.cells #[.int .i64 (m : Int), .int .i64 qs, .slice ps ms ms] 30)) (w4.heap.size) (.int .i64 (m : Int)) (.int .i64 qa) (.slice pa ma ma) 30 from Ext.block ((Ext.refl w21).alloc (.cells #[.int .i64 (m : Int), .int .i64 qs, .slice ps ms ms] 30)) haB.out)
    have ca1_1 := B3.c1 (show B3 (w21.alloc (.cells #[.int .i64 (m : Int), .int .i64 qs, .slice ps ms ms] 30)) (w4.heap.size) (.int .i64 (m : Int)) (.int .i64 qa) (.slice pa ma ma) 30 from Ext.block ((Ext.refl w21).alloc (.cells #[.int .i64 (m : Int), .int .i64 qs, .slice ps ms ms] 30)) haB.out)
    have ca2_1 := B3.c2 (show B3 (w21.alloc (.cells #[.int .i64 (m : Int), .int .i64 qs, .slice ps ms ms] 30)) (w4.heap.size) (.int .i64 (m : Int)) (.int .i64 qa) (.slice pa ma ma) 30 from Ext.block ((Ext.refl w21).alloc (.cells #[.int .i64 (m : Int), .int .i64 qs, .slice ps ms ms] 30)) haB.out)
    go_wp2_with fail
    refine (Times_calls _ _ m 0 qa [] la _ (htN.out.ext ((Ext.refl w21).alloc (.cells #[.int .i64 (m : Int), .int .i64 qs, .slice ps ms ms] 30))) (haN.out.ext ((Ext.refl w21).alloc (.cells #[.int .i64 (m : Int), .int .i64 qs, .slice ps ms ms] 30))) htO.out haO.out (by have := haL.out; omega) (by have := haL.out; simp; omega) (by have := haL.out; simp; omega)).mono ?_
    rintro e w22 hr
    obtain ⟨vr, qr, lr, rfl, hx, ho, hq, b1, b2, b3, x⟩ := hr
    obtain ⟨pr, mr, rfl, hx⟩ := hx.v
    have hrN := Lib.hid hx; have hrO := Lib.hid ho; have hrQ := Lib.hid hq
    clear hx ho hq b1 b2 b3
    have hsB := Lib.hid (show B3 w22 (w21.heap.size) (.int .i64 (m : Int)) (.int .i64 qs) (.slice ps ms ms) 30 from Ext.block x (show B3 (w21.alloc (.cells #[.int .i64 (m : Int), .int .i64 qs, .slice ps ms ms] 30)) (w21.heap.size) (.int .i64 (m : Int)) (.int .i64 qs) (.slice ps ms ms) 30 from B3.new _ _ _ _ _))
    have xx : Ext w21 w22 := Ext.trans ((Ext.refl w21).alloc (.cells #[.int .i64 (m : Int), .int .i64 qs, .slice ps ms ms] 30)) x
    replace hX := Lib.hid (Ext.trans hX.out xx)
    replace hT := Lib.hid (hT.out.ext xx)
    replace iW := Lib.hid (iW.out.ext xx)
    replace iV := Lib.hid (iV.out.ext xx)
    replace haN := Lib.hid (haN.out.ext xx)
    replace haB := Lib.hid (show B3 w22 (w4.heap.size) (.int .i64 (m : Int)) (.int .i64 qa) (.slice pa ma ma) 30 from Ext.block xx haB.out)
    replace hbN := Lib.hid (hbN.out.ext xx)
    replace hbB := Lib.hid (show B3 w22 (w5.heap.size) (.int .i64 (m : Int)) (.int .i64 qb) (.slice pb mb mb) 30 from Ext.block xx hbB.out)
    replace hcN := Lib.hid (hcN.out.ext xx)
    replace hcB := Lib.hid (show B3 w22 (w6.heap.size) (.int .i64 (m : Int)) (.int .i64 qc) (.slice pc mc mc) 30 from Ext.block xx hcB.out)
    replace iD := Lib.hid (iD.out.ext xx)
    replace hdN := Lib.hid (hdN.out.ext xx)
    replace hdB := Lib.hid (show B3 w22 (w9.heap.size) (.int .i64 (m : Int)) (.int .i64 qd) (.slice pd md md) 30 from Ext.block xx hdB.out)
    replace hiN := Lib.hid (hiN.out.ext xx)
    replace hiB := Lib.hid (show B3 w22 (w12.heap.size) (.int .i64 (m : Int)) (.int .i64 qi) (.slice pi mi mi) 30 from Ext.block xx hiB.out)
    replace hkN := Lib.hid (hkN.out.ext xx)
    replace hkB := Lib.hid (show B3 w22 (w13.heap.size) (.int .i64 (m : Int)) (.int .i64 qk) (.slice pk mk mk) 30 from Ext.block xx hkB.out)
    replace hoN := Lib.hid (hoN.out.ext xx)
    replace hoB := Lib.hid (show B3 w22 (w14.heap.size) (.int .i64 (m : Int)) (.int .i64 qo) (.slice po mo mo) 30 from Ext.block xx hoB.out)
    replace iU := Lib.hid (iU.out.ext xx)
    replace hzN := Lib.hid (hzN.out.ext xx)
    replace huN := Lib.hid (huN.out.ext xx)
    replace hzB := Lib.hid (show B3 w22 (w16.heap.size) (.int .i64 (m : Int)) (.int .i64 qz) (.slice pz mz mz) 30 from Ext.block xx hzB.out)
    replace huB := Lib.hid (show B3 w22 (w16.heap.size + 1) (.int .i64 (m : Int)) (.int .i64 0) (.slice none 0 0) 30 from Ext.block xx huB.out)
    replace htN := Lib.hid (htN.out.ext xx)
    replace htB := Lib.hid (show B3 w22 (w20.heap.size) (.int .i64 (m : Int)) (.int .i64 0) (.slice none 0 0) 30 from Ext.block xx htB.out)
    replace hsN := Lib.hid (hsN.out.ext xx)
    clear xx x
    clear ct0_0 ct1_0 ct2_0 ct0_1 ct1_1 ct2_1 ca0_0 ca1_0 ca2_0 ca0_1 ca1_1 ca2_1
    have Est := Lib.hid (law_two (P := 0) (by decide) hsQ.out hrQ.out hsO.out hrO.out)
    have cs0_0 := B3.c0 hsB.out
    have cs1_0 := B3.c1 hsB.out
    have cs2_0 := B3.c2 hsB.out
    have cs0_1 := B3.c0 (show B3 (w22.alloc (.cells #[.int .i64 (m : Int), .int .i64 qr, .slice pr mr mr] 30)) (w21.heap.size) (.int .i64 (m : Int)) (.int .i64 qs) (.slice ps ms ms) 30 from Ext.block ((Ext.refl w22).alloc (.cells #[.int .i64 (m : Int), .int .i64 qr, .slice pr mr mr] 30)) hsB.out)
    have cs1_1 := B3.c1 (show B3 (w22.alloc (.cells #[.int .i64 (m : Int), .int .i64 qr, .slice pr mr mr] 30)) (w21.heap.size) (.int .i64 (m : Int)) (.int .i64 qs) (.slice ps ms ms) 30 from Ext.block ((Ext.refl w22).alloc (.cells #[.int .i64 (m : Int), .int .i64 qr, .slice pr mr mr] 30)) hsB.out)
    have cs2_1 := B3.c2 (show B3 (w22.alloc (.cells #[.int .i64 (m : Int), .int .i64 qr, .slice pr mr mr] 30)) (w21.heap.size) (.int .i64 (m : Int)) (.int .i64 qs) (.slice ps ms ms) 30 from Ext.block ((Ext.refl w22).alloc (.cells #[.int .i64 (m : Int), .int .i64 qr, .slice pr mr mr] 30)) hsB.out)
    have cr0_1 := B3.c0 (show B3 (w22.alloc (.cells #[.int .i64 (m : Int), .int .i64 qr, .slice pr mr mr] 30)) (w22.heap.size) (.int .i64 (m : Int)) (.int .i64 qr) (.slice pr mr mr) 30 from B3.new _ _ _ _ _)
    have cr1_1 := B3.c1 (show B3 (w22.alloc (.cells #[.int .i64 (m : Int), .int .i64 qr, .slice pr mr mr] 30)) (w22.heap.size) (.int .i64 (m : Int)) (.int .i64 qr) (.slice pr mr mr) 30 from B3.new _ _ _ _ _)
    have cr2_1 := B3.c2 (show B3 (w22.alloc (.cells #[.int .i64 (m : Int), .int .i64 qr, .slice pr mr mr] 30)) (w22.heap.size) (.int .i64 (m : Int)) (.int .i64 qr) (.slice pr mr mr) 30 from B3.new _ _ _ _ _)
    go_wp2_with fail
    refine (NSame_calls _ _ m m qs qr ls lr _ (hsN.out.ext ((Ext.refl w22).alloc (.cells #[.int .i64 (m : Int), .int .i64 qr, .slice pr mr mr] 30))).ns (hrN.out.ext ((Ext.refl w22).alloc (.cells #[.int .i64 (m : Int), .int .i64 qr, .slice pr mr mr] 30))).ns (hsO.out.pl.byt hsO.out.n8) (hrO.out.pl.byt hrO.out.n8)).mono ?_
    rintro e w23 ⟨rfl, x⟩
    rw [show nsame (m : Int) m qs qr ls lr = true from decide_eq_true ⟨rfl, Est.out.1, Est.out.2⟩]
    have hrB := Lib.hid (show B3 w23 (w22.heap.size) (.int .i64 (m : Int)) (.int .i64 qr) (.slice pr mr mr) 30 from Ext.block x (show B3 (w22.alloc (.cells #[.int .i64 (m : Int), .int .i64 qr, .slice pr mr mr] 30)) (w22.heap.size) (.int .i64 (m : Int)) (.int .i64 qr) (.slice pr mr mr) 30 from B3.new _ _ _ _ _))
    have xx : Ext w22 w23 := Ext.trans ((Ext.refl w22).alloc (.cells #[.int .i64 (m : Int), .int .i64 qr, .slice pr mr mr] 30)) x
    replace hX := Lib.hid (Ext.trans hX.out xx)
    replace hT := Lib.hid (hT.out.ext xx)
    replace iW := Lib.hid (iW.out.ext xx)
    replace iV := Lib.hid (iV.out.ext xx)
    replace haN := Lib.hid (haN.out.ext xx)
    replace haB := Lib.hid (show B3 w23 (w4.heap.size) (.int .i64 (m : Int)) (.int .i64 qa) (.slice pa ma ma) 30 from Ext.block xx haB.out)
    replace hbN := Lib.hid (hbN.out.ext xx)
    replace hbB := Lib.hid (show B3 w23 (w5.heap.size) (.int .i64 (m : Int)) (.int .i64 qb) (.slice pb mb mb) 30 from Ext.block xx hbB.out)
    replace hcN := Lib.hid (hcN.out.ext xx)
    replace hcB := Lib.hid (show B3 w23 (w6.heap.size) (.int .i64 (m : Int)) (.int .i64 qc) (.slice pc mc mc) 30 from Ext.block xx hcB.out)
    replace iD := Lib.hid (iD.out.ext xx)
    replace hdN := Lib.hid (hdN.out.ext xx)
    replace hdB := Lib.hid (show B3 w23 (w9.heap.size) (.int .i64 (m : Int)) (.int .i64 qd) (.slice pd md md) 30 from Ext.block xx hdB.out)
    replace hiN := Lib.hid (hiN.out.ext xx)
    replace hiB := Lib.hid (show B3 w23 (w12.heap.size) (.int .i64 (m : Int)) (.int .i64 qi) (.slice pi mi mi) 30 from Ext.block xx hiB.out)
    replace hkN := Lib.hid (hkN.out.ext xx)
    replace hkB := Lib.hid (show B3 w23 (w13.heap.size) (.int .i64 (m : Int)) (.int .i64 qk) (.slice pk mk mk) 30 from Ext.block xx hkB.out)
    replace hoN := Lib.hid (hoN.out.ext xx)
    replace hoB := Lib.hid (show B3 w23 (w14.heap.size) (.int .i64 (m : Int)) (.int .i64 qo) (.slice po mo mo) 30 from Ext.block xx hoB.out)
    replace iU := Lib.hid (iU.out.ext xx)
    replace hzN := Lib.hid (hzN.out.ext xx)
    replace huN := Lib.hid (huN.out.ext xx)
    replace hzB := Lib.hid (show B3 w23 (w16.heap.size) (.int .i64 (m : Int)) (.int .i64 qz) (.slice pz mz mz) 30 from Ext.block xx hzB.out)
    replace huB := Lib.hid (show B3 w23 (w16.heap.size + 1) (.int .i64 (m : Int)) (.int .i64 0) (.slice none 0 0) 30 from Ext.block xx huB.out)
    replace htN := Lib.hid (htN.out.ext xx)
    replace htB := Lib.hid (show B3 w23 (w20.heap.size) (.int .i64 (m : Int)) (.int .i64 0) (.slice none 0 0) 30 from Ext.block xx htB.out)
    replace hsN := Lib.hid (hsN.out.ext xx)
    replace hsB := Lib.hid (show B3 w23 (w21.heap.size) (.int .i64 (m : Int)) (.int .i64 qs) (.slice ps ms ms) 30 from Ext.block xx hsB.out)
    replace hrN := Lib.hid (hrN.out.ext xx)
    clear xx x
    clear cs0_0 cs1_0 cs2_0 cs0_1 cs1_1 cs2_1 cr0_1 cr1_1 cr2_1
    go_wp2_with fail
    refine (Lives_calls _ hT.out).mono ?_
    rintro e w24 ⟨rfl, x⟩
    have xx : Ext w23 w24 := Ext.trans (Ext.refl w23) x
    replace hX := Lib.hid (Ext.trans hX.out xx)
    replace hT := Lib.hid (hT.out.ext xx)
    replace iW := Lib.hid (iW.out.ext xx)
    replace iV := Lib.hid (iV.out.ext xx)
    replace haN := Lib.hid (haN.out.ext xx)
    replace haB := Lib.hid (show B3 w24 (w4.heap.size) (.int .i64 (m : Int)) (.int .i64 qa) (.slice pa ma ma) 30 from Ext.block xx haB.out)
    replace hbN := Lib.hid (hbN.out.ext xx)
    replace hbB := Lib.hid (show B3 w24 (w5.heap.size) (.int .i64 (m : Int)) (.int .i64 qb) (.slice pb mb mb) 30 from Ext.block xx hbB.out)
    replace hcN := Lib.hid (hcN.out.ext xx)
    replace hcB := Lib.hid (show B3 w24 (w6.heap.size) (.int .i64 (m : Int)) (.int .i64 qc) (.slice pc mc mc) 30 from Ext.block xx hcB.out)
    replace iD := Lib.hid (iD.out.ext xx)
    replace hdN := Lib.hid (hdN.out.ext xx)
    replace hdB := Lib.hid (show B3 w24 (w9.heap.size) (.int .i64 (m : Int)) (.int .i64 qd) (.slice pd md md) 30 from Ext.block xx hdB.out)
    replace hiN := Lib.hid (hiN.out.ext xx)
    replace hiB := Lib.hid (show B3 w24 (w12.heap.size) (.int .i64 (m : Int)) (.int .i64 qi) (.slice pi mi mi) 30 from Ext.block xx hiB.out)
    replace hkN := Lib.hid (hkN.out.ext xx)
    replace hkB := Lib.hid (show B3 w24 (w13.heap.size) (.int .i64 (m : Int)) (.int .i64 qk) (.slice pk mk mk) 30 from Ext.block xx hkB.out)
    replace hoN := Lib.hid (hoN.out.ext xx)
    replace hoB := Lib.hid (show B3 w24 (w14.heap.size) (.int .i64 (m : Int)) (.int .i64 qo) (.slice po mo mo) 30 from Ext.block xx hoB.out)
    replace iU := Lib.hid (iU.out.ext xx)
    replace hzN := Lib.hid (hzN.out.ext xx)
    replace huN := Lib.hid (huN.out.ext xx)
    replace hzB := Lib.hid (show B3 w24 (w16.heap.size) (.int .i64 (m : Int)) (.int .i64 qz) (.slice pz mz mz) 30 from Ext.block xx hzB.out)
    replace huB := Lib.hid (show B3 w24 (w16.heap.size + 1) (.int .i64 (m : Int)) (.int .i64 0) (.slice none 0 0) 30 from Ext.block xx huB.out)
    replace htN := Lib.hid (htN.out.ext xx)
    replace htB := Lib.hid (show B3 w24 (w20.heap.size) (.int .i64 (m : Int)) (.int .i64 0) (.slice none 0 0) 30 from Ext.block xx htB.out)
    replace hsN := Lib.hid (hsN.out.ext xx)
    replace hsB := Lib.hid (show B3 w24 (w21.heap.size) (.int .i64 (m : Int)) (.int .i64 qs) (.slice ps ms ms) 30 from Ext.block xx hsB.out)
    replace hrN := Lib.hid (hrN.out.ext xx)
    replace hrB := Lib.hid (show B3 w24 (w22.heap.size) (.int .i64 (m : Int)) (.int .i64 qr) (.slice pr mr mr) 30 from Ext.block xx hrB.out)
    clear xx x
    go_wp2
    go_ret
    exact ⟨rfl, hX.out⟩
  · have e1 : ((m : Int) == 1) = false := by simp; omega
    have htN := Lib.hid (nx_nil w20 m 2)
    have htO := Lib.hid (nfo_nil m1 (by omega : m ≤ 8) (fun e => by omega) ⟨by omega, by omega⟩ : NFo m 2 [])
    clear hm1
    have ca0_0 := B3.c0 haB.out
    have ca1_0 := B3.c1 haB.out
    have ca2_0 := B3.c2 haB.out
    have ca0_1 := B3.c0 (show B3 (w20.alloc (.cells #[.int .i64 (m : Int), .int .i64 2, .slice none 0 0] 30)) (w4.heap.size) (.int .i64 (m : Int)) (.int .i64 qa) (.slice pa ma ma) 30 from Ext.block ((Ext.refl w20).alloc (.cells #[.int .i64 (m : Int), .int .i64 2, .slice none 0 0] 30)) haB.out)
    have ca1_1 := B3.c1 (show B3 (w20.alloc (.cells #[.int .i64 (m : Int), .int .i64 2, .slice none 0 0] 30)) (w4.heap.size) (.int .i64 (m : Int)) (.int .i64 qa) (.slice pa ma ma) 30 from Ext.block ((Ext.refl w20).alloc (.cells #[.int .i64 (m : Int), .int .i64 2, .slice none 0 0] 30)) haB.out)
    have ca2_1 := B3.c2 (show B3 (w20.alloc (.cells #[.int .i64 (m : Int), .int .i64 2, .slice none 0 0] 30)) (w4.heap.size) (.int .i64 (m : Int)) (.int .i64 qa) (.slice pa ma ma) 30 from Ext.block ((Ext.refl w20).alloc (.cells #[.int .i64 (m : Int), .int .i64 2, .slice none 0 0] 30)) haB.out)
    have ct0_1 := B3.c0 (show B3 (w20.alloc (.cells #[.int .i64 (m : Int), .int .i64 2, .slice none 0 0] 30)) (w20.heap.size) (.int .i64 (m : Int)) (.int .i64 2) (.slice none 0 0) 30 from B3.new _ _ _ _ _)
    have ct1_1 := B3.c1 (show B3 (w20.alloc (.cells #[.int .i64 (m : Int), .int .i64 2, .slice none 0 0] 30)) (w20.heap.size) (.int .i64 (m : Int)) (.int .i64 2) (.slice none 0 0) 30 from B3.new _ _ _ _ _)
    have ct2_1 := B3.c2 (show B3 (w20.alloc (.cells #[.int .i64 (m : Int), .int .i64 2, .slice none 0 0] 30)) (w20.heap.size) (.int .i64 (m : Int)) (.int .i64 2) (.slice none 0 0) 30 from B3.new _ _ _ _ _)
    go_wp2_with fail
    refine (Times_calls _ _ m qa 2 la [] _ (haN.out.ext ((Ext.refl w20).alloc (.cells #[.int .i64 (m : Int), .int .i64 2, .slice none 0 0] 30))) (htN.out.ext ((Ext.refl w20).alloc (.cells #[.int .i64 (m : Int), .int .i64 2, .slice none 0 0] 30))) haO.out htO.out (by have := haL.out; omega) (by have := haL.out; simp; omega) (by have := haL.out; simp; omega)).mono ?_
    rintro e w21 hr
    obtain ⟨vs, qs, ls, rfl, hx, ho, hq, b1, b2, b3, x⟩ := hr
    obtain ⟨ps, ms, rfl, hx⟩ := hx.v
    have hsN := Lib.hid hx; have hsO := Lib.hid ho; have hsQ := Lib.hid hq
    clear hx ho hq b1 b2 b3
    have htB := Lib.hid (show B3 w21 (w20.heap.size) (.int .i64 (m : Int)) (.int .i64 2) (.slice none 0 0) 30 from Ext.block x (show B3 (w20.alloc (.cells #[.int .i64 (m : Int), .int .i64 2, .slice none 0 0] 30)) (w20.heap.size) (.int .i64 (m : Int)) (.int .i64 2) (.slice none 0 0) 30 from B3.new _ _ _ _ _))
    have xx : Ext w20 w21 := Ext.trans ((Ext.refl w20).alloc (.cells #[.int .i64 (m : Int), .int .i64 2, .slice none 0 0] 30)) x
    replace hX := Lib.hid (Ext.trans hX.out xx)
    replace hT := Lib.hid (hT.out.ext xx)
    replace iW := Lib.hid (iW.out.ext xx)
    replace iV := Lib.hid (iV.out.ext xx)
    replace haN := Lib.hid (haN.out.ext xx)
    replace haB := Lib.hid (show B3 w21 (w4.heap.size) (.int .i64 (m : Int)) (.int .i64 qa) (.slice pa ma ma) 30 from Ext.block xx haB.out)
    replace hbN := Lib.hid (hbN.out.ext xx)
    replace hbB := Lib.hid (show B3 w21 (w5.heap.size) (.int .i64 (m : Int)) (.int .i64 qb) (.slice pb mb mb) 30 from Ext.block xx hbB.out)
    replace hcN := Lib.hid (hcN.out.ext xx)
    replace hcB := Lib.hid (show B3 w21 (w6.heap.size) (.int .i64 (m : Int)) (.int .i64 qc) (.slice pc mc mc) 30 from Ext.block xx hcB.out)
    replace iD := Lib.hid (iD.out.ext xx)
    replace hdN := Lib.hid (hdN.out.ext xx)
    replace hdB := Lib.hid (show B3 w21 (w9.heap.size) (.int .i64 (m : Int)) (.int .i64 qd) (.slice pd md md) 30 from Ext.block xx hdB.out)
    replace hiN := Lib.hid (hiN.out.ext xx)
    replace hiB := Lib.hid (show B3 w21 (w12.heap.size) (.int .i64 (m : Int)) (.int .i64 qi) (.slice pi mi mi) 30 from Ext.block xx hiB.out)
    replace hkN := Lib.hid (hkN.out.ext xx)
    replace hkB := Lib.hid (show B3 w21 (w13.heap.size) (.int .i64 (m : Int)) (.int .i64 qk) (.slice pk mk mk) 30 from Ext.block xx hkB.out)
    replace hoN := Lib.hid (hoN.out.ext xx)
    replace hoB := Lib.hid (show B3 w21 (w14.heap.size) (.int .i64 (m : Int)) (.int .i64 qo) (.slice po mo mo) 30 from Ext.block xx hoB.out)
    replace iU := Lib.hid (iU.out.ext xx)
    replace hzN := Lib.hid (hzN.out.ext xx)
    replace huN := Lib.hid (huN.out.ext xx)
    replace hzB := Lib.hid (show B3 w21 (w16.heap.size) (.int .i64 (m : Int)) (.int .i64 qz) (.slice pz mz mz) 30 from Ext.block xx hzB.out)
    replace huB := Lib.hid (show B3 w21 (w16.heap.size + 1) (.int .i64 (m : Int)) (.int .i64 0) (.slice none 0 0) 30 from Ext.block xx huB.out)
    replace htN := Lib.hid (htN.out.ext xx)
    clear xx x
    clear ca0_0 ca1_0 ca2_0 ca0_1 ca1_1 ca2_1 ct0_1 ct1_1 ct2_1
    have ct0_0 := B3.c0 htB.out
    have ct1_0 := B3.c1 htB.out
    have ct2_0 := B3.c2 htB.out
    have ct0_1 := B3.c0 (show B3 (w21.alloc (.cells #[.int .i64 (m : Int), .int .i64 qs, .slice ps ms ms] 30)) (w20.heap.size) (.int .i64 (m : Int)) (.int .i64 2) (.slice none 0 0) 30 from Ext.block ((Ext.refl w21).alloc (.cells #[.int .i64 (m : Int), .int .i64 qs, .slice ps ms ms] 30)) htB.out)
    have ct1_1 := B3.c1 (show B3 (w21.alloc (.cells #[.int .i64 (m : Int), .int .i64 qs, .slice ps ms ms] 30)) (w20.heap.size) (.int .i64 (m : Int)) (.int .i64 2) (.slice none 0 0) 30 from Ext.block ((Ext.refl w21).alloc (.cells #[.int .i64 (m : Int), .int .i64 qs, .slice ps ms ms] 30)) htB.out)
    have ct2_1 := B3.c2 (show B3 (w21.alloc (.cells #[.int .i64 (m : Int), .int .i64 qs, .slice ps ms ms] 30)) (w20.heap.size) (.int .i64 (m : Int)) (.int .i64 2) (.slice none 0 0) 30 from Ext.block ((Ext.refl w21).alloc (.cells #[.int .i64 (m : Int), .int .i64 qs, .slice ps ms ms] 30)) htB.out)
    have ca0_0 := B3.c0 haB.out
    have ca1_0 := B3.c1 haB.out
    have ca2_0 := B3.c2 haB.out
    have ca0_1 := B3.c0 (show B3 (w21.alloc (.cells #[.int .i64 (m : Int), .int .i64 qs, .slice ps ms ms] 30)) (w4.heap.size) (.int .i64 (m : Int)) (.int .i64 qa) (.slice pa ma ma) 30 from Ext.block ((Ext.refl w21).alloc (.cells #[.int .i64 (m : Int), .int .i64 qs, .slice ps ms ms] 30)) haB.out)
    have ca1_1 := B3.c1 (show B3 (w21.alloc (.cells #[.int .i64 (m : Int), .int .i64 qs, .slice ps ms ms] 30)) (w4.heap.size) (.int .i64 (m : Int)) (.int .i64 qa) (.slice pa ma ma) 30 from Ext.block ((Ext.refl w21).alloc (.cells #[.int .i64 (m : Int), .int .i64 qs, .slice ps ms ms] 30)) haB.out)
    have ca2_1 := B3.c2 (show B3 (w21.alloc (.cells #[.int .i64 (m : Int), .int .i64 qs, .slice ps ms ms] 30)) (w4.heap.size) (.int .i64 (m : Int)) (.int .i64 qa) (.slice pa ma ma) 30 from Ext.block ((Ext.refl w21).alloc (.cells #[.int .i64 (m : Int), .int .i64 qs, .slice ps ms ms] 30)) haB.out)
    go_wp2_with fail
    refine (Times_calls _ _ m 2 qa [] la _ (htN.out.ext ((Ext.refl w21).alloc (.cells #[.int .i64 (m : Int), .int .i64 qs, .slice ps ms ms] 30))) (haN.out.ext ((Ext.refl w21).alloc (.cells #[.int .i64 (m : Int), .int .i64 qs, .slice ps ms ms] 30))) htO.out haO.out (by have := haL.out; omega) (by have := haL.out; simp; omega) (by have := haL.out; simp; omega)).mono ?_
    rintro e w22 hr
    obtain ⟨vr, qr, lr, rfl, hx, ho, hq, b1, b2, b3, x⟩ := hr
    obtain ⟨pr, mr, rfl, hx⟩ := hx.v
    have hrN := Lib.hid hx; have hrO := Lib.hid ho; have hrQ := Lib.hid hq
    clear hx ho hq b1 b2 b3
    have hsB := Lib.hid (show B3 w22 (w21.heap.size) (.int .i64 (m : Int)) (.int .i64 qs) (.slice ps ms ms) 30 from Ext.block x (show B3 (w21.alloc (.cells #[.int .i64 (m : Int), .int .i64 qs, .slice ps ms ms] 30)) (w21.heap.size) (.int .i64 (m : Int)) (.int .i64 qs) (.slice ps ms ms) 30 from B3.new _ _ _ _ _))
    have xx : Ext w21 w22 := Ext.trans ((Ext.refl w21).alloc (.cells #[.int .i64 (m : Int), .int .i64 qs, .slice ps ms ms] 30)) x
    replace hX := Lib.hid (Ext.trans hX.out xx)
    replace hT := Lib.hid (hT.out.ext xx)
    replace iW := Lib.hid (iW.out.ext xx)
    replace iV := Lib.hid (iV.out.ext xx)
    replace haN := Lib.hid (haN.out.ext xx)
    replace haB := Lib.hid (show B3 w22 (w4.heap.size) (.int .i64 (m : Int)) (.int .i64 qa) (.slice pa ma ma) 30 from Ext.block xx haB.out)
    replace hbN := Lib.hid (hbN.out.ext xx)
    replace hbB := Lib.hid (show B3 w22 (w5.heap.size) (.int .i64 (m : Int)) (.int .i64 qb) (.slice pb mb mb) 30 from Ext.block xx hbB.out)
    replace hcN := Lib.hid (hcN.out.ext xx)
    replace hcB := Lib.hid (show B3 w22 (w6.heap.size) (.int .i64 (m : Int)) (.int .i64 qc) (.slice pc mc mc) 30 from Ext.block xx hcB.out)
    replace iD := Lib.hid (iD.out.ext xx)
    replace hdN := Lib.hid (hdN.out.ext xx)
    replace hdB := Lib.hid (show B3 w22 (w9.heap.size) (.int .i64 (m : Int)) (.int .i64 qd) (.slice pd md md) 30 from Ext.block xx hdB.out)
    replace hiN := Lib.hid (hiN.out.ext xx)
    replace hiB := Lib.hid (show B3 w22 (w12.heap.size) (.int .i64 (m : Int)) (.int .i64 qi) (.slice pi mi mi) 30 from Ext.block xx hiB.out)
    replace hkN := Lib.hid (hkN.out.ext xx)
    replace hkB := Lib.hid (show B3 w22 (w13.heap.size) (.int .i64 (m : Int)) (.int .i64 qk) (.slice pk mk mk) 30 from Ext.block xx hkB.out)
    replace hoN := Lib.hid (hoN.out.ext xx)
    replace hoB := Lib.hid (show B3 w22 (w14.heap.size) (.int .i64 (m : Int)) (.int .i64 qo) (.slice po mo mo) 30 from Ext.block xx hoB.out)
    replace iU := Lib.hid (iU.out.ext xx)
    replace hzN := Lib.hid (hzN.out.ext xx)
    replace huN := Lib.hid (huN.out.ext xx)
    replace hzB := Lib.hid (show B3 w22 (w16.heap.size) (.int .i64 (m : Int)) (.int .i64 qz) (.slice pz mz mz) 30 from Ext.block xx hzB.out)
    replace huB := Lib.hid (show B3 w22 (w16.heap.size + 1) (.int .i64 (m : Int)) (.int .i64 0) (.slice none 0 0) 30 from Ext.block xx huB.out)
    replace htN := Lib.hid (htN.out.ext xx)
    replace htB := Lib.hid (show B3 w22 (w20.heap.size) (.int .i64 (m : Int)) (.int .i64 2) (.slice none 0 0) 30 from Ext.block xx htB.out)
    replace hsN := Lib.hid (hsN.out.ext xx)
    clear xx x
    clear ct0_0 ct1_0 ct2_0 ct0_1 ct1_1 ct2_1 ca0_0 ca1_0 ca2_0 ca0_1 ca1_1 ca2_1
    have Est := Lib.hid (law_two (P := 2) (by decide) hsQ.out hrQ.out hsO.out hrO.out)
    have cs0_0 := B3.c0 hsB.out
    have cs1_0 := B3.c1 hsB.out
    have cs2_0 := B3.c2 hsB.out
    have cs0_1 := B3.c0 (show B3 (w22.alloc (.cells #[.int .i64 (m : Int), .int .i64 qr, .slice pr mr mr] 30)) (w21.heap.size) (.int .i64 (m : Int)) (.int .i64 qs) (.slice ps ms ms) 30 from Ext.block ((Ext.refl w22).alloc (.cells #[.int .i64 (m : Int), .int .i64 qr, .slice pr mr mr] 30)) hsB.out)
    have cs1_1 := B3.c1 (show B3 (w22.alloc (.cells #[.int .i64 (m : Int), .int .i64 qr, .slice pr mr mr] 30)) (w21.heap.size) (.int .i64 (m : Int)) (.int .i64 qs) (.slice ps ms ms) 30 from Ext.block ((Ext.refl w22).alloc (.cells #[.int .i64 (m : Int), .int .i64 qr, .slice pr mr mr] 30)) hsB.out)
    have cs2_1 := B3.c2 (show B3 (w22.alloc (.cells #[.int .i64 (m : Int), .int .i64 qr, .slice pr mr mr] 30)) (w21.heap.size) (.int .i64 (m : Int)) (.int .i64 qs) (.slice ps ms ms) 30 from Ext.block ((Ext.refl w22).alloc (.cells #[.int .i64 (m : Int), .int .i64 qr, .slice pr mr mr] 30)) hsB.out)
    have cr0_1 := B3.c0 (show B3 (w22.alloc (.cells #[.int .i64 (m : Int), .int .i64 qr, .slice pr mr mr] 30)) (w22.heap.size) (.int .i64 (m : Int)) (.int .i64 qr) (.slice pr mr mr) 30 from B3.new _ _ _ _ _)
    have cr1_1 := B3.c1 (show B3 (w22.alloc (.cells #[.int .i64 (m : Int), .int .i64 qr, .slice pr mr mr] 30)) (w22.heap.size) (.int .i64 (m : Int)) (.int .i64 qr) (.slice pr mr mr) 30 from B3.new _ _ _ _ _)
    have cr2_1 := B3.c2 (show B3 (w22.alloc (.cells #[.int .i64 (m : Int), .int .i64 qr, .slice pr mr mr] 30)) (w22.heap.size) (.int .i64 (m : Int)) (.int .i64 qr) (.slice pr mr mr) 30 from B3.new _ _ _ _ _)
    go_wp2_with fail
    refine (NSame_calls _ _ m m qs qr ls lr _ (hsN.out.ext ((Ext.refl w22).alloc (.cells #[.int .i64 (m : Int), .int .i64 qr, .slice pr mr mr] 30))).ns (hrN.out.ext ((Ext.refl w22).alloc (.cells #[.int .i64 (m : Int), .int .i64 qr, .slice pr mr mr] 30))).ns (hsO.out.pl.byt hsO.out.n8) (hrO.out.pl.byt hrO.out.n8)).mono ?_
    rintro e w23 ⟨rfl, x⟩
    rw [show nsame (m : Int) m qs qr ls lr = true from decide_eq_true ⟨rfl, Est.out.1, Est.out.2⟩]
    have hrB := Lib.hid (show B3 w23 (w22.heap.size) (.int .i64 (m : Int)) (.int .i64 qr) (.slice pr mr mr) 30 from Ext.block x (show B3 (w22.alloc (.cells #[.int .i64 (m : Int), .int .i64 qr, .slice pr mr mr] 30)) (w22.heap.size) (.int .i64 (m : Int)) (.int .i64 qr) (.slice pr mr mr) 30 from B3.new _ _ _ _ _))
    have xx : Ext w22 w23 := Ext.trans ((Ext.refl w22).alloc (.cells #[.int .i64 (m : Int), .int .i64 qr, .slice pr mr mr] 30)) x
    replace hX := Lib.hid (Ext.trans hX.out xx)
    replace hT := Lib.hid (hT.out.ext xx)
    replace iW := Lib.hid (iW.out.ext xx)
    replace iV := Lib.hid (iV.out.ext xx)
    replace haN := Lib.hid (haN.out.ext xx)
    replace haB := Lib.hid (show B3 w23 (w4.heap.size) (.int .i64 (m : Int)) (.int .i64 qa) (.slice pa ma ma) 30 from Ext.block xx haB.out)
    replace hbN := Lib.hid (hbN.out.ext xx)
    replace hbB := Lib.hid (show B3 w23 (w5.heap.size) (.int .i64 (m : Int)) (.int .i64 qb) (.slice pb mb mb) 30 from Ext.block xx hbB.out)
    replace hcN := Lib.hid (hcN.out.ext xx)
    replace hcB := Lib.hid (show B3 w23 (w6.heap.size) (.int .i64 (m : Int)) (.int .i64 qc) (.slice pc mc mc) 30 from Ext.block xx hcB.out)
    replace iD := Lib.hid (iD.out.ext xx)
    replace hdN := Lib.hid (hdN.out.ext xx)
    replace hdB := Lib.hid (show B3 w23 (w9.heap.size) (.int .i64 (m : Int)) (.int .i64 qd) (.slice pd md md) 30 from Ext.block xx hdB.out)
    replace hiN := Lib.hid (hiN.out.ext xx)
    replace hiB := Lib.hid (show B3 w23 (w12.heap.size) (.int .i64 (m : Int)) (.int .i64 qi) (.slice pi mi mi) 30 from Ext.block xx hiB.out)
    replace hkN := Lib.hid (hkN.out.ext xx)
    replace hkB := Lib.hid (show B3 w23 (w13.heap.size) (.int .i64 (m : Int)) (.int .i64 qk) (.slice pk mk mk) 30 from Ext.block xx hkB.out)
    replace hoN := Lib.hid (hoN.out.ext xx)
    replace hoB := Lib.hid (show B3 w23 (w14.heap.size) (.int .i64 (m : Int)) (.int .i64 qo) (.slice po mo mo) 30 from Ext.block xx hoB.out)
    replace iU := Lib.hid (iU.out.ext xx)
    replace hzN := Lib.hid (hzN.out.ext xx)
    replace huN := Lib.hid (huN.out.ext xx)
    replace hzB := Lib.hid (show B3 w23 (w16.heap.size) (.int .i64 (m : Int)) (.int .i64 qz) (.slice pz mz mz) 30 from Ext.block xx hzB.out)
    replace huB := Lib.hid (show B3 w23 (w16.heap.size + 1) (.int .i64 (m : Int)) (.int .i64 0) (.slice none 0 0) 30 from Ext.block xx huB.out)
    replace htN := Lib.hid (htN.out.ext xx)
    replace htB := Lib.hid (show B3 w23 (w20.heap.size) (.int .i64 (m : Int)) (.int .i64 2) (.slice none 0 0) 30 from Ext.block xx htB.out)
    replace hsN := Lib.hid (hsN.out.ext xx)
    replace hsB := Lib.hid (show B3 w23 (w21.heap.size) (.int .i64 (m : Int)) (.int .i64 qs) (.slice ps ms ms) 30 from Ext.block xx hsB.out)
    replace hrN := Lib.hid (hrN.out.ext xx)
    clear xx x
    clear cs0_0 cs1_0 cs2_0 cs0_1 cs1_1 cs2_1 cr0_1 cr1_1 cr2_1
    go_wp2_with fail
    refine (Lives_calls _ hT.out).mono ?_
    rintro e w24 ⟨rfl, x⟩
    have xx : Ext w23 w24 := Ext.trans (Ext.refl w23) x
    replace hX := Lib.hid (Ext.trans hX.out xx)
    replace hT := Lib.hid (hT.out.ext xx)
    replace iW := Lib.hid (iW.out.ext xx)
    replace iV := Lib.hid (iV.out.ext xx)
    replace haN := Lib.hid (haN.out.ext xx)
    replace haB := Lib.hid (show B3 w24 (w4.heap.size) (.int .i64 (m : Int)) (.int .i64 qa) (.slice pa ma ma) 30 from Ext.block xx haB.out)
    replace hbN := Lib.hid (hbN.out.ext xx)
    replace hbB := Lib.hid (show B3 w24 (w5.heap.size) (.int .i64 (m : Int)) (.int .i64 qb) (.slice pb mb mb) 30 from Ext.block xx hbB.out)
    replace hcN := Lib.hid (hcN.out.ext xx)
    replace hcB := Lib.hid (show B3 w24 (w6.heap.size) (.int .i64 (m : Int)) (.int .i64 qc) (.slice pc mc mc) 30 from Ext.block xx hcB.out)
    replace iD := Lib.hid (iD.out.ext xx)
    replace hdN := Lib.hid (hdN.out.ext xx)
    replace hdB := Lib.hid (show B3 w24 (w9.heap.size) (.int .i64 (m : Int)) (.int .i64 qd) (.slice pd md md) 30 from Ext.block xx hdB.out)
    replace hiN := Lib.hid (hiN.out.ext xx)
    replace hiB := Lib.hid (show B3 w24 (w12.heap.size) (.int .i64 (m : Int)) (.int .i64 qi) (.slice pi mi mi) 30 from Ext.block xx hiB.out)
    replace hkN := Lib.hid (hkN.out.ext xx)
    replace hkB := Lib.hid (show B3 w24 (w13.heap.size) (.int .i64 (m : Int)) (.int .i64 qk) (.slice pk mk mk) 30 from Ext.block xx hkB.out)
    replace hoN := Lib.hid (hoN.out.ext xx)
    replace hoB := Lib.hid (show B3 w24 (w14.heap.size) (.int .i64 (m : Int)) (.int .i64 qo) (.slice po mo mo) 30 from Ext.block xx hoB.out)
    replace iU := Lib.hid (iU.out.ext xx)
    replace hzN := Lib.hid (hzN.out.ext xx)
    replace huN := Lib.hid (huN.out.ext xx)
    replace hzB := Lib.hid (show B3 w24 (w16.heap.size) (.int .i64 (m : Int)) (.int .i64 qz) (.slice pz mz mz) 30 from Ext.block xx hzB.out)
    replace huB := Lib.hid (show B3 w24 (w16.heap.size + 1) (.int .i64 (m : Int)) (.int .i64 0) (.slice none 0 0) 30 from Ext.block xx huB.out)
    replace htN := Lib.hid (htN.out.ext xx)
    replace htB := Lib.hid (show B3 w24 (w20.heap.size) (.int .i64 (m : Int)) (.int .i64 2) (.slice none 0 0) 30 from Ext.block xx htB.out)
    replace hsN := Lib.hid (hsN.out.ext xx)
    replace hsB := Lib.hid (show B3 w24 (w21.heap.size) (.int .i64 (m : Int)) (.int .i64 qs) (.slice ps ms ms) 30 from Ext.block xx hsB.out)
    replace hrN := Lib.hid (hrN.out.ext xx)
    replace hrB := Lib.hid (show B3 w24 (w22.heap.size) (.int .i64 (m : Int)) (.int .i64 qr) (.slice pr mr mr) 30 from Ext.block xx hrB.out)
    clear xx x
    go_wp2
    go_ret
    exact ⟨rfl, hX.out⟩
end Go.Proofs.YtigffblelngpjaaDoor
