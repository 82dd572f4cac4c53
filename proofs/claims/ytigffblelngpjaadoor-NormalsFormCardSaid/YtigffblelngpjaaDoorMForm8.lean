/- Texts of this claim in one file: libraries and walks. -/
import Derived.Test.YtigffblelngpjaaDoorMForm4
/- The law NormalsCycle: its walk (printed by gen_l25b.py). -/
namespace Go.Proofs.YtigffblelngpjaaDoor
set_option linter.unusedVariables false
set_option linter.unusedSimpArgs false
set_option maxRecDepth 100000
open Go Go.RowKit

theorem NX.m {w : World} {a : Option Addr} {m : Nat} {N q : Int} {ls : List (List Int)} (h : NX w (.agg #[.int .i64 N, .int .i64 q, .slice a m m]) N q ls) : m = ls.length := by
  obtain ⟨b, e, _⟩ := h
  simp at e
  exact e.2
theorem NX.el {w : World} {a : Option Addr} {m n : Nat} {N q : Int} {ls : List (List Int)} (h : NX w (.agg #[.int .i64 N, .int .i64 q, .slice a m m]) N q ls) (hp : PML n ls) {i : Nat} (hi : i < ls.length) :
    PM n (ri ls i) ∧ ∃ b o av, a = some ⟨b, o, none⟩ ∧ w.cell? ⟨b, o + i, none⟩ = some (.slice av n n) ∧ IS .u8 w (.slice av n n) n (ri ls i) := by
  have hm := h.m
  subst hm
  obtain ⟨b, e, hX⟩ := h
  simp at e
  subst e
  have hP : PM n (ri ls i) := by rw [ri_of_lt hi]; exact hp _ (List.getElem_mem _)
  obtain ⟨vs, hat, his⟩ := hX.at rfl
  obtain ⟨b, o, e, hc⟩ := hat i hi
  have hI := his i hi
  obtain ⟨_, _, av, hv, _⟩ := hI.open
  rw [hP.len] at hv hI
  rw [hv] at hc hI
  exact ⟨hP, b, o, av, e, hc, hI⟩
theorem tmod2 (q : Int) : (q.tmod 2 = 0 ↔ q % 2 = 0) ∧ -1 ≤ q.tmod 2 ∧ q.tmod 2 ≤ 1 := by
  rcases Int.le_total 0 q with h | h
  · rw [Int.tmod_eq_emod_of_nonneg h]; omega
  · obtain ⟨k, hk⟩ : ∃ k, k = -q := ⟨_, rfl⟩
    have e : q = -k := by omega
    rw [e, Int.neg_tmod, Int.tmod_eq_emod_of_nonneg (by omega)]; omega
set_option maxHeartbeats 32000000 in
theorem NormalsCycle_walk (n : Int) (va : Value) (ca : Nat) (xs : List Int) (w : World) (hn : 0 ≤ n ∧ n ≤ 255) (h : IS .u8 w va ca xs) (hb : ∀ i, i < xs.length → 0 ≤ gi xs i ∧ gi xs i ≤ 255) (ht : PTab w) :
    Calls Tryd.prog 6 #[.int .u8 n, va] w fun e w' => e = .returned (.bool true) ∧ Ext w w' := by
  obtain ⟨m, hm⟩ : ∃ m : Nat, (m : Int) = 1 + n % 6 := ⟨(1 + n % 6).toNat, by omega⟩
  have m1 : 1 ≤ m := by omega
  have m6 : m ≤ 6 := by omega
  have hStr := fun w => Strands_m n m w hn hm
  obtain ⟨a1, n1, c1, rfl, hn1, rfl, h1⟩ := h.out
  have hOf := fun w' (x : Ext w w') => WOf_calls m (.slice a1 n1 c1) c1 xs w' (h1.ext x) hb ⟨by omega, by omega⟩
  have hv : Val m (wordOf m xs) := wordOf_val (by omega) hb
  have hl24 := wordOf_24 m xs
  obtain ⟨W, hW⟩ : ∃ W, W = wordOf m xs := ⟨_, rfl⟩
  rw [← hW] at hOf hv hl24
  have hnW := fun v c w' (hi : IS .i64 w' v c W) => NOf2_calls m v c W w' hi (wcheck_val (by omega) (by omega) (by omega) hv) hv m1 (by omega) (by omega)
  have HS := Lib.hid hStr; have HOf := Lib.hid hOf; have HnW := Lib.hid hnW; have hT := Lib.hid ht; have HlW := Lib.hid hl24
  clear hStr hOf hnW ht hv hl24 hW hm hb h h1 hn1
  have hX := Lib.hid (Ext.refl w)
  go_enter Tryd.func6, Tryd.ntmps6
  go_wp2_with fail
  refine (HS.out _).mono ?_
  rintro e w1 ⟨rfl, rfl⟩
  go_wp2_with fail
  refine (HOf.out _ hX.out).mono ?_
  rintro e w2 hr
  obtain ⟨sW, nW, cW, rfl, hnW, hW, x⟩ := hr.open
  clear hr
  have xx : Ext w w2 := Ext.trans (Ext.refl w) x
  replace hX := Lib.hid (Ext.trans hX.out xx)
  replace hT := Lib.hid (hT.out.ext xx)
  clear xx x
  have iW := Lib.hid hW
  clear hW hnW
  go_wp2_with fail
  refine (HnW.out _ _ _ iW.out).mono ?_
  rintro e w3 hr
  obtain ⟨va, qa, la, rfl, hx, ho, hq, b1, b2, b3, x⟩ := hr
  obtain ⟨pa, ma, rfl, hx⟩ := hx.v
  have haN := Lib.hid hx; have haO := Lib.hid ho; have haQ := Lib.hid hq
  have haL : Hid (-24 ≤ qa ∧ qa ≤ 24 ∧ la.length ≤ 24) := Lib.hid (by have := HlW.out; omega)
  clear hx ho hq b1 b2 b3
  have xx : Ext w2 w3 := Ext.trans (Ext.refl w2) x
  replace hX := Lib.hid (Ext.trans hX.out xx)
  replace hT := Lib.hid (hT.out.ext xx)
  replace iW := Lib.hid (iW.out.ext xx)
  clear xx x
  have ca0_1 := B3.c0 (show B3 (w3.alloc (.cells #[.int .i64 (m : Int), .int .i64 qa, .slice pa ma ma] 30)) (w3.heap.size) (.int .i64 (m : Int)) (.int .i64 qa) (.slice pa ma ma) 30 from B3.new _ _ _ _ _)
  have ca1_1 := B3.c1 (show B3 (w3.alloc (.cells #[.int .i64 (m : Int), .int .i64 qa, .slice pa ma ma] 30)) (w3.heap.size) (.int .i64 (m : Int)) (.int .i64 qa) (.slice pa ma ma) 30 from B3.new _ _ _ _ _)
  have ca2_1 := B3.c2 (show B3 (w3.alloc (.cells #[.int .i64 (m : Int), .int .i64 qa, .slice pa ma ma] 30)) (w3.heap.size) (.int .i64 (m : Int)) (.int .i64 qa) (.slice pa ma ma) 30 from B3.new _ _ _ _ _)
  go_wp2_with fail
  refine (NCycle_calls _ m qa la _ (haN.out.ext ((Ext.refl w3).alloc (.cells #[.int .i64 (m : Int), .int .i64 qa, .slice pa ma ma] 30))) haO.out (by have := haL.out; omega)).mono ?_
  rintro e w4 hr
  obtain ⟨vb, qb, lb, rfl, hx, ho, hq, b1, b2, b3, x⟩ := hr
  obtain ⟨pb, mb, rfl, hx⟩ := hx.v
  have hbN := Lib.hid hx; have hbO := Lib.hid ho; have hbQ := Lib.hid hq
  have hbL : Hid (-24 ≤ qb ∧ qb ≤ 48 ∧ lb.length ≤ 24) := Lib.hid (by have := haL.out; omega)
  clear hx ho hq b1 b2 b3
  have haB := Lib.hid (show B3 w4 (w3.heap.size) (.int .i64 (m : Int)) (.int .i64 qa) (.slice pa ma ma) 30 from Ext.block x (show B3 (w3.alloc (.cells #[.int .i64 (m : Int), .int .i64 qa, .slice pa ma ma] 30)) (w3.heap.size) (.int .i64 (m : Int)) (.int .i64 qa) (.slice pa ma ma) 30 from B3.new _ _ _ _ _))
  have xx : Ext w3 w4 := Ext.trans ((Ext.refl w3).alloc (.cells #[.int .i64 (m : Int), .int .i64 qa, .slice pa ma ma] 30)) x
  replace hX := Lib.hid (Ext.trans hX.out xx)
  replace hT := Lib.hid (hT.out.ext xx)
  replace iW := Lib.hid (iW.out.ext xx)
  replace haN := Lib.hid (haN.out.ext xx)
  clear xx x
  clear ca0_1 ca1_1 ca2_1
  have cb0_1 := B3.c0 (show B3 (w4.alloc (.cells #[.int .i64 (m : Int), .int .i64 qb, .slice pb mb mb] 30)) (w4.heap.size) (.int .i64 (m : Int)) (.int .i64 qb) (.slice pb mb mb) 30 from B3.new _ _ _ _ _)
  have cb1_1 := B3.c1 (show B3 (w4.alloc (.cells #[.int .i64 (m : Int), .int .i64 qb, .slice pb mb mb] 30)) (w4.heap.size) (.int .i64 (m : Int)) (.int .i64 qb) (.slice pb mb mb) 30 from B3.new _ _ _ _ _)
  have cb2_1 := B3.c2 (show B3 (w4.alloc (.cells #[.int .i64 (m : Int), .int .i64 qb, .slice pb mb mb] 30)) (w4.heap.size) (.int .i64 (m : Int)) (.int .i64 qb) (.slice pb mb mb) 30 from B3.new _ _ _ _ _)
  go_wp2_with fail
  refine (NCheck_calls _ m qb lb _ (hbN.out.ext ((Ext.refl w4).alloc (.cells #[.int .i64 (m : Int), .int .i64 qb, .slice pb mb mb] 30))) hbO.out).mono ?_
  rintro e w5 ⟨rfl, x⟩
  have hbB := Lib.hid (show B3 w5 (w4.heap.size) (.int .i64 (m : Int)) (.int .i64 qb) (.slice pb mb mb) 30 from Ext.block x (show B3 (w4.alloc (.cells #[.int .i64 (m : Int), .int .i64 qb, .slice pb mb mb] 30)) (w4.heap.size) (.int .i64 (m : Int)) (.int .i64 qb) (.slice pb mb mb) 30 from B3.new _ _ _ _ _))
  have xx : Ext w4 w5 := Ext.trans ((Ext.refl w4).alloc (.cells #[.int .i64 (m : Int), .int .i64 qb, .slice pb mb mb] 30)) x
  replace hX := Lib.hid (Ext.trans hX.out xx)
  replace hT := Lib.hid (hT.out.ext xx)
  replace iW := Lib.hid (iW.out.ext xx)
  replace haN := Lib.hid (haN.out.ext xx)
  replace haB := Lib.hid (show B3 w5 (w3.heap.size) (.int .i64 (m : Int)) (.int .i64 qa) (.slice pa ma ma) 30 from Ext.block xx haB.out)
  replace hbN := Lib.hid (hbN.out.ext xx)
  clear xx x
  clear cb0_1 cb1_1 cb2_1
  have cb0_0 := B3.c0 hbB.out
  have cb1_0 := B3.c1 hbB.out
  have cb2_0 := B3.c2 hbB.out
  go_wp2_with fail
  refine (Clipped_calls _ m qb lb _ hbN.out).mono ?_
  rintro e w6 ⟨rfl, x⟩
  have xx : Ext w5 w6 := Ext.trans (Ext.refl w5) x
  replace hX := Lib.hid (Ext.trans hX.out xx)
  replace hT := Lib.hid (hT.out.ext xx)
  replace iW := Lib.hid (iW.out.ext xx)
  replace haN := Lib.hid (haN.out.ext xx)
  replace haB := Lib.hid (show B3 w6 (w3.heap.size) (.int .i64 (m : Int)) (.int .i64 qa) (.slice pa ma ma) 30 from Ext.block xx haB.out)
  replace hbN := Lib.hid (hbN.out.ext xx)
  replace hbB := Lib.hid (show B3 w6 (w4.heap.size) (.int .i64 (m : Int)) (.int .i64 qb) (.slice pb mb mb) 30 from Ext.block xx hbB.out)
  clear xx x
  clear cb0_0 cb1_0 cb2_0
  have hma := haN.out.m
  by_cases h0 : la = []
  · have e0 : ((ma : Int) == 0) = true := by rw [hma, h0]; rfl
    have Eab : Hid (qa = qb ∧ la = lb) := Lib.hid (nfo_eq haO.out hbO.out (by have hq := hbQ.out; rw [h0] at hq ⊢; exact hq))
    clear hma h0
    have ca0_0 := B3.c0 haB.out
    have ca1_0 := B3.c1 haB.out
    have ca2_0 := B3.c2 haB.out
    have cb0_0 := B3.c0 hbB.out
    have cb1_0 := B3.c1 hbB.out
    have cb2_0 := B3.c2 hbB.out
    go_wp2_with fail
    refine (NSame_calls _ _ m m qa qb la lb _ haN.out.ns hbN.out.ns (haO.out.pl.byt haO.out.n8) (hbO.out.pl.byt hbO.out.n8)).mono ?_
    rintro e w7 ⟨rfl, x⟩
    rw [show nsame (m : Int) m qa qb la lb = true from decide_eq_true ⟨rfl, Eab.out.1, Eab.out.2⟩]
    have xx : Ext w6 w7 := Ext.trans (Ext.refl w6) x
    replace hX := Lib.hid (Ext.trans hX.out xx)
    replace hT := Lib.hid (hT.out.ext xx)
    replace iW := Lib.hid (iW.out.ext xx)
    replace haN := Lib.hid (haN.out.ext xx)
    replace haB := Lib.hid (show B3 w7 (w3.heap.size) (.int .i64 (m : Int)) (.int .i64 qa) (.slice pa ma ma) 30 from Ext.block xx haB.out)
    replace hbN := Lib.hid (hbN.out.ext xx)
    replace hbB := Lib.hid (show B3 w7 (w4.heap.size) (.int .i64 (m : Int)) (.int .i64 qb) (.slice pb mb mb) 30 from Ext.block xx hbB.out)
    clear xx x
    clear ca0_0 ca1_0 ca2_0 cb0_0 cb1_0 cb2_0
    go_wp2_with fail
    refine (Lives_calls _ hT.out).mono ?_
    rintro e w8 ⟨rfl, x⟩
    have xx : Ext w7 w8 := Ext.trans (Ext.refl w7) x
    replace hX := Lib.hid (Ext.trans hX.out xx)
    replace hT := Lib.hid (hT.out.ext xx)
    replace iW := Lib.hid (iW.out.ext xx)
    replace haN := Lib.hid (haN.out.ext xx)
    replace haB := Lib.hid (show B3 w8 (w3.heap.size) (.int .i64 (m : Int)) (.int .i64 qa) (.slice pa ma ma) 30 from Ext.block xx haB.out)
    replace hbN := Lib.hid (hbN.out.ext xx)
    replace hbB := Lib.hid (show B3 w8 (w4.heap.size) (.int .i64 (m : Int)) (.int .i64 qb) (.slice pb mb mb) 30 from Ext.block xx hbB.out)
    clear xx x
    go_wp2
    go_ret
    exact ⟨rfl, hX.out⟩
  · obtain ⟨f, l, rfl⟩ : ∃ f l, la = f :: l := by cases la with | nil => exact absurd rfl h0 | cons f l => exact ⟨f, l, rfl⟩
    have hm2 : 1 ≤ ma := by rw [hma]; simp
    have e0 : ((ma : Int) == 0) = false := by rw [beq_eq_false_iff_ne]; omega
    have e1 : (0 : Int) < ma := by omega
    have e1' : 0 < ma := by omega
    have hml : ma ≤ 24 := by rw [hma]; exact haL.out.2.2
    obtain ⟨hP, b, o, av, rfl, hc, hI⟩ := haN.out.el haO.out.pl (i := 0) (by simp)
    rw [Nat.add_zero] at hc
    have hP' : PM m f := hP
    have iF : Hid (IS .u8 w6 (.slice av m m) m f) := Lib.hid hI
    have HP := Lib.hid hP'
    have Hc := Lib.hid hc
    have Hs := Lib.hid (nfo_single haO.out qa)
    clear hP hP' hI hma h0
    by_cases hpar : qa % 2 = 0
    · have tm := tmod2 qa
      have t1 : qa.tmod 2 = 0 := by omega
      have t2 : (qa.tmod 2 != 0) = false := by simp [t1]
      have t3 : IntKind.i64.wrap (qa.tmod 2) = qa.tmod 2 := IntWalk.i64_in _ ⟨by omega, by omega⟩
      clear tm
      have hF : flT qa f = f := if_pos hpar
      have iG : Hid (IS .u8 w6 (.slice av m m) m (flT qa f)) := Lib.hid (by rw [hF]; exact iF.out)
      clear hF hpar
      have hcN0 : NX (w6.alloc (.cells #[.slice av m m] 22)) (.agg #[.int .i64 (m : Int), .int .i64 0, .slice (some ⟨w6.heap.size, 0, none⟩) 1 1]) m 0 [flT qa f] := ⟨_, rfl, ISX.lit1 rfl iG.out (Hs.out.pl _ (by simp)).len⟩
      have HcN0 := Lib.hid hcN0
      clear hcN0
      have ca0_0 := B3.c0 haB.out
      have ca1_0 := B3.c1 haB.out
      have ca2_0 := B3.c2 haB.out
      have ca0_1 := B3.c0 (show B3 (w6.alloc (.cells #[.slice av m m] 22)) (w3.heap.size) (.int .i64 (m : Int)) (.int .i64 qa) (.slice (some ⟨b, o, none⟩) ma ma) 30 from Ext.block ((Ext.refl w6).alloc (.cells #[.slice av m m] 22)) haB.out)
      have ca1_1 := B3.c1 (show B3 (w6.alloc (.cells #[.slice av m m] 22)) (w3.heap.size) (.int .i64 (m : Int)) (.int .i64 qa) (.slice (some ⟨b, o, none⟩) ma ma) 30 from Ext.block ((Ext.refl w6).alloc (.cells #[.slice av m m] 22)) haB.out)
      have ca2_1 := B3.c2 (show B3 (w6.alloc (.cells #[.slice av m m] 22)) (w3.heap.size) (.int .i64 (m : Int)) (.int .i64 qa) (.slice (some ⟨b, o, none⟩) ma ma) 30 from Ext.block ((Ext.refl w6).alloc (.cells #[.slice av m m] 22)) haB.out)
      have ca0_2 := B3.c0 (show B3 ((w6.alloc (.cells #[.slice av m m] 22)).alloc (.cells #[.int .i64 (m : Int), .int .i64 0, .slice (some ⟨w6.heap.size, 0, none⟩) 1 1] 30)) (w3.heap.size) (.int .i64 (m : Int)) (.int .i64 qa) (.slice (some ⟨b, o, none⟩) ma ma) 30 from Ext.block (((Ext.refl w6).alloc (.cells #[.slice av m m] 22)).alloc (.cells #[.int .i64 (m : Int), .int .i64 0, .slice (some ⟨w6.heap.size, 0, none⟩) 1 1] 30)) haB.out)
      have ca1_2 := B3.c1 (show B3 ((w6.alloc (.cells #[.slice av m m] 22)).alloc (.cells #[.int .i64 (m : Int), .int .i64 0, .slice (some ⟨w6.heap.size, 0, none⟩) 1 1] 30)) (w3.heap.size) (.int .i64 (m : Int)) (.int .i64 qa) (.slice (some ⟨b, o, none⟩) ma ma) 30 from Ext.block (((Ext.refl w6).alloc (.cells #[.slice av m m] 22)).alloc (.cells #[.int .i64 (m : Int), .int .i64 0, .slice (some ⟨w6.heap.size, 0, none⟩) 1 1] 30)) haB.out)
      have ca2_2 := B3.c2 (show B3 ((w6.alloc (.cells #[.slice av m m] 22)).alloc (.cells #[.int .i64 (m : Int), .int .i64 0, .slice (some ⟨w6.heap.size, 0, none⟩) 1 1] 30)) (w3.heap.size) (.int .i64 (m : Int)) (.int .i64 qa) (.slice (some ⟨b, o, none⟩) ma ma) 30 from Ext.block (((Ext.refl w6).alloc (.cells #[.slice av m m] 22)).alloc (.cells #[.int .i64 (m : Int), .int .i64 0, .slice (some ⟨w6.heap.size, 0, none⟩) 1 1] 30)) haB.out)
      have cc0_2 := B3.c0 (show B3 ((w6.alloc (.cells #[.slice av m m] 22)).alloc (.cells #[.int .i64 (m : Int), .int .i64 0, .slice (some ⟨w6.heap.size, 0, none⟩) 1 1] 30)) (w6.heap.size + 1) (.int .i64 (m : Int)) (.int .i64 0) (.slice (some ⟨w6.heap.size, 0, none⟩) 1 1) 30 from by have := B3.new (w6.alloc (.cells #[.slice av m m] 22)) (.int .i64 (m : Int)) (.int .i64 0) (.slice (some ⟨w6.heap.size, 0, none⟩) 1 1) 30; simpa using this)
      have cc1_2 := B3.c1 (show B3 ((w6.alloc (.cells #[.slice av m m] 22)).alloc (.cells #[.int .i64 (m : Int), .int .i64 0, .slice (some ⟨w6.heap.size, 0, none⟩) 1 1] 30)) (w6.heap.size + 1) (.int .i64 (m : Int)) (.int .i64 0) (.slice (some ⟨w6.heap.size, 0, none⟩) 1 1) 30 from by have := B3.new (w6.alloc (.cells #[.slice av m m] 22)) (.int .i64 (m : Int)) (.int .i64 0) (.slice (some ⟨w6.heap.size, 0, none⟩) 1 1) 30; simpa using this)
      have cc2_2 := B3.c2 (show B3 ((w6.alloc (.cells #[.slice av m m] 22)).alloc (.cells #[.int .i64 (m : Int), .int .i64 0, .slice (some ⟨w6.heap.size, 0, none⟩) 1 1] 30)) (w6.heap.size + 1) (.int .i64 (m : Int)) (.int .i64 0) (.slice (some ⟨w6.heap.size, 0, none⟩) 1 1) 30 from by have := B3.new (w6.alloc (.cells #[.slice av m m] 22)) (.int .i64 (m : Int)) (.int .i64 0) (.slice (some ⟨w6.heap.size, 0, none⟩) 1 1) 30; simpa using this)
      go_wp2_with fail
      refine (NInverse_calls _ m 0 [flT qa f] _ (HcN0.out.ext ((Ext.refl (w6.alloc (.cells #[.slice av m m] 22))).alloc (.cells #[.int .i64 (m : Int), .int .i64 0, .slice (some ⟨w6.heap.size, 0, none⟩) 1 1] 30))) Hs.out (by simp) (by simp)).mono ?_
      rintro e w8 hr
      have hcN := Lib.hid ((HcN0.out.ext ((Ext.refl (w6.alloc (.cells #[.slice av m m] 22))).alloc (.cells #[.int .i64 (m : Int), .int .i64 0, .slice (some ⟨w6.heap.size, 0, none⟩) 1 1] 30))).ext (hr.choose_spec.choose_spec.choose_spec.2.2.2.2.2.2.2))
      obtain ⟨vi, qi, li, rfl, hx, ho, hq, b1, b2, b3, x⟩ := hr
      obtain ⟨pi_, mi, rfl, hx⟩ := hx.v
      have hiN := Lib.hid hx; have hiO := Lib.hid ho; have hiQ := Lib.hid hq
      have hiL : Hid (-1 ≤ qi ∧ qi ≤ 0 ∧ li.length ≤ 1) := Lib.hid (by simp at b1 b2 b3; omega)
      clear hx ho hq b1 b2 b3
      have hcB := Lib.hid (show B3 w8 (w6.heap.size + 1) (.int .i64 (m : Int)) (.int .i64 0) (.slice (some ⟨w6.heap.size, 0, none⟩) 1 1) 30 from Ext.block x (show B3 ((w6.alloc (.cells #[.slice av m m] 22)).alloc (.cells #[.int .i64 (m : Int), .int .i64 0, .slice (some ⟨w6.heap.size, 0, none⟩) 1 1] 30)) (w6.heap.size + 1) (.int .i64 (m : Int)) (.int .i64 0) (.slice (some ⟨w6.heap.size, 0, none⟩) 1 1) 30 from by have := B3.new (w6.alloc (.cells #[.slice av m m] 22)) (.int .i64 (m : Int)) (.int .i64 0) (.slice (some ⟨w6.heap.size, 0, none⟩) 1 1) 30; simpa using this))
      have xx : Ext w6 w8 := Ext.trans (((Ext.refl w6).alloc (.cells #[.slice av m m] 22)).alloc (.cells #[.int .i64 (m : Int), .int .i64 0, .slice (some ⟨w6.heap.size, 0, none⟩) 1 1] 30)) x
      replace hX := Lib.hid (Ext.trans hX.out xx)
      replace hT := Lib.hid (hT.out.ext xx)
      replace iW := Lib.hid (iW.out.ext xx)
      replace haN := Lib.hid (haN.out.ext xx)
      replace haB := Lib.hid (show B3 w8 (w3.heap.size) (.int .i64 (m : Int)) (.int .i64 qa) (.slice (some ⟨b, o, none⟩) ma ma) 30 from Ext.block xx haB.out)
      replace hbN := Lib.hid (hbN.out.ext xx)
      replace hbB := Lib.hid (show B3 w8 (w4.heap.size) (.int .i64 (m : Int)) (.int .i64 qb) (.slice pb mb mb) 30 from Ext.block xx hbB.out)
      clear xx x
      clear ca0_0 ca1_0 ca2_0 ca0_1 ca1_1 ca2_1 ca0_2 ca1_2 ca2_2 cc0_2 cc1_2 cc2_2
      clear HcN0 iG iF Hc t1 t2 t3 e0 e1 e1' hc
      have ci0_1 := B3.c0 (show B3 (w8.alloc (.cells #[.int .i64 (m : Int), .int .i64 qi, .slice pi_ mi mi] 30)) (w8.heap.size) (.int .i64 (m : Int)) (.int .i64 qi) (.slice pi_ mi mi) 30 from B3.new _ _ _ _ _)
      have ci1_1 := B3.c1 (show B3 (w8.alloc (.cells #[.int .i64 (m : Int), .int .i64 qi, .slice pi_ mi mi] 30)) (w8.heap.size) (.int .i64 (m : Int)) (.int .i64 qi) (.slice pi_ mi mi) 30 from B3.new _ _ _ _ _)
      have ci2_1 := B3.c2 (show B3 (w8.alloc (.cells #[.int .i64 (m : Int), .int .i64 qi, .slice pi_ mi mi] 30)) (w8.heap.size) (.int .i64 (m : Int)) (.int .i64 qi) (.slice pi_ mi mi) 30 from B3.new _ _ _ _ _)
      have ca0_0 := B3.c0 haB.out
      have ca1_0 := B3.c1 haB.out
      have ca2_0 := B3.c2 haB.out
      have ca0_1 := B3.c0 (show B3 (w8.alloc (.cells #[.int .i64 (m : Int), .int .i64 qi, .slice pi_ mi mi] 30)) (w3.heap.size) (.int .i64 (m : Int)) (.int .i64 qa) (.slice (some ⟨b, o, none⟩) ma ma) 30 from Ext.block ((Ext.refl w8).alloc (.cells #[.int .i64 (m : Int), .int .i64 qi, .slice pi_ mi mi] 30)) haB.out)
      have ca1_1 := B3.c1 (show B3 (w8.alloc (.cells #[.int .i64 (m : Int), .int .i64 qi, .slice pi_ mi mi] 30)) (w3.heap.size) (.int .i64 (m : Int)) (.int .i64 qa) (.slice (some ⟨b, o, none⟩) ma ma) 30 from Ext.block ((Ext.refl w8).alloc (.cells #[.int .i64 (m : Int), .int .i64 qi, .slice pi_ mi mi] 30)) haB.out)
      have ca2_1 := B3.c2 (show B3 (w8.alloc (.cells #[.int .i64 (m : Int), .int .i64 qi, .slice pi_ mi mi] 30)) (w3.heap.size) (.int .i64 (m : Int)) (.int .i64 qa) (.slice (some ⟨b, o, none⟩) ma ma) 30 from Ext.block ((Ext.refl w8).alloc (.cells #[.int .i64 (m : Int), .int .i64 qi, .slice pi_ mi mi] 30)) haB.out)
      go_wp2_with fail
      refine (Times_calls _ _ m qi qa li (f :: l) _ (hiN.out.ext ((Ext.refl w8).alloc (.cells #[.int .i64 (m : Int), .int .i64 qi, .slice pi_ mi mi] 30))) (haN.out.ext ((Ext.refl w8).alloc (.cells #[.int .i64 (m : Int), .int .i64 qi, .slice pi_ mi mi] 30))) hiO.out haO.out (by have := hiL.out; have := haL.out; simp at *; omega) (by have := hiL.out; have := haL.out; simp at *; omega) (by have := hiL.out; have := haL.out; simp at *; omega)).mono ?_
      rintro e w9 hr
      obtain ⟨vd, qd, ld, rfl, hx, ho, hq, b1, b2, b3, x⟩ := hr
      obtain ⟨pd, md, rfl, hx⟩ := hx.v
      have hdN := Lib.hid hx; have hdO := Lib.hid ho; have hdQ := Lib.hid hq
      have hdL : Hid (-25 ≤ qd ∧ qd ≤ 49 ∧ ld.length ≤ 25) := Lib.hid (by have := hiL.out; have := haL.out; simp at *; omega)
      clear hx ho hq b1 b2 b3
      have hiB := Lib.hid (show B3 w9 (w8.heap.size) (.int .i64 (m : Int)) (.int .i64 qi) (.slice pi_ mi mi) 30 from Ext.block x (show B3 (w8.alloc (.cells #[.int .i64 (m : Int), .int .i64 qi, .slice pi_ mi mi] 30)) (w8.heap.size) (.int .i64 (m : Int)) (.int .i64 qi) (.slice pi_ mi mi) 30 from B3.new _ _ _ _ _))
      have xx : Ext w8 w9 := Ext.trans ((Ext.refl w8).alloc (.cells #[.int .i64 (m : Int), .int .i64 qi, .slice pi_ mi mi] 30)) x
      replace hX := Lib.hid (Ext.trans hX.out xx)
      replace hT := Lib.hid (hT.out.ext xx)
      replace iW := Lib.hid (iW.out.ext xx)
      replace haN := Lib.hid (haN.out.ext xx)
      replace haB := Lib.hid (show B3 w9 (w3.heap.size) (.int .i64 (m : Int)) (.int .i64 qa) (.slice (some ⟨b, o, none⟩) ma ma) 30 from Ext.block xx haB.out)
      replace hbN := Lib.hid (hbN.out.ext xx)
      replace hbB := Lib.hid (show B3 w9 (w4.heap.size) (.int .i64 (m : Int)) (.int .i64 qb) (.slice pb mb mb) 30 from Ext.block xx hbB.out)
      replace hcB := Lib.hid (show B3 w9 (w6.heap.size + 1) (.int .i64 (m : Int)) (.int .i64 0) (.slice (some ⟨w6.heap.size, 0, none⟩) 1 1) 30 from Ext.block xx hcB.out)
      replace hiN := Lib.hid (hiN.out.ext xx)
      replace hcN := Lib.hid (hcN.out.ext xx)
      clear xx x
      clear ci0_1 ci1_1 ci2_1 ca0_0 ca1_0 ca2_0 ca0_1 ca1_1 ca2_1
      have cd0_1 := B3.c0 (show B3 (w9.alloc (.cells #[.int .i64 (m : Int), .int .i64 qd, .slice pd md md] 30)) (w9.heap.size) (.int .i64 (m : Int)) (.int .i64 qd) (.slice pd md md) 30 from B3.new _ _ _ _ _)
      have cd1_1 := B3.c1 (show B3 (w9.alloc (.cells #[.int .i64 (m : Int), .int .i64 qd, .slice pd md md] 30)) (w9.heap.size) (.int .i64 (m : Int)) (.int .i64 qd) (.slice pd md md) 30 from B3.new _ _ _ _ _)
      have cd2_1 := B3.c2 (show B3 (w9.alloc (.cells #[.int .i64 (m : Int), .int .i64 qd, .slice pd md md] 30)) (w9.heap.size) (.int .i64 (m : Int)) (.int .i64 qd) (.slice pd md md) 30 from B3.new _ _ _ _ _)
      have cc0_0 := B3.c0 hcB.out
      have cc1_0 := B3.c1 hcB.out
      have cc2_0 := B3.c2 hcB.out
      have cc0_1 := B3.c0 (show B3 (w9.alloc (.cells #[.int .i64 (m : Int), .int .i64 qd, .slice pd md md] 30)) (w6.heap.size + 1) (.int .i64 (m : Int)) (.int .i64 0) (.slice (some ⟨w6.heap.size, 0, none⟩) 1 1) 30 from Ext.block ((Ext.refl w9).alloc (.cells #[.int .i64 (m : Int), .int .i64 qd, .slice pd md md] 30)) hcB.out)
      have cc1_1 := B3.c1 (show B3 (w9.alloc (.cells #[.int .i64 (m : Int), .int .i64 qd, .slice pd md md] 30)) (w6.heap.size + 1) (.int .i64 (m : Int)) (.int .i64 0) (.slice (some ⟨w6.heap.size, 0, none⟩) 1 1) 30 from Ext.block ((Ext.refl w9).alloc (.cells #[.int .i64 (m : Int), .int .i64 qd, .slice pd md md] 30)) hcB.out)
      have cc2_1 := B3.c2 (show B3 (w9.alloc (.cells #[.int .i64 (m : Int), .int .i64 qd, .slice pd md md] 30)) (w6.heap.size + 1) (.int .i64 (m : Int)) (.int .i64 0) (.slice (some ⟨w6.heap.size, 0, none⟩) 1 1) 30 from Ext.block ((Ext.refl w9).alloc (.cells #[.int .i64 (m : Int), .int .i64 qd, .slice pd md md] 30)) hcB.out)
      go_wp2_with fail
      refine (Times_calls _ _ m qd 0 ld [flT qa f] _ (hdN.out.ext ((Ext.refl w9).alloc (.cells #[.int .i64 (m : Int), .int .i64 qd, .slice pd md md] 30))) (hcN.out.ext ((Ext.refl w9).alloc (.cells #[.int .i64 (m : Int), .int .i64 qd, .slice pd md md] 30))) hdO.out Hs.out (by have := hdL.out; simp at *; omega) (by have := hdL.out; simp at *; omega) (by have := hdL.out; simp at *; omega)).mono ?_
      rintro e w10 hr
      obtain ⟨vu, qu, lu, rfl, hx, ho, hq, b1, b2, b3, x⟩ := hr
      obtain ⟨pu, mu, rfl, hx⟩ := hx.v
      have huN := Lib.hid hx; have huO := Lib.hid ho; have huQ := Lib.hid hq
      have huL : Hid (True) := Lib.hid (by trivial)
      clear hx ho hq b1 b2 b3
      have hdB := Lib.hid (show B3 w10 (w9.heap.size) (.int .i64 (m : Int)) (.int .i64 qd) (.slice pd md md) 30 from Ext.block x (show B3 (w9.alloc (.cells #[.int .i64 (m : Int), .int .i64 qd, .slice pd md md] 30)) (w9.heap.size) (.int .i64 (m : Int)) (.int .i64 qd) (.slice pd md md) 30 from B3.new _ _ _ _ _))
      have xx : Ext w9 w10 := Ext.trans ((Ext.refl w9).alloc (.cells #[.int .i64 (m : Int), .int .i64 qd, .slice pd md md] 30)) x
      replace hX := Lib.hid (Ext.trans hX.out xx)
      replace hT := Lib.hid (hT.out.ext xx)
      replace iW := Lib.hid (iW.out.ext xx)
      replace haN := Lib.hid (haN.out.ext xx)
      replace haB := Lib.hid (show B3 w10 (w3.heap.size) (.int .i64 (m : Int)) (.int .i64 qa) (.slice (some ⟨b, o, none⟩) ma ma) 30 from Ext.block xx haB.out)
      replace hbN := Lib.hid (hbN.out.ext xx)
      replace hbB := Lib.hid (show B3 w10 (w4.heap.size) (.int .i64 (m : Int)) (.int .i64 qb) (.slice pb mb mb) 30 from Ext.block xx hbB.out)
      replace hcB := Lib.hid (show B3 w10 (w6.heap.size + 1) (.int .i64 (m : Int)) (.int .i64 0) (.slice (some ⟨w6.heap.size, 0, none⟩) 1 1) 30 from Ext.block xx hcB.out)
      replace hiN := Lib.hid (hiN.out.ext xx)
      replace hcN := Lib.hid (hcN.out.ext xx)
      replace hiB := Lib.hid (show B3 w10 (w8.heap.size) (.int .i64 (m : Int)) (.int .i64 qi) (.slice pi_ mi mi) 30 from Ext.block xx hiB.out)
      replace hdN := Lib.hid (hdN.out.ext xx)
      clear xx x
      clear cd0_1 cd1_1 cd2_1 cc0_0 cc1_0 cc2_0 cc0_1 cc1_1 cc2_1
      have Eub := Lib.hid (law_cyc haO.out hbQ.out hiQ.out hdQ.out huQ.out huO.out hbO.out)
      have cu0_1 := B3.c0 (show B3 (w10.alloc (.cells #[.int .i64 (m : Int), .int .i64 qu, .slice pu mu mu] 30)) (w10.heap.size) (.int .i64 (m : Int)) (.int .i64 qu) (.slice pu mu mu) 30 from B3.new _ _ _ _ _)
      have cu1_1 := B3.c1 (show B3 (w10.alloc (.cells #[.int .i64 (m : Int), .int .i64 qu, .slice pu mu mu] 30)) (w10.heap.size) (.int .i64 (m : Int)) (.int .i64 qu) (.slice pu mu mu) 30 from B3.new _ _ _ _ _)
      have cu2_1 := B3.c2 (show B3 (w10.alloc (.cells #[.int .i64 (m : Int), .int .i64 qu, .slice pu mu mu] 30)) (w10.heap.size) (.int .i64 (m : Int)) (.int .i64 qu) (.slice pu mu mu) 30 from B3.new _ _ _ _ _)
      have cb0_0 := B3.c0 hbB.out
      have cb1_0 := B3.c1 hbB.out
      have cb2_0 := B3.c2 hbB.out
      have cb0_1 := B3.c0 (show B3 (w10.alloc (.cells #[.int .i64 (m : Int), .int .i64 qu, .slice pu mu mu] 30)) (w4.heap.size) (.int .i64 (m : Int)) (.int .i64 qb) (.slice pb mb mb) 30 from Ext.block ((Ext.refl w10).alloc (.cells #[.int .i64 (m : Int), .int .i64 qu, .slice pu mu mu] 30)) hbB.out)
      have cb1_1 := B3.c1 (show B3 (w10.alloc (.cells #[.int .i64 (m : Int), .int .i64 qu, .slice pu mu mu] 30)) (w4.heap.size) (.int .i64 (m : Int)) (.int .i64 qb) (.slice pb mb mb) 30 from Ext.block ((Ext.refl w10).alloc (.cells #[.int .i64 (m : Int), .int .i64 qu, .slice pu mu mu] 30)) hbB.out)
      have cb2_1 := B3.c2 (show B3 (w10.alloc (.cells #[.int .i64 (m : Int), .int .i64 qu, .slice pu mu mu] 30)) (w4.heap.size) (.int .i64 (m : Int)) (.int .i64 qb) (.slice pb mb mb) 30 from Ext.block ((Ext.refl w10).alloc (.cells #[.int .i64 (m : Int), .int .i64 qu, .slice pu mu mu] 30)) hbB.out)
      go_wp2_with fail
      refine (NSame_calls _ _ m m qu qb lu lb _ (huN.out.ext ((Ext.refl w10).alloc (.cells #[.int .i64 (m : Int), .int .i64 qu, .slice pu mu mu] 30))).ns (hbN.out.ext ((Ext.refl w10).alloc (.cells #[.int .i64 (m : Int), .int .i64 qu, .slice pu mu mu] 30))).ns (huO.out.pl.byt huO.out.n8) (hbO.out.pl.byt hbO.out.n8)).mono ?_
      rintro e w11 ⟨rfl, x⟩
      rw [show nsame (m : Int) m qu qb lu lb = true from decide_eq_true ⟨rfl, Eub.out.1, Eub.out.2⟩]
      have huB := Lib.hid (show B3 w11 (w10.heap.size) (.int .i64 (m : Int)) (.int .i64 qu) (.slice pu mu mu) 30 from Ext.block x (show B3 (w10.alloc (.cells #[.int .i64 (m : Int), .int .i64 qu, .slice pu mu mu] 30)) (w10.heap.size) (.int .i64 (m : Int)) (.int .i64 qu) (.slice pu mu mu) 30 from B3.new _ _ _ _ _))
      have xx : Ext w10 w11 := Ext.trans ((Ext.refl w10).alloc (.cells #[.int .i64 (m : Int), .int .i64 qu, .slice pu mu mu] 30)) x
      replace hX := Lib.hid (Ext.trans hX.out xx)
      replace hT := Lib.hid (hT.out.ext xx)
      replace iW := Lib.hid (iW.out.ext xx)
      replace haN := Lib.hid (haN.out.ext xx)
      replace haB := Lib.hid (show B3 w11 (w3.heap.size) (.int .i64 (m : Int)) (.int .i64 qa) (.slice (some ⟨b, o, none⟩) ma ma) 30 from Ext.block xx haB.out)
      replace hbN := Lib.hid (hbN.out.ext xx)
      replace hbB := Lib.hid (show B3 w11 (w4.heap.size) (.int .i64 (m : Int)) (.int .i64 qb) (.slice pb mb mb) 30 from Ext.block xx hbB.out)
      replace hcB := Lib.hid (show B3 w11 (w6.heap.size + 1) (.int .i64 (m : Int)) (.int .i64 0) (.slice (some ⟨w6.heap.size, 0, none⟩) 1 1) 30 from Ext.block xx hcB.out)
      replace hiN := Lib.hid (hiN.out.ext xx)
      replace hcN := Lib.hid (hcN.out.ext xx)
      replace hiB := Lib.hid (show B3 w11 (w8.heap.size) (.int .i64 (m : Int)) (.int .i64 qi) (.slice pi_ mi mi) 30 from Ext.block xx hiB.out)
      replace hdN := Lib.hid (hdN.out.ext xx)
      replace hdB := Lib.hid (show B3 w11 (w9.heap.size) (.int .i64 (m : Int)) (.int .i64 qd) (.slice pd md md) 30 from Ext.block xx hdB.out)
      replace huN := Lib.hid (huN.out.ext xx)
      clear xx x
      clear cu0_1 cu1_1 cu2_1 cb0_0 cb1_0 cb2_0 cb0_1 cb1_1 cb2_1
      go_wp2_with fail
      refine (Lives_calls _ hT.out).mono ?_
      rintro e w12 ⟨rfl, x⟩
      have xx : Ext w11 w12 := Ext.trans (Ext.refl w11) x
      replace hX := Lib.hid (Ext.trans hX.out xx)
      replace hT := Lib.hid (hT.out.ext xx)
      replace iW := Lib.hid (iW.out.ext xx)
      replace haN := Lib.hid (haN.out.ext xx)
      replace haB := Lib.hid (show B3 w12 (w3.heap.size) (.int .i64 (m : Int)) (.int .i64 qa) (.slice (some ⟨b, o, none⟩) ma ma) 30 from Ext.block xx haB.out)
      replace hbN := Lib.hid (hbN.out.ext xx)
      replace hbB := Lib.hid (show B3 w12 (w4.heap.size) (.int .i64 (m : Int)) (.int .i64 qb) (.slice pb mb mb) 30 from Ext.block xx hbB.out)
      replace hcB := Lib.hid (show B3 w12 (w6.heap.size + 1) (.int .i64 (m : Int)) (.int .i64 0) (.slice (some ⟨w6.heap.size, 0, none⟩) 1 1) 30 from Ext.block xx hcB.out)
      replace hiN := Lib.hid (hiN.out.ext xx)
      replace hcN := Lib.hid (hcN.out.ext xx)
      replace hiB := Lib.hid (show B3 w12 (w8.heap.size) (.int .i64 (m : Int)) (.int .i64 qi) (.slice pi_ mi mi) 30 from Ext.block xx hiB.out)
      replace hdN := Lib.hid (hdN.out.ext xx)
      replace hdB := Lib.hid (show B3 w12 (w9.heap.size) (.int .i64 (m : Int)) (.int .i64 qd) (.slice pd md md) 30 from Ext.block xx hdB.out)
      replace huN := Lib.hid (huN.out.ext xx)
      replace huB := Lib.hid (show B3 w12 (w10.heap.size) (.int .i64 (m : Int)) (.int .i64 qu) (.slice pu mu mu) 30 from Ext.block xx huB.out)
      clear xx x
      go_wp2
      go_ret
      exact ⟨rfl, hX.out⟩
    · have tm := tmod2 qa
      have t1 : qa.tmod 2 ≠ 0 := by omega
      have t2 : (qa.tmod 2 != 0) = true := by simp [t1]
      have t3 : IntKind.i64.wrap (qa.tmod 2) = qa.tmod 2 := IntWalk.i64_in _ ⟨by omega, by omega⟩
      clear tm
      have hF : flT qa f = flipL f := if_neg hpar
      have ca0_0 := B3.c0 haB.out
      have ca1_0 := B3.c1 haB.out
      have ca2_0 := B3.c2 haB.out
      go_wp2_with fail
      refine (Flip_own _ _ f _ iF.out (HP.out.u8l (by omega)) (HP.out.chk m1 (by omega))).mono ?_
      rintro e w7 ⟨bF, rfl, oF, lF, x⟩
      rw [HP.out.len]
      have xx : Ext w6 w7 := Ext.trans (Ext.refl w6) x
      replace hX := Lib.hid (Ext.trans hX.out xx)
      replace hT := Lib.hid (hT.out.ext xx)
      replace iW := Lib.hid (iW.out.ext xx)
      replace haN := Lib.hid (haN.out.ext xx)
      replace haB := Lib.hid (show B3 w7 (w3.heap.size) (.int .i64 (m : Int)) (.int .i64 qa) (.slice (some ⟨b, o, none⟩) ma ma) 30 from Ext.block xx haB.out)
      replace hbN := Lib.hid (hbN.out.ext xx)
      replace hbB := Lib.hid (show B3 w7 (w4.heap.size) (.int .i64 (m : Int)) (.int .i64 qb) (.slice pb mb mb) 30 from Ext.block xx hbB.out)
      clear xx x
      clear ca0_0 ca1_0 ca2_0
      have his := oF.is (by have := HP.out.flipL.1.len; omega)
      rw [HP.out.flipL.1.len, ← hF] at his
      have iG := Lib.hid his
      clear his oF lF t1 t2 t3 hF hpar
      have hcN0 : NX (w7.alloc (.cells #[.slice (some ⟨bF, 0, none⟩) m m] 22)) (.agg #[.int .i64 (m : Int), .int .i64 0, .slice (some ⟨w7.heap.size, 0, none⟩) 1 1]) m 0 [flT qa f] := ⟨_, rfl, ISX.lit1 rfl iG.out (Hs.out.pl _ (by simp)).len⟩
      have HcN0 := Lib.hid hcN0
      clear hcN0
      have cc0_2 := B3.c0 (show B3 ((w7.alloc (.cells #[.slice (some ⟨bF, 0, none⟩) m m] 22)).alloc (.cells #[.int .i64 (m : Int), .int .i64 0, .slice (some ⟨w7.heap.size, 0, none⟩) 1 1] 30)) (w7.heap.size + 1) (.int .i64 (m : Int)) (.int .i64 0) (.slice (some ⟨w7.heap.size, 0, none⟩) 1 1) 30 from by have := B3.new (w7.alloc (.cells #[.slice (some ⟨bF, 0, none⟩) m m] 22)) (.int .i64 (m : Int)) (.int .i64 0) (.slice (some ⟨w7.heap.size, 0, none⟩) 1 1) 30; simpa using this)
      have cc1_2 := B3.c1 (show B3 ((w7.alloc (.cells #[.slice (some ⟨bF, 0, none⟩) m m] 22)).alloc (.cells #[.int .i64 (m : Int), .int .i64 0, .slice (some ⟨w7.heap.size, 0, none⟩) 1 1] 30)) (w7.heap.size + 1) (.int .i64 (m : Int)) (.int .i64 0) (.slice (some ⟨w7.heap.size, 0, none⟩) 1 1) 30 from by have := B3.new (w7.alloc (.cells #[.slice (some ⟨bF, 0, none⟩) m m] 22)) (.int .i64 (m : Int)) (.int .i64 0) (.slice (some ⟨w7.heap.size, 0, none⟩) 1 1) 30; simpa using this)
      have cc2_2 := B3.c2 (show B3 ((w7.alloc (.cells #[.slice (some ⟨bF, 0, none⟩) m m] 22)).alloc (.cells #[.int .i64 (m : Int), .int .i64 0, .slice (some ⟨w7.heap.size, 0, none⟩) 1 1] 30)) (w7.heap.size + 1) (.int .i64 (m : Int)) (.int .i64 0) (.slice (some ⟨w7.heap.size, 0, none⟩) 1 1) 30 from by have := B3.new (w7.alloc (.cells #[.slice (some ⟨bF, 0, none⟩) m m] 22)) (.int .i64 (m : Int)) (.int .i64 0) (.slice (some ⟨w7.heap.size, 0, none⟩) 1 1) 30; simpa using this)
      go_wp2_with fail
      refine (NInverse_calls _ m 0 [flT qa f] _ (HcN0.out.ext ((Ext.refl (w7.alloc (.cells #[.slice (some ⟨bF, 0, none⟩) m m] 22))).alloc (.cells #[.int .i64 (m : Int), .int .i64 0, .slice (some ⟨w7.heap.size, 0, none⟩) 1 1] 30))) Hs.out (by simp) (by simp)).mono ?_
      rintro e w8 hr
      have hcN := Lib.hid ((HcN0.out.ext ((Ext.refl (w7.alloc (.cells #[.slice (some ⟨bF, 0, none⟩) m m] 22))).alloc (.cells #[.int .i64 (m : Int), .int .i64 0, .slice (some ⟨w7.heap.size, 0, none⟩) 1 1] 30))).ext (hr.choose_spec.choose_spec.choose_spec.2.2.2.2.2.2.2))
      obtain ⟨vi, qi, li, rfl, hx, ho, hq, b1, b2, b3, x⟩ := hr
      obtain ⟨pi_, mi, rfl, hx⟩ := hx.v
      have hiN := Lib.hid hx; have hiO := Lib.hid ho; have hiQ := Lib.hid hq
      have hiL : Hid (-1 ≤ qi ∧ qi ≤ 0 ∧ li.length ≤ 1) := Lib.hid (by simp at b1 b2 b3; omega)
      clear hx ho hq b1 b2 b3
      have hcB := Lib.hid (show B3 w8 (w7.heap.size + 1) (.int .i64 (m : Int)) (.int .i64 0) (.slice (some ⟨w7.heap.size, 0, none⟩) 1 1) 30 from Ext.block x (show B3 ((w7.alloc (.cells #[.slice (some ⟨bF, 0, none⟩) m m] 22)).alloc (.cells #[.int .i64 (m : Int), .int .i64 0, .slice (some ⟨w7.heap.size, 0, none⟩) 1 1] 30)) (w7.heap.size + 1) (.int .i64 (m : Int)) (.int .i64 0) (.slice (some ⟨w7.heap.size, 0, none⟩) 1 1) 30 from by have := B3.new (w7.alloc (.cells #[.slice (some ⟨bF, 0, none⟩) m m] 22)) (.int .i64 (m : Int)) (.int .i64 0) (.slice (some ⟨w7.heap.size, 0, none⟩) 1 1) 30; simpa using this))
      have xx : Ext w7 w8 := Ext.trans (((Ext.refl w7).alloc (.cells #[.slice (some ⟨bF, 0, none⟩) m m] 22)).alloc (.cells #[.int .i64 (m : Int), .int .i64 0, .slice (some ⟨w7.heap.size, 0, none⟩) 1 1] 30)) x
      replace hX := Lib.hid (Ext.trans hX.out xx)
      replace hT := Lib.hid (hT.out.ext xx)
      replace iW := Lib.hid (iW.out.ext xx)
      replace haN := Lib.hid (haN.out.ext xx)
      replace haB := Lib.hid (show B3 w8 (w3.heap.size) (.int .i64 (m : Int)) (.int .i64 qa) (.slice (some ⟨b, o, none⟩) ma ma) 30 from Ext.block xx haB.out)
      replace hbN := Lib.hid (hbN.out.ext xx)
      replace hbB := Lib.hid (show B3 w8 (w4.heap.size) (.int .i64 (m : Int)) (.int .i64 qb) (.slice pb mb mb) 30 from Ext.block xx hbB.out)
      clear xx x
      clear cc0_2 cc1_2 cc2_2
      clear HcN0 iG iF Hc e0 e1 e1' hc
      have ci0_1 := B3.c0 (show B3 (w8.alloc (.cells #[.int .i64 (m : Int), .int .i64 qi, .slice pi_ mi mi] 30)) (w8.heap.size) (.int .i64 (m : Int)) (.int .i64 qi) (.slice pi_ mi mi) 30 from B3.new _ _ _ _ _)
      have ci1_1 := B3.c1 (show B3 (w8.alloc (.cells #[.int .i64 (m : Int), .int .i64 qi, .slice pi_ mi mi] 30)) (w8.heap.size) (.int .i64 (m : Int)) (.int .i64 qi) (.slice pi_ mi mi) 30 from B3.new _ _ _ _ _)
      have ci2_1 := B3.c2 (show B3 (w8.alloc (.cells #[.int .i64 (m : Int), .int .i64 qi, .slice pi_ mi mi] 30)) (w8.heap.size) (.int .i64 (m : Int)) (.int .i64 qi) (.slice pi_ mi mi) 30 from B3.new _ _ _ _ _)
      have ca0_0 := B3.c0 haB.out
      have ca1_0 := B3.c1 haB.out
      have ca2_0 := B3.c2 haB.out
      have ca0_1 := B3.c0 (show B3 (w8.alloc (.cells #[.int .i64 (m : Int), .int .i64 qi, .slice pi_ mi mi] 30)) (w3.heap.size) (.int .i64 (m : Int)) (.int .i64 qa) (.slice (some ⟨b, o, none⟩) ma ma) 30 from Ext.block ((Ext.refl w8).alloc (.cells #[.int .i64 (m : Int), .int .i64 qi, .slice pi_ mi mi] 30)) haB.out)
      have ca1_1 := B3.c1 (show B3 (w8.alloc (.cells #[.int .i64 (m : Int), .int .i64 qi, .slice pi_ mi mi] 30)) (w3.heap.size) (.int .i64 (m : Int)) (.int .i64 qa) (.slice (some ⟨b, o, none⟩) ma ma) 30 from Ext.block ((Ext.refl w8).alloc (.cells #[.int .i64 (m : Int), .int .i64 qi, .slice pi_ mi mi] 30)) haB.out)
      have ca2_1 := B3.c2 (show B3 (w8.alloc (.cells #[.int .i64 (m : Int), .int .i64 qi, .slice pi_ mi mi] 30)) (w3.heap.size) (.int .i64 (m : Int)) (.int .i64 qa) (.slice (some ⟨b, o, none⟩) ma ma) 30 from Ext.block ((Ext.refl w8).alloc (.cells #[.int .i64 (m : Int), .int .i64 qi, .slice pi_ mi mi] 30)) haB.out)
      go_wp2_with fail
      refine (Times_calls _ _ m qi qa li (f :: l) _ (hiN.out.ext ((Ext.refl w8).alloc (.cells #[.int .i64 (m : Int), .int .i64 qi, .slice pi_ mi mi] 30))) (haN.out.ext ((Ext.refl w8).alloc (.cells #[.int .i64 (m : Int), .int .i64 qi, .slice pi_ mi mi] 30))) hiO.out haO.out (by have := hiL.out; have := haL.out; simp at *; omega) (by have := hiL.out; have := haL.out; simp at *; omega) (by have := hiL.out; have := haL.out; simp at *; omega)).mono ?_
      rintro e w9 hr
      obtain ⟨vd, qd, ld, rfl, hx, ho, hq, b1, b2, b3, x⟩ := hr
      obtain ⟨pd, md, rfl, hx⟩ := hx.v
      have hdN := Lib.hid hx; have hdO := Lib.hid ho; have hdQ := Lib.hid hq
      have hdL : Hid (-25 ≤ qd ∧ qd ≤ 49 ∧ ld.length ≤ 25) := Lib.hid (by have := hiL.out; have := haL.out; simp at *; omega)
      clear hx ho hq b1 b2 b3
      have hiB := Lib.hid (show B3 w9 (w8.heap.size) (.int .i64 (m : Int)) (.int .i64 qi) (.slice pi_ mi mi) 30 from Ext.block x (show B3 (w8.alloc (.cells #[.int .i64 (m : Int), .int .i64 qi, .slice pi_ mi mi] 30)) (w8.heap.size) (.int .i64 (m : Int)) (.int .i64 qi) (.slice pi_ mi mi) 30 from B3.new _ _ _ _ _))
      have xx : Ext w8 w9 := Ext.trans ((Ext.refl w8).alloc (.cells #[.int .i64 (m : Int), .int .i64 qi, .slice pi_ mi mi] 30)) x
      replace hX := Lib.hid (Ext.trans hX.out xx)
      replace hT := Lib.hid (hT.out.ext xx)
      replace iW := Lib.hid (iW.out.ext xx)
      replace haN := Lib.hid (haN.out.ext xx)
      replace haB := Lib.hid (show B3 w9 (w3.heap.size) (.int .i64 (m : Int)) (.int .i64 qa) (.slice (some ⟨b, o, none⟩) ma ma) 30 from Ext.block xx haB.out)
      replace hbN := Lib.hid (hbN.out.ext xx)
      replace hbB := Lib.hid (show B3 w9 (w4.heap.size) (.int .i64 (m : Int)) (.int .i64 qb) (.slice pb mb mb) 30 from Ext.block xx hbB.out)
      replace hcB := Lib.hid (show B3 w9 (w7.heap.size + 1) (.int .i64 (m : Int)) (.int .i64 0) (.slice (some ⟨w7.heap.size, 0, none⟩) 1 1) 30 from Ext.block xx hcB.out)
      replace hiN := Lib.hid (hiN.out.ext xx)
      replace hcN := Lib.hid (hcN.out.ext xx)
      clear xx x
      clear ci0_1 ci1_1 ci2_1 ca0_0 ca1_0 ca2_0 ca0_1 ca1_1 ca2_1
      have cd0_1 := B3.c0 (show B3 (w9.alloc (.cells #[.int .i64 (m : Int), .int .i64 qd, .slice pd md md] 30)) (w9.heap.size) (.int .i64 (m : Int)) (.int .i64 qd) (.slice pd md md) 30 from B3.new _ _ _ _ _)
      have cd1_1 := B3.c1 (show B3 (w9.alloc (.cells #[.int .i64 (m : Int), .int .i64 qd, .slice pd md md] 30)) (w9.heap.size) (.int .i64 (m : Int)) (.int .i64 qd) (.slice pd md md) 30 from B3.new _ _ _ _ _)
      have cd2_1 := B3.c2 (show B3 (w9.alloc (.cells #[.int .i64 (m : Int), .int .i64 qd, .slice pd md md] 30)) (w9.heap.size) (.int .i64 (m : Int)) (.int .i64 qd) (.slice pd md md) 30 from B3.new _ _ _ _ _)
      have cc0_0 := B3.c0 hcB.out
      have cc1_0 := B3.c1 hcB.out
      have cc2_0 := B3.c2 hcB.out
      have cc0_1 := B3.c0 (show B3 (w9.alloc (.cells #[.int .i64 (m : Int), .int .i64 qd, .slice pd md md] 30)) (w7.heap.size + 1) (.int .i64 (m : Int)) (.int .i64 0) (.slice (some ⟨w7.heap.size, 0, none⟩) 1 1) 30 from Ext.block ((Ext.refl w9).alloc (.cells #[.int .i64 (m : Int), .int .i64 qd, .slice pd md md] 30)) hcB.out)
      have cc1_1 := B3.c1 (show B3 (w9.alloc (.cells #[.int .i64 (m : Int), .int .i64 qd, .slice pd md md] 30)) (w7.heap.size + 1) (.int .i64 (m : Int)) (.int .i64 0) (.slice (some ⟨w7.heap.size, 0, none⟩) 1 1) 30 from Ext.block ((Ext.refl w9).alloc (.cells #[.int .i64 (m : Int), .int .i64 qd, .slice pd md md] 30)) hcB.out)
      have cc2_1 := B3.c2 (show B3 (w9.alloc (.cells #[.int .i64 (m : Int), .int .i64 qd, .slice pd md md] 30)) (w7.heap.size + 1) (.int .i64 (m : Int)) (.int .i64 0) (.slice (some ⟨w7.heap.size, 0, none⟩) 1 1) 30 from Ext.block ((Ext.refl w9).alloc (.cells #[.int .i64 (m : Int), .int .i64 qd, .slice pd md md] 30)) hcB.out)
      go_wp2_with fail
      refine (Times_calls _ _ m qd 0 ld [flT qa f] _ (hdN.out.ext ((Ext.refl w9).alloc (.cells #[.int .i64 (m : Int), .int .i64 qd, .slice pd md md] 30))) (hcN.out.ext ((Ext.refl w9).alloc (.cells #[.int .i64 (m : Int), .int .i64 qd, .slice pd md md] 30))) hdO.out Hs.out (by have := hdL.out; simp at *; omega) (by have := hdL.out; simp at *; omega) (by have := hdL.out; simp at *; omega)).mono ?_
      rintro e w10 hr
      obtain ⟨vu, qu, lu, rfl, hx, ho, hq, b1, b2, b3, x⟩ := hr
      obtain ⟨pu, mu, rfl, hx⟩ := hx.v
      have huN := Lib.hid hx; have huO := Lib.hid ho; have huQ := Lib.hid hq
      have huL : Hid (True) := Lib.hid (by trivial)
      clear hx ho hq b1 b2 b3
      have hdB := Lib.hid (show B3 w10 (w9.heap.size) (.int .i64 (m : Int)) (.int .i64 qd) (.slice pd md md) 30 from Ext.block x (show B3 (w9.alloc (.cells #[.int .i64 (m : Int), .int .i64 qd, .slice pd md md] 30)) (w9.heap.size) (.int .i64 (m : Int)) (.int .i64 qd) (.slice pd md md) 30 from B3.new _ _ _ _ _))
      have xx : Ext w9 w10 := Ext.trans ((Ext.refl w9).alloc (.cells #[.int .i64 (m : Int), .int .i64 qd, .slice pd md md] 30)) x
      replace hX := Lib.hid (Ext.trans hX.out xx)
      replace hT := Lib.hid (hT.out.ext xx)
      replace iW := Lib.hid (iW.out.ext xx)
      replace haN := Lib.hid (haN.out.ext xx)
      replace haB := Lib.hid (show B3 w10 (w3.heap.size) (.int .i64 (m : Int)) (.int .i64 qa) (.slice (some ⟨b, o, none⟩) ma ma) 30 from Ext.block xx haB.out)
      replace hbN := Lib.hid (hbN.out.ext xx)
      replace hbB := Lib.hid (show B3 w10 (w4.heap.size) (.int .i64 (m : Int)) (.int .i64 qb) (.slice pb mb mb) 30 from Ext.block xx hbB.out)
      replace hcB := Lib.hid (show B3 w10 (w7.heap.size + 1) (.int .i64 (m : Int)) (.int .i64 0) (.slice (some ⟨w7.heap.size, 0, none⟩) 1 1) 30 from Ext.block xx hcB.out)
      replace hiN := Lib.hid (hiN.out.ext xx)
      replace hcN := Lib.hid (hcN.out.ext xx)
      replace hiB := Lib.hid (show B3 w10 (w8.heap.size) (.int .i64 (m : Int)) (.int .i64 qi) (.slice pi_ mi mi) 30 from Ext.block xx hiB.out)
      replace hdN := Lib.hid (hdN.out.ext xx)
      clear xx x
      clear cd0_1 cd1_1 cd2_1 cc0_0 cc1_0 cc2_0 cc0_1 cc1_1 cc2_1
      have Eub := Lib.hid (law_cyc haO.out hbQ.out hiQ.out hdQ.out huQ.out huO.out hbO.out)
      have cu0_1 := B3.c0 (show B3 (w10.alloc (.cells #[.int .i64 (m : Int), .int .i64 qu, .slice pu mu mu] 30)) (w10.heap.size) (.int .i64 (m : Int)) (.int .i64 qu) (.slice pu mu mu) 30 from B3.new _ _ _ _ _)
      have cu1_1 := B3.c1 (show B3 (w10.alloc (.cells #[.int .i64 (m : Int), .int .i64 qu, .slice pu mu mu] 30)) (w10.heap.size) (.int .i64 (m : Int)) (.int .i64 qu) (.slice pu mu mu) 30 from B3.new _ _ _ _ _)
      have cu2_1 := B3.c2 (show B3 (w10.alloc (.cells #[.int .i64 (m : Int), .int .i64 qu, .slice pu mu mu] 30)) (w10.heap.size) (.int .i64 (m : Int)) (.int .i64 qu) (.slice pu mu mu) 30 from B3.new _ _ _ _ _)
      have cb0_0 := B3.c0 hbB.out
      have cb1_0 := B3.c1 hbB.out
      have cb2_0 := B3.c2 hbB.out
      have cb0_1 := B3.c0 (show B3 (w10.alloc (.cells #[.int .i64 (m : Int), .int .i64 qu, .slice pu mu mu] 30)) (w4.heap.size) (.int .i64 (m : Int)) (.int .i64 qb) (.slice pb mb mb) 30 from Ext.block ((Ext.refl w10).alloc (.cells #[.int .i64 (m : Int), .int .i64 qu, .slice pu mu mu] 30)) hbB.out)
      have cb1_1 := B3.c1 (show B3 (w10.alloc (.cells #[.int .i64 (m : Int), .int .i64 qu, .slice pu mu mu] 30)) (w4.heap.size) (.int .i64 (m : Int)) (.int .i64 qb) (.slice pb mb mb) 30 from Ext.block ((Ext.refl w10).alloc (.cells #[.int .i64 (m : Int), .int .i64 qu, .slice pu mu mu] 30)) hbB.out)
      have cb2_1 := B3.c2 (show B3 (w10.alloc (.cells #[.int .i64 (m : Int), .int .i64 qu, .slice pu mu mu] 30)) (w4.heap.size) (.int .i64 (m : Int)) (.int .i64 qb) (.slice pb mb mb) 30 from Ext.block ((Ext.refl w10).alloc (.cells #[.int .i64 (m : Int), .int .i64 qu, .slice pu mu mu] 30)) hbB.out)
      go_wp2_with fail
      refine (NSame_calls _ _ m m qu qb lu lb _ (huN.out.ext ((Ext.refl w10).alloc (.cells #[.int .i64 (m : Int), .int .i64 qu, .slice pu mu mu] 30))).ns (hbN.out.ext ((Ext.refl w10).alloc (.cells #[.int .i64 (m : Int), .int .i64 qu, .slice pu mu mu] 30))).ns (huO.out.pl.byt huO.out.n8) (hbO.out.pl.byt hbO.out.n8)).mono ?_
      rintro e w11 ⟨rfl, x⟩
      rw [show nsame (m : Int) m qu qb lu lb = true from decide_eq_true ⟨rfl, Eub.out.1, Eub.out.2⟩]
      have huB := Lib.hid (show B3 w11 (w10.heap.size) (.int .i64 (m : Int)) (.int .i64 qu) (.slice pu mu mu) 30 from Ext.block x (show B3 (w10.alloc (.cells #[.int .i64 (m : Int), .int .i64 qu, .slice pu mu mu] 30)) (w10.heap.size) (.int .i64 (m : Int)) (.int .i64 qu) (.slice pu mu mu) 30 from B3.new _ _ _ _ _))
      have xx : Ext w10 w11 := Ext.trans ((Ext.refl w10).alloc (.cells #[.int .i64 (m : Int), .int .i64 qu, .slice pu mu mu] 30)) x
      replace hX := Lib.hid (Ext.trans hX.out xx)
      replace hT := Lib.hid (hT.out.ext xx)
      replace iW := Lib.hid (iW.out.ext xx)
      replace haN := Lib.hid (haN.out.ext xx)
      replace haB := Lib.hid (show B3 w11 (w3.heap.size) (.int .i64 (m : Int)) (.int .i64 qa) (.slice (some ⟨b, o, none⟩) ma ma) 30 from Ext.block xx haB.out)
      replace hbN := Lib.hid (hbN.out.ext xx)
      replace hbB := Lib.hid (show B3 w11 (w4.heap.size) (.int .i64 (m : Int)) (.int .i64 qb) (.slice pb mb mb) 30 from Ext.block xx hbB.out)
      replace hcB := Lib.hid (show B3 w11 (w7.heap.size + 1) (.int .i64 (m : Int)) (.int .i64 0) (.slice (some ⟨w7.heap.size, 0, none⟩) 1 1) 30 from Ext.block xx hcB.out)
      replace hiN := Lib.hid (hiN.out.ext xx)
      replace hcN := Lib.hid (hcN.out.ext xx)
      replace hiB := Lib.hid (show B3 w11 (w8.heap.size) (.int .i64 (m : Int)) (.int .i64 qi) (.slice pi_ mi mi) 30 from Ext.block xx hiB.out)
      replace hdN := Lib.hid (hdN.out.ext xx)
      replace hdB := Lib.hid (show B3 w11 (w9.heap.size) (.int .i64 (m : Int)) (.int .i64 qd) (.slice pd md md) 30 from Ext.block xx hdB.out)
      replace huN := Lib.hid (huN.out.ext xx)
      clear xx x
      clear cu0_1 cu1_1 cu2_1 cb0_0 cb1_0 cb2_0 cb0_1 cb1_1 cb2_1
      go_wp2_with fail
      refine (Lives_calls _ hT.out).mono ?_
      rintro e w12 ⟨rfl, x⟩
      have xx : Ext w11 w12 := Ext.trans (Ext.refl w11) x
      replace hX := Lib.hid (Ext.trans hX.out xx)
      replace hT := Lib.hid (hT.out.ext xx)
      replace iW := Lib.hid (iW.out.ext xx)
      replace haN := Lib.hid (haN.out.ext xx)
      replace haB := Lib.hid (show B3 w12 (w3.heap.size) (.int .i64 (m : Int)) (.int .i64 qa) (.slice (some ⟨b, o, none⟩) ma ma) 30 from Ext.block xx haB.out)
      replace hbN := Lib.hid (hbN.out.ext xx)
      replace hbB := Lib.hid (show B3 w12 (w4.heap.size) (.int .i64 (m : Int)) (.int .i64 qb) (.slice pb mb mb) 30 from Ext.block xx hbB.out)
      replace hcB := Lib.hid (show B3 w12 (w7.heap.size + 1) (.int .i64 (m : Int)) (.int .i64 0) (.slice (some ⟨w7.heap.size, 0, none⟩) 1 1) 30 from Ext.block xx hcB.out)
      replace hiN := Lib.hid (hiN.out.ext xx)
      replace hcN := Lib.hid (hcN.out.ext xx)
      replace hiB := Lib.hid (show B3 w12 (w8.heap.size) (.int .i64 (m : Int)) (.int .i64 qi) (.slice pi_ mi mi) 30 from Ext.block xx hiB.out)
      replace hdN := Lib.hid (hdN.out.ext xx)
      replace hdB := Lib.hid (show B3 w12 (w9.heap.size) (.int .i64 (m : Int)) (.int .i64 qd) (.slice pd md md) 30 from Ext.block xx hdB.out)
      replace huN := Lib.hid (huN.out.ext xx)
      replace huB := Lib.hid (show B3 w12 (w10.heap.size) (.int .i64 (m : Int)) (.int .i64 qu) (.slice pu mu mu) 30 from Ext.block xx huB.out)
      clear xx x
      go_wp2
      go_ret
      exact ⟨rfl, hX.out⟩
end Go.Proofs.YtigffblelngpjaaDoor
