/- Texts of this claim in one file: libraries and walks. -/
import Derived.Test.YtigffblelngpjaaDoorMForm0
import Derived.Test.YtigffblelngpjaaDoorMForm5
import Derived.Test.YtigffblelngpjaaDoorMForm6
import Derived.Test.YtigffblelngpjaaDoorMForm7
import Derived.Test.YtigffblelngpjaaDoorMForm8
/- The law NormalsForm: its walk (printed by gen_l25d.py). -/
namespace Go.Proofs.YtigffblelngpjaaDoor
set_option linter.unusedVariables false
set_option linter.unusedSimpArgs false
set_option maxRecDepth 100000
open Go Go.RowKit

theorem RetWd.gen {w w' : World} {xs : List Int} {e : Ending} (h : RetWd w xs e w') : ∃ v k, e = .returned (.tuple #[v, .int .i64 k]) ∧ Ext w w' ∧ ((64 < xs.length ∧ v = .slice none 0 0 ∧ k = 3) ∨ (xs.length ≤ 64 ∧ k = 0 ∧ ∃ g, v = .slice (some ⟨g, 0, none⟩) xs.length xs.length ∧ IS .i64 w' (.slice (some ⟨g, 0, none⟩) xs.length xs.length) xs.length xs)) := by
  rcases h with ⟨h, rfl, x⟩ | ⟨h, g, L, rfl, rfl, hi, x⟩
  · exact ⟨_, _, rfl, x, .inl ⟨h, rfl, rfl⟩⟩
  · exact ⟨_, _, rfl, x, .inr ⟨h, rfl, g, rfl, hi⟩⟩
theorem least_bad {P : Nat → Prop} : ∀ N, (¬ ∀ k, k < N → P k) → ∃ T, T < N ∧ (∀ k, k < T → P k) ∧ ¬ P T
  | 0, h => absurd (fun k hk => absurd hk (by omega)) h
  | N + 1, h => by
    by_cases h1 : ∀ k, k < N → P k
    · exact ⟨N, by omega, h1, fun hp => h fun k hk => by
        rcases Nat.lt_or_ge k N with h2 | h2
        · exact h1 k h2
        · obtain rfl : k = N := by omega
          exact hp⟩
    · obtain ⟨T, a, b, c⟩ := least_bad N h1
      exact ⟨T, by omega, b, c⟩
/-- Act, whether it fits or not. -/
theorem act_any (n : Nat) (v : Value) (c : Nat) (xs : List Int) (w : World) (h : IS .i64 w v c xs) (hw : wcheck n xs = 0) :
    Calls Tryd.prog 15 #[.int .i64 n, v] w fun e w' => ∃ u k, e = .returned (.tuple #[u, .int .i64 k]) ∧ Ext w w' ∧ (k = 3 ∨ (k = 0 ∧ ISX .i64 w' u n (actRows n xs))) := by
  by_cases hf : fits n xs
  · refine (Act_calls n v c xs w h hw hf).mono ?_
    rintro e w' ⟨u, rfl, hu, x⟩
    exact ⟨u, 0, rfl, x, .inr ⟨rfl, hu⟩⟩
  · obtain ⟨T, h1, h2, h3⟩ := least_bad xs.length hf
    refine (Act_over n v c xs w h hw T h1 h2 (by omega)).mono ?_
    rintro e w' ⟨rfl, x⟩
    exact ⟨_, _, rfl, x, .inl rfl⟩
theorem suml_take {ls : List (List Int)} {k : Nat} (hk : k < ls.length) : suml (ls.take (k + 1)) = suml (ls.take k) + invs (ri ls k) := by
  unfold suml
  rw [take_ri hk, List.map_append]; simp
theorem suml_bd {n : Nat} {q : Int} {ls : List (List Int)} (h : NFo n q ls) : ∀ k, k ≤ ls.length → 0 ≤ suml (ls.take k) ∧ suml (ls.take k) ≤ (k : Int) * prs n
  | 0, _ => by rw [List.take_zero]; exact ⟨Int.le_refl _, by simp [suml]⟩
  | k + 1, hk => by
    have ih := suml_bd h k (by omega)
    have h2 := h.two (i := k) (by omega)
    rw [suml_take (by omega)]
    have := Int.add_mul (k : Int) 1 (prs n)
    rw [Int.one_mul] at this
    rw [show ((k + 1 : Nat) : Int) = (k : Int) + 1 by omega, this]
    omega
theorem nf_word {n : Nat} {w : List Int} {qa qb : Int} {la lb : List (List Int)} (hw : Val n w) (ha : Qv n (raw n w) (qa, pms n la)) (hb : Qv n (raw n (wordN n qa la)) (qb, pms n lb)) (oa : NFo n qa la) (ob : NFo n qb lb) : qa = qb ∧ la = lb := nf_br hw (wordN_val oa.pl) (wordN_law hw oa ha).symm oa ha ob hb
theorem act_word {n : Nat} {w : List Int} {qa : Int} {la : List (List Int)} (n1 : 1 ≤ n) (hw : Val n w) (oa : NFo n qa la) (ha : Qv n (raw n w) (qa, pms n la)) : rowsB (actRows n w) (actRows n (wordN n qa la)) = true :=
  decide_eq_true ((act_br n1 hw (wordN_val oa.pl)).2 (wordN_law hw oa ha).symm)
set_option maxHeartbeats 32000000 in
theorem NormalsForm_walk (n : Int) (va : Value) (ca : Nat) (xs : List Int) (w : World) (hn : 0 ≤ n ∧ n ≤ 255) (h : IS .u8 w va ca xs) (hb : ∀ i, i < xs.length → 0 ≤ gi xs i ∧ gi xs i ≤ 255) (ht : PTab w) :
    Calls Tryd.prog 7 #[.int .u8 n, va] w fun e w' => e = .returned (.bool true) ∧ Ext w w' := by
  obtain ⟨m, hm⟩ : ∃ m : Nat, (m : Int) = 1 + n % 6 := ⟨(1 + n % 6).toNat, by omega⟩
  have m1 : 1 ≤ m := by omega
  have m6 : m ≤ 6 := by omega
  have hStr := fun w => Strands_m n m w hn hm
  obtain ⟨a1, n1, c1, rfl, hn1, rfl, h1⟩ := h.out
  have hOf := fun w' (x : Ext w w') => Word12_calls m (.slice a1 n1 c1) c1 xs w' (h1.ext x) hb ⟨by omega, by omega⟩
  have hv : Val m ((wordOf m xs).take 12) := take_val (wordOf_val (by omega) hb) 12
  have hl12 : ((wordOf m xs).take 12).length ≤ 12 := by simp; omega
  obtain ⟨W, hW⟩ : ∃ W, W = (wordOf m xs).take 12 := ⟨_, rfl⟩
  rw [← hW] at hOf hv hl12
  have hcW := wcheck_val (n := m) (by omega) (by omega) (by omega) hv
  have hnW := fun v c w' (hi : IS .i64 w' v c W) => NOf2_calls m v c W w' hi hcW hv m1 (by omega) (by omega)
  have hAW := fun v c w' (hi : IS .i64 w' v c W) => Act_calls m v c W w' hi hcW (fits12 hv.at m1 hl12)
  have hPW := fun v c w' (hi : IS .i64 w' v c W) => Permutation_calls m v c W w' hi hcW
  have hSW := fun v c w' (hi : IS .i64 w' v c W) => Sum_calls m v c W w' hi hcW
  have hPl := fun qa la (ha : Qv m (raw m W) (qa, pms m la)) (ho : NFo m qa la) => perm_law m1 (by omega) hv ho ha
  have hSl := fun qa la (ha : Qv m (raw m W) (qa, pms m la)) (ho : NFo m qa la) => sum_law hv ho ha
  have hLf := fun qa qb la lb (ha : Qv m (raw m W) (qa, pms m la)) (hb : Qv m (raw m (wordN m qa la)) (qb, pms m lb)) (oa : NFo m qa la) (ob : NFo m qb lb) => nf_word hv ha hb oa ob
  have hLa := fun qa la (ha : Qv m (raw m W) (qa, pms m la)) (ho : NFo m qa la) => act_word m1 hv ho ha
  have hpl : (permOf m W).length = m := inv_len _ _
  have hsb := ssum_bd W
  have HS := Lib.hid hStr; have HOf := Lib.hid hOf; have HnW := Lib.hid hnW; have HAW := Lib.hid hAW; have HPW := Lib.hid hPW; have HSW := Lib.hid hSW; have HPl := Lib.hid hPl; have HSl := Lib.hid hSl; have HLf := Lib.hid hLf; have HLa := Lib.hid hLa; have Hpl := Lib.hid hpl; have HlW := Lib.hid hl12; have Hsb := Lib.hid hsb; have hT := Lib.hid ht
  clear hStr hOf hnW hAW hPW hSW hPl hSl hLf hLa hpl hsb ht hv hl12 hcW hW hm hb h h1 hn1
  have hX := Lib.hid (Ext.refl w)
  go_enter Tryd.func7, Tryd.ntmps7
  go_wp2_with fail
  refine (HS.out _).mono ?_
  rintro e w1 ⟨rfl, rfl⟩
  go_wp2_with fail
  refine (HOf.out _ hX.out).mono ?_
  rintro e w2 ⟨sW, nW, cW, rfl, hW, x⟩
  have xx : Ext w w2 := Ext.trans (Ext.refl w) x
  replace hX := Lib.hid (Ext.trans hX.out xx)
  replace hT := Lib.hid (hT.out.ext xx)
  clear xx x
  have iW := Lib.hid hW
  clear hW
  go_wp2_with fail
  refine (HnW.out _ _ _ iW.out).mono ?_
  rintro e w3 hr
  obtain ⟨va, qa, la, rfl, hx, ho, hq, b1, b2, b3, x⟩ := hr
  obtain ⟨pa, ma, rfl, hx⟩ := hx.v
  have haN := Lib.hid hx; have haO := Lib.hid ho; have haQ := Lib.hid hq
  have haL : Hid (-12 ≤ qa ∧ qa ≤ 12 ∧ la.length ≤ 12) := Lib.hid (by have := HlW.out; omega)
  clear hx ho hq b1 b2 b3
  have xx : Ext w2 w3 := Ext.trans (Ext.refl w2) x
  replace hX := Lib.hid (Ext.trans hX.out xx)
  replace hT := Lib.hid (hT.out.ext xx)
  replace iW := Lib.hid (iW.out.ext xx)
  clear xx x
  have ca0_1 := B3.c0 (show B3 (w3.alloc (.cells #[.int .i64 (m : Int), .int .i64 qa, .slice pa ma ma] 30)) (w3.heap.size) (.int .i64 (m : Int)) (.int .i64 qa) (.slice pa ma ma) 30 from B3.new _ _ _ _ _)
  have ca1_1 := B3.c1 (show B3 (w3.alloc (.cells #[.int .i64 (m : Int), .int .i64 qa, .slice pa ma ma] 30)) (w3.heap.size) (.int .i64 (m : Int)) (.int .i64 qa) (.slice pa ma ma) 30 from B3.new _ _ _ _ _)
  have ca2_1 := B3.c2 (show B3 (w3.alloc (.cells #[.int .i64 (m : Int), .int .i64 qa, .slice pa ma ma] 30)) (w3.heap.size) (.int .i64 (m : Int)) (.int .i64 qa) (.slice pa ma ma) 30 from B3.new _ _ _ _ _)
  go_wp2_with fail
  refine (NCheck_calls _ m qa la _ (haN.out.ext ((Ext.refl w3).alloc (.cells #[.int .i64 (m : Int), .int .i64 qa, .slice pa ma ma] 30))) haO.out).mono ?_
  rintro e w4 ⟨rfl, x⟩
  have haB := Lib.hid (show B3 w4 (w3.heap.size) (.int .i64 (m : Int)) (.int .i64 qa) (.slice pa ma ma) 30 from Ext.block x (show B3 (w3.alloc (.cells #[.int .i64 (m : Int), .int .i64 qa, .slice pa ma ma] 30)) (w3.heap.size) (.int .i64 (m : Int)) (.int .i64 qa) (.slice pa ma ma) 30 from B3.new _ _ _ _ _))
  have xx : Ext w3 w4 := Ext.trans ((Ext.refl w3).alloc (.cells #[.int .i64 (m : Int), .int .i64 qa, .slice pa ma ma] 30)) x
  replace hX := Lib.hid (Ext.trans hX.out xx)
  replace hT := Lib.hid (hT.out.ext xx)
  replace iW := Lib.hid (iW.out.ext xx)
  replace haN := Lib.hid (haN.out.ext xx)
  clear xx x
  clear ca0_1 ca1_1 ca2_1
  have ca0_0 := B3.c0 haB.out
  have ca1_0 := B3.c1 haB.out
  have ca2_0 := B3.c2 haB.out
  go_wp2_with fail
  refine (Formed_calls _ m ma qa la _ haN.out haO.out).mono ?_
  rintro e w5 ⟨rfl, x⟩
  have xx : Ext w4 w5 := Ext.trans (Ext.refl w4) x
  replace hX := Lib.hid (Ext.trans hX.out xx)
  replace hT := Lib.hid (hT.out.ext xx)
  replace iW := Lib.hid (iW.out.ext xx)
  replace haN := Lib.hid (haN.out.ext xx)
  replace haB := Lib.hid (show B3 w5 (w3.heap.size) (.int .i64 (m : Int)) (.int .i64 qa) (.slice pa ma ma) 30 from Ext.block xx haB.out)
  clear xx x
  clear ca0_0 ca1_0 ca2_0
  have ca0_0 := B3.c0 haB.out
  have ca1_0 := B3.c1 haB.out
  have ca2_0 := B3.c2 haB.out
  go_wp2_with fail
  refine (Clipped_calls _ m qa la _ haN.out).mono ?_
  rintro e w6 ⟨rfl, x⟩
  have xx : Ext w5 w6 := Ext.trans (Ext.refl w5) x
  replace hX := Lib.hid (Ext.trans hX.out xx)
  replace hT := Lib.hid (hT.out.ext xx)
  replace iW := Lib.hid (iW.out.ext xx)
  replace haN := Lib.hid (haN.out.ext xx)
  replace haB := Lib.hid (show B3 w6 (w3.heap.size) (.int .i64 (m : Int)) (.int .i64 qa) (.slice pa ma ma) 30 from Ext.block xx haB.out)
  clear xx x
  clear ca0_0 ca1_0 ca2_0
  have ca0_0 := B3.c0 haB.out
  have ca1_0 := B3.c1 haB.out
  have ca2_0 := B3.c2 haB.out
  go_wp2_with fail
  refine (NPerm_calls _ m qa la _ haN.out haO.out).mono ?_
  rintro e w7 ⟨bP, rfl, hP, x⟩
  rw [HPl.out qa la haQ.out haO.out] at hP
  have xx : Ext w6 w7 := Ext.trans (Ext.refl w6) x
  replace hX := Lib.hid (Ext.trans hX.out xx)
  replace hT := Lib.hid (hT.out.ext xx)
  replace iW := Lib.hid (iW.out.ext xx)
  replace haN := Lib.hid (haN.out.ext xx)
  replace haB := Lib.hid (show B3 w7 (w3.heap.size) (.int .i64 (m : Int)) (.int .i64 qa) (.slice pa ma ma) 30 from Ext.block xx haB.out)
  clear xx x
  clear ca0_0 ca1_0 ca2_0
  have his := hP.is (by rw [Hpl.out]; omega)
  rw [Hpl.out] at his
  have iP := Lib.hid his
  clear his hP
  go_wp2_with fail
  refine (HPW.out _ _ _ iW.out).mono ?_
  rintro e w8 hr
  obtain ⟨vQ, rfl, hQ, x⟩ := hr
  obtain ⟨sQ, nQ, cQ, rfl, hnQ, hcQ, hQ⟩ := hQ.out
  rw [Hpl.out] at hnQ
  rw [hnQ, hcQ] at hQ ⊢
  clear hnQ hcQ
  have xx : Ext w7 w8 := Ext.trans (Ext.refl w7) x
  replace hX := Lib.hid (Ext.trans hX.out xx)
  replace hT := Lib.hid (hT.out.ext xx)
  replace iW := Lib.hid (iW.out.ext xx)
  replace haN := Lib.hid (haN.out.ext xx)
  replace haB := Lib.hid (show B3 w8 (w3.heap.size) (.int .i64 (m : Int)) (.int .i64 qa) (.slice pa ma ma) 30 from Ext.block xx haB.out)
  replace iP := Lib.hid (iP.out.ext xx)
  clear xx x
  have iQ := Lib.hid hQ
  clear hQ
  have cv1 : (convert 22 9 (.slice (some ⟨bP, 0, none⟩) m m)).run Tryd.prog w8 = .ok (.string (bstr (permOf m W))) w8 := run_bstr iP.out Tryd.underlying22 Tryd.underlying5 Tryd.underlying9
  have cv2 : (convert 22 9 (.slice sQ m m)).run Tryd.prog w8 = .ok (.string (bstr (permOf m W))) w8 := run_bstr iQ.out Tryd.underlying22 Tryd.underlying5 Tryd.underlying9
  have ca0_0 := B3.c0 haB.out
  have ca1_0 := B3.c1 haB.out
  have ca2_0 := B3.c2 haB.out
  go_wp2_with fail
  refine (NWord_calls _ m qa la _ haN.out haO.out).mono ?_
  rintro e w9 hr
  obtain ⟨vv, hh, rfl, x, hr⟩ := hr.gen
  have hV := Lib.hid hr
  clear hr
  have xx : Ext w8 w9 := Ext.trans (Ext.refl w8) x
  replace hX := Lib.hid (Ext.trans hX.out xx)
  replace hT := Lib.hid (hT.out.ext xx)
  replace iW := Lib.hid (iW.out.ext xx)
  replace haN := Lib.hid (haN.out.ext xx)
  replace haB := Lib.hid (show B3 w9 (w3.heap.size) (.int .i64 (m : Int)) (.int .i64 qa) (.slice pa ma ma) 30 from Ext.block xx haB.out)
  replace iP := Lib.hid (iP.out.ext xx)
  clear xx x
  clear cv1 cv2 ca0_0 ca1_0 ca2_0
  have hY := Lib.hid (Ext.refl w9)
  obtain ⟨D, hD⟩ : ∃ D, D = prs m := ⟨_, rfl⟩
  have hDe := prs_eq (n := m) (by omega)
  rw [← hD] at hDe
  have hnn : (0 : Int) ≤ (m : Int) * ((m : Int) - 1) ∧ (m : Int) * ((m : Int) - 1) ≤ 30 := by
    rcases (show m = 1 ∨ m = 2 ∨ m = 3 ∨ m = 4 ∨ m = 5 ∨ m = 6 by omega) with rfl | rfl | rfl | rfl | rfl | rfl <;> decide
  have g1 : IntKind.i64.wrap ((m : Int) - 1) = (m : Int) - 1 := IntWalk.i64_in _ ⟨by omega, by omega⟩
  have g2 : IntKind.i64.wrap ((m : Int) * ((m : Int) - 1)) = (m : Int) * ((m : Int) - 1) := IntWalk.i64_in _ ⟨by omega, by omega⟩
  have g3 : ((m : Int) * ((m : Int) - 1)).tdiv 2 = D := by rw [hDe, Int.tdiv_eq_ediv_of_nonneg hnn.1]
  have hDb : 0 ≤ D ∧ D ≤ 15 := by omega
  have g4 : IntKind.i64.wrap D = D := IntWalk.i64_in _ ⟨by omega, by omega⟩
  obtain ⟨nq, hnq⟩ : ∃ nq, nq = -qa := ⟨_, rfl⟩
  have hL := haL.out
  have g5 : IntKind.i64.wrap (-qa) = nq := by rw [hnq]; exact IntWalk.i64_in _ ⟨by omega, by omega⟩
  obtain ⟨A, hA⟩ : ∃ A : Int, A = (qa.natAbs : Int) := ⟨_, rfl⟩
  have g6 : max qa nq = A := by omega
  have g7 : (if qa < nq then nq else qa) = A := by split <;> omega
  have g8 : (if nq < qa then qa else nq) = A := by split <;> omega
  have hA12 : 0 ≤ A ∧ A ≤ 12 := by omega
  have hDA : 0 ≤ D * A ∧ D * A ≤ 180 := by
    refine ⟨Int.mul_nonneg hDb.1 hA12.1, ?_⟩
    have h1 := Int.mul_le_mul_of_nonneg_right hDb.2 hA12.1
    omega
  have hDq : -180 ≤ D * qa ∧ D * qa ≤ 180 := by
    have h1 := Int.mul_le_mul_of_nonneg_left (show qa ≤ A by omega) hDb.1
    have h2 := Int.mul_le_mul_of_nonneg_left (show -A ≤ qa by omega) hDb.1
    rw [Int.mul_neg] at h2
    omega
  obtain ⟨M, hM⟩ : ∃ M : Nat → Int, M = fun k => D * A + suml (la.take k) := ⟨_, rfl⟩
  obtain ⟨S, hS⟩ : ∃ S : Nat → Int, S = fun k => D * qa + suml (la.take k) := ⟨_, rfl⟩
  have hma := haN.out.m
  have hbd := fun k (hk : k ≤ ma) => suml_bd haO.out k (by omega)
  have hkD : ∀ k, k ≤ ma → (k : Int) * D ≤ 180 := fun k hk => by
    have h1 := Int.mul_le_mul_of_nonneg_left hDb.2 (show (0 : Int) ≤ k by omega)
    omega
  have g9 : IntKind.i64.wrap (D * A) = M 0 := by rw [hM]; simp only [List.take_zero]; rw [show suml ([] : List (List Int)) = 0 from rfl, Int.add_zero]; exact IntWalk.i64_in _ ⟨by omega, by omega⟩
  have g10 : IntKind.i64.wrap (D * qa) = S 0 := by rw [hS]; simp only [List.take_zero]; rw [show suml ([] : List (List Int)) = 0 from rfl, Int.add_zero]; exact IntWalk.i64_in _ ⟨by omega, by omega⟩
  have HMs := Lib.hid (show ∀ k, k < ma → M (k + 1) = M k + invs (ri la k) from fun k hk => by rw [hM]; show D * A + suml (la.take (k + 1)) = _; rw [suml_take (by omega)]; show _ = D * A + suml (la.take k) + _; omega)
  have HSs := Lib.hid (show ∀ k, k < ma → S (k + 1) = S k + invs (ri la k) from fun k hk => by rw [hS]; show D * qa + suml (la.take (k + 1)) = _; rw [suml_take (by omega)]; show _ = D * qa + suml (la.take k) + _; omega)
  have HMb := Lib.hid (show ∀ k, k ≤ ma → 0 ≤ M k ∧ M k ≤ 360 from fun k hk => by rw [hM]; show 0 ≤ D * A + suml (la.take k) ∧ D * A + suml (la.take k) ≤ 360; have h1 := hbd k hk; rw [← hD] at h1; have h2 := hkD k hk; omega)
  have HSb := Lib.hid (show ∀ k, k ≤ ma → -360 ≤ S k ∧ S k ≤ 360 from fun k hk => by rw [hS]; show -360 ≤ D * qa + suml (la.take k) ∧ D * qa + suml (la.take k) ≤ 360; have h1 := hbd k hk; rw [← hD] at h1; have h2 := hkD k hk; omega)
  obtain ⟨Z, hZ⟩ : ∃ Z, Z = wordN m qa la := ⟨_, rfl⟩
  have HMe := Lib.hid (show M ma = (Z.length : Int) by rw [hM, hZ, wordN_len, ← hD, ← hA]; show D * A + suml (la.take ma) = _; rw [hma, List.take_length, Int.mul_comm])
  have HSe := Lib.hid (show S ma = ssum W by rw [HSl.out qa la haQ.out haO.out, hS, ← hD]; show D * qa + suml (la.take ma) = _; rw [hma, List.take_length, Int.mul_comm])
  have HZ := Lib.hid hZ
  have hml : ma ≤ 12 := by omega
  have HEl := Lib.hid (fun k (hk : k < ma) => haN.out.el haO.out.pl (i := k) (by omega))
  rw [← hZ] at hV
  have HD := Lib.hid hD; have Hma := Lib.hid hma
  clear hD hDe hnn hDb hnq hL hA hA12 hDA hDq hM hS hma hbd hkD hZ
  have q0 := B3.c0 haB.out; have q1 := B3.c1 haB.out; have q2 := B3.c2 haB.out
  go_wp2
  go_loopw [15, 16, 17] (fun a b i wr => ∃ k : Nat, k ≤ ma ∧ a = .int .i64 (M k) ∧ b = .int .i64 (S k) ∧ i = .int .i64 k ∧ Hid (Ext w9 wr)) (fun _ _ i _ => ma - (intOf i).toNat)
  case atStart => exact ⟨0, Nat.zero_le _, rfl, rfl, rfl, Lib.hid (Ext.refl _)⟩
  case round =>
    obtain ⟨k, hk, rfl, rfl, rfl, X⟩ := hrel
    clear q0 q1 q2 g1 g2 g3 g4 g5 g6 g7 g8 g9 g10
    by_cases hlt : k < ma
    · have e1 : (k : Int) < ma := by omega
      have e2 : (0 : Int) ≤ k := by omega
      obtain ⟨hP, b, o, av, hpa, hc, hI⟩ := HEl.out k hlt
      have HC := Lib.hid (fun w' (x : Ext w9 w') => Crossings_calls _ _ _ w' (hI.ext x) (by rw [hP.len]; omega))
      obtain ⟨I, hIe⟩ : ∃ I, I = invs (ri la k) := ⟨_, rfl⟩
      have hM1 := HMs.out k hlt; have hM2 := HMb.out (k + 1) (by omega); have hS1 := HSs.out k hlt; have hS2 := HSb.out (k + 1) (by omega)
      rw [← hIe] at HC hM1 hS1
      have w1 : IntKind.i64.wrap (M k + I) = M (k + 1) := by rw [← hM1]; exact IntWalk.i64_in _ ⟨by omega, by omega⟩
      have w2 : IntKind.i64.wrap (S k + I) = S (k + 1) := by rw [← hS1]; exact IntWalk.i64_in _ ⟨by omega, by omega⟩
      subst hpa
      have r2 := X.out.cell (B3.c2 haB.out)
      have rk := X.out.cell hc
      have Hc := Lib.hid hc
      clear hP hI hIe hM1 hM2 hS1 hS2 hc
      go_wp2_with fail
      refine (HC.out _ X.out).mono ?_
      rintro e wc ⟨rfl, x2⟩
      have X2 := Lib.hid (X.out.trans x2)
      clear x2 r2 rk
      have r2 := X2.out.cell (B3.c2 haB.out)
      have rk := X2.out.cell Hc.out
      go_wp2_with fail
      refine (HC.out _ X2.out).mono ?_
      rintro e wd ⟨rfl, x3⟩
      have X3 := Lib.hid (X2.out.trans x3)
      clear x3 r2 rk
      go_wp2
      go_roundw
      case rel => exact ⟨k + 1, by omega, rfl, rfl, by go_num, X3⟩
      case measure => simp [intOf]; omega
    · obtain rfl : k = ma := by omega
      have e1 : ¬ (k : Int) < k := by omega
      clear hlt hk
      have r2 := X.out.cell (B3.c2 haB.out)
      replace hX := Lib.hid (Ext.trans hX.out X.out)
      replace hT := Lib.hid (hT.out.ext X.out)
      replace iW := Lib.hid (iW.out.ext X.out)
      replace haN := Lib.hid (haN.out.ext X.out)
      replace haB := Lib.hid (show B3 wr (w3.heap.size) (.int .i64 (m : Int)) (.int .i64 qa) (.slice pa k k) 30 from Ext.block X.out haB.out)
      replace iP := Lib.hid (iP.out.ext X.out)
      replace hY := Lib.hid (Ext.trans hY.out X.out)
      go_wp2_with fail
      refine (HSW.out _ _ _ iW.out).mono ?_
      rintro e w10 ⟨rfl, x⟩
      have xx : Ext wr w10 := Ext.trans (Ext.refl wr) x
      replace hX := Lib.hid (Ext.trans hX.out xx)
      replace hT := Lib.hid (hT.out.ext xx)
      replace iW := Lib.hid (iW.out.ext xx)
      replace haN := Lib.hid (haN.out.ext xx)
      replace haB := Lib.hid (show B3 w10 (w3.heap.size) (.int .i64 (m : Int)) (.int .i64 qa) (.slice pa k k) 30 from Ext.block xx haB.out)
      replace iP := Lib.hid (iP.out.ext xx)
      replace hY := Lib.hid (Ext.trans hY.out xx)
      clear xx x
      clear r2
      have f1 : M k = (Z.length : Int) := HMe.out
      have f2 : S k = ssum W := HSe.out
      have hV2 := hV.out
      clear hV HMe HSe HMs HSs HMb HSb HEl
      rcases hV2 with ⟨hbig, rfl, rfl⟩ | ⟨hsm, rfl, gZ, rfl, hI⟩
      · have f3 : ¬ (Z.length : Int) ≤ 64 := by omega
        clear hbig
        go_wp2_with fail
        refine (Lives_calls _ hT.out).mono ?_
        rintro e w11 ⟨rfl, x⟩
        have xx : Ext w10 w11 := Ext.trans (Ext.refl w10) x
        replace hX := Lib.hid (Ext.trans hX.out xx)
        replace hT := Lib.hid (hT.out.ext xx)
        replace iW := Lib.hid (iW.out.ext xx)
        replace haN := Lib.hid (haN.out.ext xx)
        replace haB := Lib.hid (show B3 w11 (w3.heap.size) (.int .i64 (m : Int)) (.int .i64 qa) (.slice pa k k) 30 from Ext.block xx haB.out)
        replace iP := Lib.hid (iP.out.ext xx)
        replace hY := Lib.hid (Ext.trans hY.out xx)
        clear xx x
        go_wp2
        go_ret
        exact ⟨rfl, hX.out⟩
      · have f3 : (Z.length : Int) ≤ 64 := by omega
        obtain ⟨zl, hzl⟩ : ∃ zl, zl = Z.length := ⟨_, rfl⟩
        have iZ := Lib.hid (hI.ext hY.out)
        have Hzl := Lib.hid hzl
        have Hsm := Lib.hid hsm
        have hcZ := wcheck_val (n := m) (by omega) (by omega) hsm (show Val m Z from by rw [HZ.out]; exact wordN_val haO.out.pl)
        have hnZ := fun v c w' (hi : IS .i64 w' v c Z) => NOf2_calls m v c Z w' hi hcZ (show Val m Z from by rw [HZ.out]; exact wordN_val haO.out.pl) m1 (by omega) hsm
        have hAZ := fun v c w' (hi : IS .i64 w' v c Z) => act_any m v c Z w' hi hcZ
        have HnZ := Lib.hid hnZ; have HAZ := Lib.hid hAZ
        clear hnZ hAZ hcZ hI
        rw [← hzl] at f1 f3 iZ ⊢
        clear hzl hsm
        go_wp2_with fail
        refine (HnZ.out _ _ _ iZ.out).mono ?_
        rintro e w11 hr
        obtain ⟨vb, qb, lb, rfl, hx, ho, hq, b1, b2, b3, x⟩ := hr
        obtain ⟨pb, mb, rfl, hx⟩ := hx.v
        have hbN := Lib.hid hx; have hbO := Lib.hid ho; have hbQ := Lib.hid hq
        have hbL : Hid (True) := Lib.hid (by trivial)
        clear hx ho hq b1 b2 b3
        have xx : Ext w10 w11 := Ext.trans (Ext.refl w10) x
        replace hX := Lib.hid (Ext.trans hX.out xx)
        replace hT := Lib.hid (hT.out.ext xx)
        replace iW := Lib.hid (iW.out.ext xx)
        replace haN := Lib.hid (haN.out.ext xx)
        replace haB := Lib.hid (show B3 w11 (w3.heap.size) (.int .i64 (m : Int)) (.int .i64 qa) (.slice pa k k) 30 from Ext.block xx haB.out)
        replace iP := Lib.hid (iP.out.ext xx)
        replace hY := Lib.hid (Ext.trans hY.out xx)
        replace iZ := Lib.hid (iZ.out.ext xx)
        clear xx x
        go_wp2_with fail
        refine (HAW.out _ _ _ (iW.out.ext ((Ext.refl w11).alloc (.cells #[.int .i64 (m : Int), .int .i64 qb, .slice pb mb mb] 30)))).mono ?_
        rintro e w12 ⟨vC, rfl, hC, x⟩
        have hbB := Lib.hid (show B3 w12 (w11.heap.size) (.int .i64 (m : Int)) (.int .i64 qb) (.slice pb mb mb) 30 from Ext.block x (show B3 (w11.alloc (.cells #[.int .i64 (m : Int), .int .i64 qb, .slice pb mb mb] 30)) (w11.heap.size) (.int .i64 (m : Int)) (.int .i64 qb) (.slice pb mb mb) 30 from B3.new _ _ _ _ _))
        have xx : Ext w11 w12 := Ext.trans ((Ext.refl w11).alloc (.cells #[.int .i64 (m : Int), .int .i64 qb, .slice pb mb mb] 30)) x
        replace hX := Lib.hid (Ext.trans hX.out xx)
        replace hT := Lib.hid (hT.out.ext xx)
        replace iW := Lib.hid (iW.out.ext xx)
        replace haN := Lib.hid (haN.out.ext xx)
        replace haB := Lib.hid (show B3 w12 (w3.heap.size) (.int .i64 (m : Int)) (.int .i64 qa) (.slice pa k k) 30 from Ext.block xx haB.out)
        replace iP := Lib.hid (iP.out.ext xx)
        replace hY := Lib.hid (Ext.trans hY.out xx)
        replace iZ := Lib.hid (iZ.out.ext xx)
        replace hbN := Lib.hid (hbN.out.ext xx)
        clear xx x
        have iC := Lib.hid hC.iss
        clear hC
        go_wp2_with fail
        refine (HAZ.out _ _ _ iZ.out).mono ?_
        rintro e w13 ⟨vD, kD, rfl, x, hD⟩
        have xx : Ext w12 w13 := Ext.trans (Ext.refl w12) x
        replace hX := Lib.hid (Ext.trans hX.out xx)
        replace hT := Lib.hid (hT.out.ext xx)
        replace iW := Lib.hid (iW.out.ext xx)
        replace haN := Lib.hid (haN.out.ext xx)
        replace haB := Lib.hid (show B3 w13 (w3.heap.size) (.int .i64 (m : Int)) (.int .i64 qa) (.slice pa k k) 30 from Ext.block xx haB.out)
        replace iP := Lib.hid (iP.out.ext xx)
        replace hY := Lib.hid (Ext.trans hY.out xx)
        replace iZ := Lib.hid (iZ.out.ext xx)
        replace hbN := Lib.hid (hbN.out.ext xx)
        replace hbB := Lib.hid (show B3 w13 (w11.heap.size) (.int .i64 (m : Int)) (.int .i64 qb) (.slice pb mb mb) 30 from Ext.block xx hbB.out)
        replace iC := Lib.hid (iC.out.ext xx)
        clear xx x
        have HDk := Lib.hid hD
        clear hD
        have hQb := hbQ.out
        rw [HZ.out] at hQb
        have hE := HLf.out _ _ _ _ haQ.out hQb haO.out hbO.out
        have hSame : ∀ W, Ext w13 W → Calls Tryd.prog 12 #[.agg #[.int .i64 (m : Int), .int .i64 qa, .slice pa k k], .agg #[.int .i64 (m : Int), .int .i64 qb, .slice pb mb mb]] W fun e w' => e = .returned (.bool true) ∧ Ext W w' := fun W x => by
          have := NSame_calls _ _ m m qa qb la lb W (haN.out.ext x).ns (hbN.out.ext x).ns (haO.out.pl.byt haO.out.n8) (hbO.out.pl.byt hbO.out.n8)
          rwa [show nsame (m : Int) m qa qb la lb = true from decide_eq_true ⟨rfl, hE.1, hE.2⟩] at this
        have hLa := HLa.out qa la haQ.out haO.out
        rw [← HZ.out] at hLa
        have hLv : ∀ W, Ext w13 W → Calls Tryd.prog 13 #[] W fun e w' => e = .returned (.bool true) ∧ Ext W w' := fun W x => Lives_calls W (hT.out.ext x)
        have HSame := Lib.hid hSame; have HLv := Lib.hid hLv; have HLa2 := Lib.hid hLa
        clear hSame hLv hLa hE hQb
        rcases HDk.out with rfl | ⟨rfl, hDr⟩
        · have ca0_0 := B3.c0 haB.out
          have ca1_0 := B3.c1 haB.out
          have ca2_0 := B3.c2 haB.out
          have cb0_0 := B3.c0 hbB.out
          have cb1_0 := B3.c1 hbB.out
          have cb2_0 := B3.c2 hbB.out
          go_wp2_with fail
          refine (HSame.out _ (Ext.refl _)).mono ?_
          rintro e w14 ⟨rfl, x⟩
          have Y14 := Lib.hid x
          have xx : Ext w13 w14 := Ext.trans (Ext.refl w13) x
          replace hX := Lib.hid (Ext.trans hX.out xx)
          replace hT := Lib.hid (hT.out.ext xx)
          replace iW := Lib.hid (iW.out.ext xx)
          replace haN := Lib.hid (haN.out.ext xx)
          replace haB := Lib.hid (show B3 w14 (w3.heap.size) (.int .i64 (m : Int)) (.int .i64 qa) (.slice pa k k) 30 from Ext.block xx haB.out)
          replace iP := Lib.hid (iP.out.ext xx)
          replace hY := Lib.hid (Ext.trans hY.out xx)
          replace iZ := Lib.hid (iZ.out.ext xx)
          replace hbN := Lib.hid (hbN.out.ext xx)
          replace hbB := Lib.hid (show B3 w14 (w11.heap.size) (.int .i64 (m : Int)) (.int .i64 qb) (.slice pb mb mb) 30 from Ext.block xx hbB.out)
          replace iC := Lib.hid (iC.out.ext xx)
          clear xx x
          clear ca0_0 ca1_0 ca2_0 cb0_0 cb1_0 cb2_0
          go_wp2_with fail
          refine (HLv.out _ Y14.out).mono ?_
          rintro e w16 ⟨rfl, x⟩
          have xx : Ext w14 w16 := Ext.trans (Ext.refl w14) x
          replace hX := Lib.hid (Ext.trans hX.out xx)
          replace hT := Lib.hid (hT.out.ext xx)
          replace iW := Lib.hid (iW.out.ext xx)
          replace haN := Lib.hid (haN.out.ext xx)
          replace haB := Lib.hid (show B3 w16 (w3.heap.size) (.int .i64 (m : Int)) (.int .i64 qa) (.slice pa k k) 30 from Ext.block xx haB.out)
          replace iP := Lib.hid (iP.out.ext xx)
          replace hY := Lib.hid (Ext.trans hY.out xx)
          replace iZ := Lib.hid (iZ.out.ext xx)
          replace hbN := Lib.hid (hbN.out.ext xx)
          replace hbB := Lib.hid (show B3 w16 (w11.heap.size) (.int .i64 (m : Int)) (.int .i64 qb) (.slice pb mb mb) 30 from Ext.block xx hbB.out)
          replace iC := Lib.hid (iC.out.ext xx)
          replace Y14 := Lib.hid (Ext.trans Y14.out xx)
          clear xx x
          go_wp2
          go_ret
          exact ⟨rfl, hX.out⟩
        · have iD := Lib.hid hDr.iss
          have hAl : ∀ W, Ext w13 W → Calls Tryd.prog 16 #[vC, vD] W fun e w' => e = .returned (.bool true) ∧ Ext W w' := fun W x => by have := Alike_calls _ _ _ _ _ _ W (iC.out.ext x) (iD.out.ext x); rwa [HLa2.out] at this
          have HAl := Lib.hid hAl
          clear hAl hDr
          have ca0_0 := B3.c0 haB.out
          have ca1_0 := B3.c1 haB.out
          have ca2_0 := B3.c2 haB.out
          have cb0_0 := B3.c0 hbB.out
          have cb1_0 := B3.c1 hbB.out
          have cb2_0 := B3.c2 hbB.out
          go_wp2_with fail
          refine (HSame.out _ (Ext.refl _)).mono ?_
          rintro e w14 ⟨rfl, x⟩
          have Y14 := Lib.hid x
          have xx : Ext w13 w14 := Ext.trans (Ext.refl w13) x
          replace hX := Lib.hid (Ext.trans hX.out xx)
          replace hT := Lib.hid (hT.out.ext xx)
          replace iW := Lib.hid (iW.out.ext xx)
          replace haN := Lib.hid (haN.out.ext xx)
          replace haB := Lib.hid (show B3 w14 (w3.heap.size) (.int .i64 (m : Int)) (.int .i64 qa) (.slice pa k k) 30 from Ext.block xx haB.out)
          replace iP := Lib.hid (iP.out.ext xx)
          replace hY := Lib.hid (Ext.trans hY.out xx)
          replace iZ := Lib.hid (iZ.out.ext xx)
          replace hbN := Lib.hid (hbN.out.ext xx)
          replace hbB := Lib.hid (show B3 w14 (w11.heap.size) (.int .i64 (m : Int)) (.int .i64 qb) (.slice pb mb mb) 30 from Ext.block xx hbB.out)
          replace iC := Lib.hid (iC.out.ext xx)
          clear xx x
          clear ca0_0 ca1_0 ca2_0 cb0_0 cb1_0 cb2_0
          go_wp2_with fail
          refine (HAl.out _ Y14.out).mono ?_
          rintro e w15 ⟨rfl, x⟩
          have xx : Ext w14 w15 := Ext.trans (Ext.refl w14) x
          replace hX := Lib.hid (Ext.trans hX.out xx)
          replace hT := Lib.hid (hT.out.ext xx)
          replace iW := Lib.hid (iW.out.ext xx)
          replace haN := Lib.hid (haN.out.ext xx)
          replace haB := Lib.hid (show B3 w15 (w3.heap.size) (.int .i64 (m : Int)) (.int .i64 qa) (.slice pa k k) 30 from Ext.block xx haB.out)
          replace iP := Lib.hid (iP.out.ext xx)
          replace hY := Lib.hid (Ext.trans hY.out xx)
          replace iZ := Lib.hid (iZ.out.ext xx)
          replace hbN := Lib.hid (hbN.out.ext xx)
          replace hbB := Lib.hid (show B3 w15 (w11.heap.size) (.int .i64 (m : Int)) (.int .i64 qb) (.slice pb mb mb) 30 from Ext.block xx hbB.out)
          replace iC := Lib.hid (iC.out.ext xx)
          replace Y14 := Lib.hid (Ext.trans Y14.out xx)
          clear xx x
          go_wp2_with fail
          refine (HLv.out _ Y14.out).mono ?_
          rintro e w16 ⟨rfl, x⟩
          have xx : Ext w15 w16 := Ext.trans (Ext.refl w15) x
          replace hX := Lib.hid (Ext.trans hX.out xx)
          replace hT := Lib.hid (hT.out.ext xx)
          replace iW := Lib.hid (iW.out.ext xx)
          replace haN := Lib.hid (haN.out.ext xx)
          replace haB := Lib.hid (show B3 w16 (w3.heap.size) (.int .i64 (m : Int)) (.int .i64 qa) (.slice pa k k) 30 from Ext.block xx haB.out)
          replace iP := Lib.hid (iP.out.ext xx)
          replace hY := Lib.hid (Ext.trans hY.out xx)
          replace iZ := Lib.hid (iZ.out.ext xx)
          replace hbN := Lib.hid (hbN.out.ext xx)
          replace hbB := Lib.hid (show B3 w16 (w11.heap.size) (.int .i64 (m : Int)) (.int .i64 qb) (.slice pb mb mb) 30 from Ext.block xx hbB.out)
          replace iC := Lib.hid (iC.out.ext xx)
          replace Y14 := Lib.hid (Ext.trans Y14.out xx)
          clear xx x
          go_wp2
          go_ret
          exact ⟨rfl, hX.out⟩
end Go.Proofs.YtigffblelngpjaaDoor
