/- Texts of this claim in one file: libraries and walks. -/
import Derived.Test.YtlhkehfplcclgaaDoorL8
/- Cross: the walk. -/
namespace Go.Proofs.YtlhkehfplcclgaaDoor
set_option linter.unusedVariables false
set_option linter.unusedSimpArgs false
set_option maxRecDepth 8000
open Go Go.RowKit

/-- A fabric (none with an error), and an error. -/
def RetCr (w : World) (e : Int) (f : Fab) (en : Ending) (w' : World) : Prop :=
  ∃ tv cv hv fv, en = .returned (.tuple #[.agg #[tv, cv, hv, fv], .int .i64 e]) ∧ Ext w w' ∧ (e = 0 → FB w' tv cv hv fv f ∧ XL w' cv f.cr.length f.cr) ∧ (e ≠ 0 → tv = .slice none 0 0 ∧ cv = .slice none 0 0 ∧ hv = .slice none 0 0 ∧ fv = .slice none 0 0)
theorem RetCr.bad {w w' : World} {e : Int} {f : Fab} (h : e ≠ 0) (x : Ext w w') : RetCr w e f (.returned (.tuple #[.agg #[.slice none 0 0, .slice none 0 0, .slice none 0 0, .slice none 0 0], .int .i64 e])) w' := ⟨_, _, _, _, rfl, x, fun k => absurd k h, fun _ => ⟨rfl, rfl, rfl, rfl⟩⟩
theorem RetCr.open {w w' : World} {e : Int} {f : Fab} {en : Ending} (h : RetCr w e f en w') : ∃ a1 n1 c1 a2 n2 c2 a3 n3 c3 a4 n4 c4, en = .returned (.tuple #[.agg #[.slice a1 n1 c1, .slice a2 n2 c2, .slice a3 n3 c3, .slice a4 n4 c4], .int .i64 e]) ∧ Ext w w' ∧ (e = 0 → FB w' (.slice a1 n1 c1) (.slice a2 n2 c2) (.slice a3 n3 c3) (.slice a4 n4 c4) f ∧ n2 = f.cr.length ∧ c2 = n2 ∧ XL w' (.slice a2 n2 c2) c2 f.cr) ∧ (e ≠ 0 → n1 = 0) := by
  obtain ⟨tv, cv, hv, fv, he, x, h0, h1⟩ := h
  by_cases e0 : e = 0
  · obtain ⟨hF, hX⟩ := h0 e0
    obtain ⟨ct, hT⟩ := hF.t
    obtain ⟨a1, n1, rfl, o1, _⟩ := hT.open
    obtain ⟨ch, hH⟩ := hF.h
    obtain ⟨a3, n3, rfl, o3, _⟩ := hH.open
    obtain ⟨cf, hf⟩ := hF.f
    obtain ⟨a4, n4, rfl, o4, _⟩ := hf.open
    obtain ⟨a2, n2, rfl, o2, _⟩ := hX.open
    exact ⟨a1, n1, ct, a2, n2, f.cr.length, a3, n3, ch, a4, n4, cf, he, x, fun _ => ⟨hF, o2, o2.symm, hX⟩, fun k => absurd e0 k⟩
  · obtain ⟨rfl, rfl, rfl, rfl⟩ := h1 e0
    exact ⟨none, 0, 0, none, 0, 0, none, 0, 0, none, 0, 0, he, x, fun k => absurd k e0, fun _ => rfl⟩
set_option maxHeartbeats 16000000 in
theorem Cross_calls (tv cv hv fv : Value) (f : Fab) (a b : Nm) (s : Int) (w : World) (h : FB w tv cv hv fv f) (hin : FIn f) (hk : f.ys.length = 6 → OKT f.ys) (ha : a.In) (hb : b.In) (hs : -9223372036854775808 ≤ s ∧ s ≤ 9223372036854775807) :
    Calls Tryd.prog 16 #[.agg #[tv, cv, hv, fv], a.val, b.val, .int .i64 s] w (RetCr w (crossE f a b s) (crossF f a b s)) := by
  have HCk := Lib.hid (fun w' (x : Ext w w') => Check_calls tv cv hv fv f w' (h.ext x) hin hk)
  have HCp := Lib.hid (fun w' (x : Ext w w') => CopyF_calls tv cv hv fv f w' (h.ext x) hin)
  obtain ⟨ct, hT⟩ := h.t
  have HHas := Lib.hid (fun w' a (x : Ext w w') (ha : Nm.In a) => Has_calls tv ct f.ys a w' (hT.ext x) ha)
  obtain ⟨ta, tn, rfl, o1, _, _, _⟩ := hT.open
  obtain ⟨cc, hC⟩ := h.c
  have HBS := Lib.hid (fun w' x (x' : Ext w w') (hs : SrtX f.cr) => BSearch_calls cv cc f.cr x w' (hC.ext x') hs (by have := hin.n3; omega))
  obtain ⟨ca, cn, rfl, o2, hcc, hc9, hcat⟩ := hC.open
  obtain ⟨ch, hH⟩ := h.h
  obtain ⟨hha, hn, rfl, o3, _, _, _⟩ := hH.open
  obtain ⟨cf, hF⟩ := h.f
  obtain ⟨fa, fn, rfl, o4, _, _, _⟩ := hF.open
  obtain ⟨W, hW⟩ : ∃ W, W = (((w.alloc (.cells #[.slice ta tn ct, .slice ca cn cc, .slice hha hn ch, .slice fa fn cf] 35)).alloc (.cells #[.int .u8 a.y, .int .i64 a.n] 41)).alloc (.cells #[.int .u8 b.y, .int .i64 b.n] 41)).alloc (.cells #[.slice none 0 0, .slice none 0 0, .slice none 0 0, .slice none 0 0] 35) := ⟨_, rfl⟩
  have xW : Ext w W := by rw [hW]; exact ((((Ext.refl _).alloc _).alloc _).alloc _).alloc _
  have HB := Lib.hid (show B4 W w.heap.size (.slice ta tn ct) (.slice ca cn cc) (.slice hha hn ch) (.slice fa fn cf) 35 by rw [hW]; exact (B4.new _ _ _ _ _ _).ext ((((Ext.refl _).alloc _).alloc _).alloc _))
  have HA := Lib.hid (show BN W (w.heap.size + 1) a by rw [hW]; have := (BN.new (w.alloc (.cells #[.slice ta tn ct, .slice ca cn cc, .slice hha hn ch, .slice fa fn cf] 35)) a).ext (((Ext.refl _).alloc (.cells #[.int .u8 b.y, .int .i64 b.n] 41)).alloc (.cells #[.slice none 0 0, .slice none 0 0, .slice none 0 0, .slice none 0 0] 35)); simpa using this)
  have HBb := Lib.hid (show BN W (w.heap.size + 1 + 1) b by rw [hW]; have := (BN.new ((w.alloc (.cells #[.slice ta tn ct, .slice ca cn cc, .slice hha hn ch, .slice fa fn cf] 35)).alloc (.cells #[.int .u8 a.y, .int .i64 a.n] 41)) b).ext ((Ext.refl _).alloc (.cells #[.slice none 0 0, .slice none 0 0, .slice none 0 0, .slice none 0 0] 35)); simpa using this)
  have HRb := Lib.hid (show B4 W (w.heap.size + 1 + 1 + 1) (.slice none 0 0) (.slice none 0 0) (.slice none 0 0) (.slice none 0 0) 35 by rw [hW]; have := B4.new (((w.alloc (.cells #[.slice ta tn ct, .slice ca cn cc, .slice hha hn ch, .slice fa fn cf] 35)).alloc (.cells #[.int .u8 a.y, .int .i64 a.n] 41)).alloc (.cells #[.int .u8 b.y, .int .i64 b.n] 41)) (.slice none 0 0) (.slice none 0 0) (.slice none 0 0) (.slice none 0 0) 35; simpa using this)
  obtain ⟨R, hR⟩ : ∃ R, R = crossE f a b s := ⟨_, rfl⟩
  obtain ⟨G, hG⟩ : ∃ G, G = crossF f a b s := ⟨_, rfl⟩
  rw [← hR, ← hG]
  have HR := Lib.hid hR; have HG := Lib.hid hG
  have HIn := Lib.hid (And.intro hin (And.intro ha hb))
  have HC := Lib.hid hC
  have Hcat := Lib.hid (And.intro o2 hcat)
  have XW := Lib.hid xW; have HW := Lib.hid hW
  have cn9 : cn ≤ 1000 := by have := hin.n3; omega
  clear hW xW hR hG h hin hk ha hb hT hC hH hF o1 o2 o3 o4 hcat
  unfold Nm.val
  go_enter Tryd.func16, Tryd.ntmps16
  go_wp2_with fail
  rw [← HW.out]
  refine (HCk.out W XW.out).mono ?_
  rintro e w1 ⟨rfl, x1⟩
  have X1 := Lib.hid (XW.out.trans x1)
  have Y1 := Lib.hid x1
  clear x1
  obtain ⟨E, hE⟩ : ∃ E, E = fchk f := ⟨_, rfl⟩
  rw [← hE]
  have HE := Lib.hid hE
  clear hE
  have zr := HRb.out.ext Y1.out
  have p0 := zr.c0; have p1 := zr.c1; have p2 := zr.c2; have p3 := zr.c3; have pf := zr.fr; have pl := zr.lt
  clear zr
  by_cases hE0 : E = 0
  case neg =>
    have q1 : (E != 0) = true := by rw [bne, beq_eq_false_iff_ne.2 hE0]; rfl
    have HRv := Lib.hid (show R = E by rw [HR.out, HE.out]; unfold crossE; rw [if_neg (by rw [← HE.out]; exact hE0)])
    have XF := Lib.hid (X1.out.set4 (b := w.heap.size + 1 + 1 + 1) (by omega) (.slice none 0 0) (.slice none 0 0) (.slice none 0 0) (.slice none 0 0))
    have BF := (HRb.out.ext Y1.out).put4 (.slice none 0 0) (.slice none 0 0) (.slice none 0 0) (.slice none 0 0)
    have c0 := BF.c0; have c1 := BF.c1; have c2 := BF.c2; have c3 := BF.c3
    have HE0 := Lib.hid hE0
    clear BF hE0
    go_wp2
    exact bodyPost_ret (v := .tuple #[.agg #[.slice none 0 0, .slice none 0 0, .slice none 0 0, .slice none 0 0], .int .i64 E]) (by simp [results, Tryd.results16, go_sem, c0, c1, c2, c3]) rfl (by rw [HRv.out]; exact RetCr.bad HE0.out XF.out)
  have q1 : (E != 0) = false := by rw [hE0]; rfl
  have HE0 := Lib.hid (show fchk f = 0 by rw [← HE.out]; exact hE0)
  clear hE0 HE
  obtain ⟨a0, a1⟩ := (HA.out.ext Y1.out).at
  obtain ⟨b0, b1⟩ := (HBb.out.ext Y1.out).at
  simp only [Nat.zero_add] at a1 b1
  obtain ⟨BAD, hBAD⟩ : ∃ BAD : Bool, BAD = decide (¬ ((s = 1 ∨ s = -1) ∧ a ≠ b)) := ⟨_, rfl⟩
  have HBAD := Lib.hid hBAD
  have fb0 := (HB.out.ext Y1.out).c0
  go_upto_region 4 with fail
  go_cut [33] from 23 to 33 (fun x wx => x = .bool BAD ∧ w1 = wx)
  case first =>
    by_cases hab : a = b
    · subst hab
      have hv : BAD = true := by rw [hBAD]; exact decide_eq_true (fun h => h.2 rfl)
      clear hBAD
      subst hv
      by_cases h1 : s = 1
      · subst h1
        go_wp2_with fail
        go_meet
        case rel => exact ⟨rfl, rfl⟩
      · have t1 : (s != 1) = true := by rw [bne, beq_eq_false_iff_ne.2 h1]; rfl
        by_cases h2 : s = -1
        · subst h2
          go_wp2_with fail
          go_meet
          case rel => exact ⟨rfl, rfl⟩
        · have t2 : (s != -1) = true := by rw [bne, beq_eq_false_iff_ne.2 h2]; rfl
          go_wp2_with fail
          go_meet
          case rel => exact ⟨rfl, rfl⟩
    · by_cases h1 : s = 1 ∨ s = -1
      · have hv : BAD = false := by rw [hBAD]; exact decide_eq_false (fun h => h ⟨h1, hab⟩)
        clear hBAD
        subst hv
        obtain ⟨ay, an⟩ := a
        obtain ⟨by', bn⟩ := b
        dsimp only at a0 a1 b0 b1 ⊢
        by_cases hy : ay = by'
        · subst hy
          have hn : ¬ an = bn := fun e => hab (by rw [e])
          clear hab
          rcases h1 with rfl | rfl
          · go_wp2_with fail
            go_meet
            case rel => exact ⟨by simp, rfl⟩
          · go_wp2_with fail
            go_meet
            case rel => exact ⟨by simp, rfl⟩
        · clear hab
          rcases h1 with rfl | rfl
          · go_wp2_with fail
            go_meet
            case rel => exact ⟨by simp, rfl⟩
          · go_wp2_with fail
            go_meet
            case rel => exact ⟨by simp, rfl⟩
      · have hv : BAD = true := by rw [hBAD]; exact decide_eq_true (fun h => h1 h.1)
        clear hBAD
        subst hv
        have t1 : (s != 1) = true := by rw [bne, beq_eq_false_iff_ne.2 (by omega)]; rfl
        have t2 : (s != -1) = true := by rw [bne, beq_eq_false_iff_ne.2 (by omega)]; rfl
        clear h1 hab
        go_wp2_with fail
        go_meet
        case rel => exact ⟨rfl, rfl⟩
  case rest =>
    obtain ⟨rfl, rfl⟩ := hcut
    clear a0 a1 b0 b1 hBAD
    cases hBd : BAD with
    | true =>
      have HRv := Lib.hid (show R = 1 by rw [HR.out]; unfold crossE; rw [if_pos HE0.out, if_neg (of_decide_eq_true (by rw [← HBAD.out]; exact hBd))])
      clear hBd
      have XF := Lib.hid (X1.out.set4 (b := w.heap.size + 1 + 1 + 1) (by omega) (.slice none 0 0) (.slice none 0 0) (.slice none 0 0) (.slice none 0 0))
      have BF := (HRb.out.ext Y1.out).put4 (.slice none 0 0) (.slice none 0 0) (.slice none 0 0) (.slice none 0 0)
      have c0 := BF.c0; have c1 := BF.c1; have c2 := BF.c2; have c3 := BF.c3
      clear BF
      go_wp2
      exact bodyPost_ret (v := .tuple #[.agg #[.slice none 0 0, .slice none 0 0, .slice none 0 0, .slice none 0 0], .int .i64 1]) (by simp [results, Tryd.results16, go_sem, c0, c1, c2, c3]) rfl (by rw [HRv.out]; exact RetCr.bad (by decide) XF.out)
    | false =>
    have HGd := Lib.hid (show (s = 1 ∨ s = -1) ∧ a ≠ b from Classical.not_not.1 (of_decide_eq_false (by rw [← HBAD.out]; exact hBd)))
    clear hBd
    have HR2 := Lib.hid (show R = if hasB f.ys a = true ∧ hasB f.ys b = true then
        if -1048576 ≤ s + lnk f.cr (pairX a b).a (pairX a b).b ∧ s + lnk f.cr (pairX a b).a (pairX a b).b ≤ 1048576 then 0 else 3 else 7 by rw [HR.out]; unfold crossE; rw [if_pos HE0.out, if_pos HGd.out])
    have HE' : ∀ w', Ext w1 w' → RetCr w 7 G (.returned (.tuple #[.agg #[.slice none 0 0, .slice none 0 0, .slice none 0 0, .slice none 0 0], .int .i64 7])) ((((w'.setCell ⟨w.heap.size + 1 + 1 + 1, 0, none⟩ (.slice none 0 0)).setCell ⟨w.heap.size + 1 + 1 + 1, 1, none⟩ (.slice none 0 0)).setCell ⟨w.heap.size + 1 + 1 + 1, 2, none⟩ (.slice none 0 0)).setCell ⟨w.heap.size + 1 + 1 + 1, 3, none⟩ (.slice none 0 0)) := fun w' x => RetCr.bad (by decide) ((X1.out.trans x).set4 (by omega) _ _ _ _)
    have HE7 := Lib.hid HE'
    clear HE'
    obtain ⟨a0, a1⟩ := (HA.out.ext Y1.out).at
    simp only [Nat.zero_add] at a1
    go_wp2_with fail
    clear a0 a1 p0 p1 p2 p3 pf pl fb0
    refine (HHas.out w1 a X1.out HIn.out.2.1).mono ?_
    rintro e w2 ⟨rfl, x2⟩
    have X2 := Lib.hid (X1.out.trans x2)
    have Y2 := Lib.hid (Y1.out.trans x2)
    have Z2 := Lib.hid x2
    clear x2
    have zr := HRb.out.ext Y2.out
    have p0 := zr.c0; have p1 := zr.c1; have p2 := zr.c2; have p3 := zr.c3; have pf := zr.fr; have pl := zr.lt
    have BF := zr.put4 (.slice none 0 0) (.slice none 0 0) (.slice none 0 0) (.slice none 0 0)
    clear zr
    rcases hha' : hasB f.ys a with _ | _
    · have HRv := Lib.hid (show R = 7 by rw [HR2.out, if_neg (by rw [hha']; exact fun h => by cases h.1)])
      have c0 := BF.c0; have c1 := BF.c1; have c2 := BF.c2; have c3 := BF.c3
      clear BF hha'
      go_wp2
      exact bodyPost_ret (v := .tuple #[.agg #[.slice none 0 0, .slice none 0 0, .slice none 0 0, .slice none 0 0], .int .i64 7]) (by simp [results, Tryd.results16, go_sem, c0, c1, c2, c3]) rfl (by rw [HRv.out]; exact HE7.out _ Z2.out)
    have Hha := Lib.hid hha'
    clear hha' BF
    have fb0 := (HB.out.ext Y2.out).c0
    obtain ⟨b0, b1⟩ := (HBb.out.ext Y2.out).at
    simp only [Nat.zero_add] at b1
    go_wp2_with fail
    clear b0 b1 p0 p1 p2 p3 pf pl fb0
    refine (HHas.out w2 b X2.out HIn.out.2.2).mono ?_
    rintro e w3 ⟨rfl, x3⟩
    have X3 := Lib.hid (X2.out.trans x3)
    have Y3 := Lib.hid (Y2.out.trans x3)
    have Z3 := Lib.hid (Z2.out.trans x3)
    clear x3
    have zr := HRb.out.ext Y3.out
    have p0 := zr.c0; have p1 := zr.c1; have p2 := zr.c2; have p3 := zr.c3; have pf := zr.fr; have pl := zr.lt
    have BF := zr.put4 (.slice none 0 0) (.slice none 0 0) (.slice none 0 0) (.slice none 0 0)
    clear zr
    rcases hhb' : hasB f.ys b with _ | _
    · have HRv := Lib.hid (show R = 7 by rw [HR2.out, if_neg (by rw [hhb']; exact fun h => by cases h.2)])
      have c0 := BF.c0; have c1 := BF.c1; have c2 := BF.c2; have c3 := BF.c3
      clear BF hhb'
      go_wp2
      exact bodyPost_ret (v := .tuple #[.agg #[.slice none 0 0, .slice none 0 0, .slice none 0 0, .slice none 0 0], .int .i64 7]) (by simp [results, Tryd.results16, go_sem, c0, c1, c2, c3]) rfl (by rw [HRv.out]; exact HE7.out _ Z3.out)
    have HR3 := Lib.hid (show R = if -1048576 ≤ s + lnk f.cr (pairX a b).a (pairX a b).b ∧ s + lnk f.cr (pairX a b).a (pairX a b).b ≤ 1048576 then 0 else 3 by rw [HR2.out, if_pos ⟨Hha.out, hhb'⟩])
    clear hhb' BF HR2 HE7 Hha
    obtain ⟨a0, a1⟩ := (HA.out.ext Y3.out).at
    obtain ⟨b0, b1⟩ := (HBb.out.ext Y3.out).at
    simp only [Nat.zero_add] at a1 b1
    go_wp2_with fail
    clear a0 a1 b0 b1 p0 p1 p2 p3 pf pl
    refine (Pair_calls a b w3).mono ?_
    rintro e w4 ⟨rfl, x4⟩
    have X4 := Lib.hid (X3.out.trans x4)
    have Y4 := Lib.hid (Y3.out.trans x4)
    clear x4
    obtain ⟨P, hP⟩ : ∃ P, P = pairX a b := ⟨_, rfl⟩
    have hP0 : P.n = 0 := by rw [hP]; unfold pairX; split <;> rfl
    rw [← hP] at HR3 ⊢
    have HP := Lib.hid (And.intro hP hP0)
    obtain ⟨Pa, Pb, Pn⟩ := P
    dsimp only at hP0
    subst hP0
    unfold Xg.val
    dsimp only at HR3 ⊢
    clear hP
    obtain ⟨W5, hW5⟩ : ∃ W5, W5 = w4.alloc (.cells #[.int .u8 Pa.y, .int .i64 Pa.n, .int .u8 Pb.y, .int .i64 Pb.n, .int .i64 0] 52) := ⟨_, rfl⟩
    obtain ⟨pb, hpb⟩ : ∃ pb, pb = w4.heap.size := ⟨_, rfl⟩
    have z5 : Ext w4 W5 := by rw [hW5]; exact (Ext.refl _).alloc _
    have X5 := Lib.hid (X4.out.trans z5)
    have Y5 := Lib.hid (Y4.out.trans z5)
    have HPb := Lib.hid (show B5 W5 pb ⟨Pa, Pb, 0⟩ 52 by rw [hW5, hpb]; exact B5.new w4 ⟨Pa, Pb, 0⟩ _)
    have hpw : w.heap.size + 1 + 1 + 1 < pb := by have h1 := (HRb.out.ext Y4.out).lt; omega
    have fb1 := cell_alloc (HB.out.ext Y4.out).c1 (.cells #[.int .u8 Pa.y, .int .i64 Pa.n, .int .u8 Pb.y, .int .i64 Pb.n, .int .i64 0] 52)
    have fl1 : w.heap.size < w4.heap.size := by omega
    have HW5 := Lib.hid hW5; have Hpb := Lib.hid hpb
    have HSr := Lib.hid (show SrtX f.cr ∧ ∀ i, i < cn → -1048576 ≤ (xi f.cr i).n ∧ (xi f.cr i).n ≤ 1048576 from by
      have h1 : cchk f.ys f.cr = 0 := by
        have h2 := HE0.out
        unfold fchk at h2
        by_cases h3 : lchk f.ys = 0
        · rw [if_pos h3] at h2
          by_cases h4 : cchk f.ys f.cr = 0
          · exact h4
          · rw [if_neg h4] at h2; exact h2
        · rw [if_neg h3] at h2; exact absurd h2 h3
      have h2 := cchk_srt h1
      exact ⟨h2.1, fun i hi => ⟨(h2.2 i (by have := Hcat.out.1; omega)).2.1, (h2.2 i (by have := Hcat.out.1; omega)).2.2.1⟩⟩)
    clear hW5 hpb z5
    go_wp2_with fail
    clear fb1 fl1
    rw [← HW5.out, ← Hpb.out]
    refine (HBS.out W5 ⟨Pa, Pb, 0⟩ X5.out HSr.out.1).mono ?_
    rintro e w6 ⟨i, rfl, hAt, x6⟩
    have X6 := Lib.hid (X5.out.trans x6)
    have Y6 := Lib.hid (Y5.out.trans x6)
    have V6 := Lib.hid ((show Ext w4 W5 by rw [HW5.out]; exact (Ext.refl _).alloc _).trans x6)
    have HAt := Lib.hid hAt
    have HP6 := Lib.hid (HPb.out.ext x6)
    have hi9 : i ≤ cn := by have := hAt.le; have := Hcat.out.1; omega
    clear x6 hAt
    obtain ⟨K, hK⟩ : ∃ K, K = hitB f.cr ⟨Pa, Pb, 0⟩ i := ⟨_, rfl⟩
    rw [← hK]
    have HK := Lib.hid hK
    clear hK
    obtain ⟨N, hN⟩ : ∃ N, N = s + lnk f.cr Pa Pb := ⟨_, rfl⟩
    have HN := Lib.hid hN
    rw [← hN] at HR3
    clear hN
    obtain ⟨c0, c1, c2, c3, c4⟩ := HP6.out.at
    simp only [Nat.zero_add] at c1 c2 c3 c4
    dsimp only at c0 c1 c2 c3 c4
    have cfz : ∀ o, w6.frozen? ⟨pb, o, none⟩ = false := fun o => by have h := HP6.out; unfold B5 at h; simp [World.frozen?, h]
    obtain ⟨W6, hW6⟩ : ∃ W6, W6 = w6.setCell ⟨pb, 4, none⟩ (.int .i64 s) := ⟨_, rfl⟩
    have hB5 : ∀ v : Int, B5 (w6.setCell ⟨pb, 4, none⟩ (.int .i64 v)) pb ⟨Pa, Pb, v⟩ 52 := fun v => by
      have h := HP6.out
      unfold B5 at h ⊢
      simp [World.setCell, Array.getElem?_modify, h]
    have hs4 : w4.heap.size ≤ pb := by rw [Hpb.out]; exact Nat.le_refl _
    go_upto_if 60 with fail
    rw [← hW6]
    have HB6 := Lib.hid (show B5 W6 pb ⟨Pa, Pb, s⟩ 52 ∧ Ext w4 W6 ∧ ∀ k, k < pb → W6.heap[k]? = w6.heap[k]? from ⟨by rw [hW6]; exact hB5 s, by rw [hW6]; exact Ext.setCell V6.out hs4 _, fun k hk => by rw [hW6]; exact Below.heap_setCell _ _ _ _ (by dsimp only; omega)⟩)
    clear hW6 hB5 c0 c1 c2 c3 c4 cfz
    have HPb0 := HP
    go_cut [13] from 51 to 106 (fun x wx => x = .bool K ∧ Hid (B5 wx pb ⟨Pa, Pb, N⟩ 52 ∧ Ext w4 wx))
    case first =>
      cases hKb : K with
      | true =>
        have hit : hitB f.cr ⟨Pa, Pb, 0⟩ i = true := by rw [← HK.out]; exact hKb
        have hin2 : i < cn := by
          have h := hit
          unfold hitB at h
          simp only [Bool.and_eq_true, decide_eq_true_eq] at h
          have := Hcat.out.1; omega
        have hl := lnk_hit HAt.out hit
        dsimp only at hl
        obtain ⟨b', o', hca, hA5⟩ := Hcat.out.2 i hin2
        subst hca
        have hd := HSr.out.2 i hin2
        obtain ⟨m, hm⟩ : ∃ m, m = (xi f.cr i).n := ⟨_, rfl⟩
        have hA4 := hA5.2.2.2.2
        rw [← hm] at hl hA4 hd
        have hNv : N = s + m := by rw [HN.out, hl]
        have hs9 := HGd.out.1
        have t1 : IntKind.i64.wrap (s + m) = N := by rw [hNv]; exact IntWalk.i64_in _ ⟨by omega, by omega⟩
        have cA := (X4.out.trans HB6.out.2.1).cell hA4
        have cB := ((HB.out.ext Y4.out).ext HB6.out.2.1).c1
        have cP := HB6.out.1.at.2.2.2.2
        simp only [Nat.zero_add] at cP
        have e1 : (0 : Int) ≤ i := by omega
        have e2 : (i : Int) < cn := by omega
        have cF : W6.frozen? ⟨pb, 4, none⟩ = false := by have h := HB6.out.1; unfold B5 at h; simp [World.frozen?, h]
        have HF := Lib.hid (show ∀ W' : World, W'.heap = W6.heap → Ext w4 W' → B5 (W'.setCell ⟨pb, 4, none⟩ (.int .i64 N)) pb ⟨Pa, Pb, N⟩ 52 ∧ Ext w4 (W'.setCell ⟨pb, 4, none⟩ (.int .i64 N)) from fun W' hW' hx => ⟨by
          have h := HB6.out.1
          unfold B5 at h ⊢
          rw [← hW'] at h
          simp [World.setCell, Array.getElem?_modify, h], Ext.setCell hx hs4 _⟩)
        have HKb := Lib.hid hKb
        clear hit hl hd hm hA4 hNv hKb hA5 hs9
        go_wp2
        go_region
        go_wp2_with fail
        go_meet
        case rel => exact ⟨by rw [HKb.out], Lib.hid ⟨(HF.out W6 rfl HB6.out.2.1).1, (HF.out W6 rfl HB6.out.2.1).2.drew⟩⟩
      | false =>
        have hit : hitB f.cr ⟨Pa, Pb, 0⟩ i = false := by rw [← HK.out]; exact hKb
        have hl := lnk_none (HAt.out.miss HSr.out.1 hit)
        dsimp only at hl
        have hNv : s = N := by rw [HN.out, hl]; omega
        have HF := Lib.hid (show B5 W6 pb ⟨Pa, Pb, N⟩ 52 ∧ Ext w4 W6 from ⟨by rw [← hNv]; exact HB6.out.1, HB6.out.2.1⟩)
        have HKb := Lib.hid hKb
        clear hit hl hNv hKb
        go_wp2_with fail
        go_meet
        case rel => exact ⟨by rw [HKb.out], HF⟩
    case rest =>
      obtain ⟨rfl, HQ⟩ := hcut
      obtain ⟨wo, hwo⟩ : ∃ wo, wo = wc := ⟨_, rfl⟩
      subst hwo
      have cP := HQ.out.1.at.2.2.2.2
      simp only [Nat.zero_add] at cP
      by_cases hNr : -1048576 ≤ N ∧ N ≤ 1048576
      case neg =>
        have HRv := Lib.hid (show R = 3 by rw [HR3.out, if_neg hNr])
        have zr := (HRb.out.ext Y4.out).ext HQ.out.2
        have p0 := zr.c0; have p1 := zr.c1; have p2 := zr.c2; have p3 := zr.c3; have pf := zr.fr; have pl := zr.lt
        have BF := zr.put4 (.slice none 0 0) (.slice none 0 0) (.slice none 0 0) (.slice none 0 0)
        have c0 := BF.c0; have c1 := BF.c1; have c2 := BF.c2; have c3 := BF.c3
        have HE3 := Lib.hid (show RetCr w 3 G (.returned (.tuple #[.agg #[.slice none 0 0, .slice none 0 0, .slice none 0 0, .slice none 0 0], .int .i64 3])) ((((wo.setCell ⟨w.heap.size + 1 + 1 + 1, 0, none⟩ (.slice none 0 0)).setCell ⟨w.heap.size + 1 + 1 + 1, 1, none⟩ (.slice none 0 0)).setCell ⟨w.heap.size + 1 + 1 + 1, 2, none⟩ (.slice none 0 0)).setCell ⟨w.heap.size + 1 + 1 + 1, 3, none⟩ (.slice none 0 0)) from RetCr.bad (by decide) ((X4.out.trans HQ.out.2).set4 (by omega) _ _ _ _))
        clear zr BF
        by_cases h1 : N < -1048576
        · clear hNr
          go_wp2
          exact bodyPost_ret (v := .tuple #[.agg #[.slice none 0 0, .slice none 0 0, .slice none 0 0, .slice none 0 0], .int .i64 3]) (by simp [results, Tryd.results16, go_sem, c0, c1, c2, c3]) rfl (by rw [HRv.out]; exact HE3.out)
        · have h2 : 1048576 < N := by omega
          clear hNr
          go_wp2
          exact bodyPost_ret (v := .tuple #[.agg #[.slice none 0 0, .slice none 0 0, .slice none 0 0, .slice none 0 0], .int .i64 3]) (by simp [results, Tryd.results16, go_sem, c0, c1, c2, c3]) rfl (by rw [HRv.out]; exact HE3.out)
      have HRv := Lib.hid (show R = 0 by rw [HR3.out, if_pos hNr])
      have n1 : ¬ N < -1048576 := by omega
      have n2 : ¬ 1048576 < N := by omega
      have hin3 : K = true → i + 1 ≤ cn := fun h => by
        have h1 : hitB f.cr ⟨Pa, Pb, 0⟩ i = true := by rw [← HK.out]; exact h
        unfold hitB at h1
        simp only [Bool.and_eq_true, decide_eq_true_eq] at h1
        have := Hcat.out.1; omega
      obtain ⟨bh, hbh⟩ : ∃ bh, bh = if K = true then i + 1 else i := ⟨_, rfl⟩
      have hbh9 : bh ≤ cn := by rw [hbh]; split; exact hin3 (by assumption); exact hi9
      have HNr := Lib.hid hNr
      clear hNr HR3 hin3
      go_upto_if 81 with fail
      go_cut [13, 14] from 51 to 106 (fun x y wx => x = .bool K ∧ y = .int .i64 (bh : Nat) ∧ wo = wx)
      case first =>
        cases hKb : K with
        | true =>
          rw [hKb, if_pos rfl] at hbh
          subst hbh
          have t2 : IntKind.i64.wrap ((i : Int) + 1) = (i : Int) + 1 := IntWalk.i64_in _ ⟨by omega, by omega⟩
          have HKb := Lib.hid hKb
          clear hKb
          go_wp2_with fail
          go_meet
          case rel => exact ⟨by rw [HKb.out], by go_num, rfl⟩
        | false =>
          rw [hKb, if_neg (by decide)] at hbh
          subst hbh
          have HKb := Lib.hid hKb
          clear hKb
          go_wp2_with fail
          go_meet
          case rel => exact ⟨by rw [HKb.out], rfl, rfl⟩
      case rest =>
        obtain ⟨rfl, rfl, rfl⟩ := hcut
        have Hbh := Lib.hid hbh
        clear hbh
        have zb := (HB.out.ext Y4.out).ext HQ.out.2
        have p0 := zb.c0; have p1 := zb.c1; have p2 := zb.c2; have p3 := zb.c3
        go_wp2_with fail
        clear p0 p1 p2 p3 zb
        refine (HCp.out wo (X4.out.trans HQ.out.2)).mono ?_
        rintro e w7 ⟨tv', cv', hv', fv', rfl, hFB, x7⟩
        have hFB0 := hFB w7 (Agr.refl _ _)
        obtain ⟨ct', hT'⟩ := hFB0.t
        obtain ⟨ta', tn', rfl, u1, _, _, _⟩ := hT'.open
        obtain ⟨cc', hC'⟩ := hFB0.c
        obtain ⟨ca', cn', rfl, u2, _, _, _⟩ := hC'.open
        obtain ⟨ch', hH'⟩ := hFB0.h
        obtain ⟨ha', hn', rfl, u3, _, _, _⟩ := hH'.open
        obtain ⟨cf', hF'⟩ := hFB0.f
        obtain ⟨fa', fn', rfl, u4, _, _, _⟩ := hF'.open
        have X7 := Lib.hid (HQ.out.2.trans x7)
        have hsz7 := x7.size
        have hszc := HQ.out.1.lt
        have HS7 := Lib.hid (And.intro hszc hsz7)
        have HFB := Lib.hid hFB
        have HP7 := Lib.hid (HQ.out.1.ext x7)
        clear u1 u2 u3 u4 hT' hC' hH' hF' hFB hFB0 x7 cP hsz7 hszc
        obtain ⟨W8, hW8⟩ : ∃ W8, W8 = w7.alloc (.cells #[.slice ta' tn' ct', .slice ca' cn' cc', .slice ha' hn' ch', .slice fa' fn' cf'] 35) := ⟨_, rfl⟩
        obtain ⟨qb, hqb⟩ : ∃ qb, qb = w7.heap.size := ⟨_, rfl⟩
        have z8 : Ext w7 W8 := by rw [hW8]; exact (Ext.refl _).alloc _
        have HQb := Lib.hid (show B4 W8 qb (.slice ta' tn' ct') (.slice ca' cn' cc') (.slice ha' hn' ch') (.slice fa' fn' cf') 35 by rw [hW8, hqb]; exact B4.new _ _ _ _ _ _)
        have X8 := Lib.hid (X7.out.trans z8)
        have Z8 := Lib.hid z8
        have HW8 := Lib.hid hW8; have Hqb := Lib.hid hqb
        have p1 := cell_alloc ((HB.out.ext Y4.out).ext X7.out).c1 (.cells #[.slice ta' tn' ct', .slice ca' cn' cc', .slice ha' hn' ch', .slice fa' fn' cf'] 35)
        have p2 : w.heap.size < w7.heap.size := ((HB.out.ext Y4.out).ext X7.out).lt
        have e1 : (0 : Int) ≤ i := by omega
        have e2 : (i : Int) ≤ cc := by omega
        clear z8 hW8 hqb
        go_upto_region 19 with fail
        rw [← HW8.out, ← Hqb.out]
        have p3 := ((HB.out.ext Y4.out).ext X8.out).c1
        clear p1 p2
        obtain ⟨LT, hLT⟩ : ∃ LT, LT = f.cr.take i := ⟨_, rfl⟩
        have hLTn : LT.length = i := by rw [hLT, List.length_take]; have := Hcat.out.1; omega
        have HLT := Lib.hid (And.intro hLT hLTn)
        clear hLT hLTn
        go_cut [16] from 86 to 106 (fun l wx => Hid ((wx.ownsRow W8.heap.size 52 5 l i (LT.map Xg.cs).flatten) ∧ Ext W8 wx))
        case first =>
          have hpt := CK.ptr HC.out
          rcases hpt.2 with h0 | ⟨h0, b', o', hca⟩
          · have hcn0 : cn = 0 := by omega
            have hi0 : i = 0 := by omega
            have HL0 := Lib.hid (show LT = [] from List.eq_nil_of_length_eq_zero (by rw [HLT.out.2]; exact hi0))
            clear hpt
            subst h0
            subst hcn0
            subst hi0
            go_wp2_with (at_builtin; refine app_k ekX rfl _ _ rfl W8.heap.size _ 0 [] rfl (own_none _ _ _ _) _ 0 [] rfl (CK.nil' _ _ _) (fun x hx => by cases hx) ?c0_1 ?c0_2 ?c0_3 ?_)
            case c0_1 => simp
            case c0_2 => simp
            case c0_3 => exact Nat.le_refl _
            intro v5 w5 hown hgr
            have HNx := Lib.hid (show (w5.ownsRow W8.heap.size 52 5 v5 0 (LT.map Xg.cs).flatten) ∧ Ext W8 w5 from ⟨by rw [HL0.out]; simpa using hown, Ext.grown (Ext.refl _) hgr fun j hj => by cases hj⟩)
            clear hown hgr
            go_wp2_with fail
            go_meet
            case rel => exact HNx
          · have HTk := Lib.hid (show ∀ w', Ext w w' → CK 5 w' (.slice (some ⟨b', o', none⟩) i cc) cc (LT.map Xg.cs) from fun w' x => by
              have := CK.take (l := i) (show CK 5 w' (.slice (some ⟨b', o', none⟩) cn cc) cc (f.cr.map Xg.cs) by rw [← hca]; exact (HC.out.ext x)) (by rw [List.length_map]; have := Hcat.out.1; omega)
              rw [HLT.out.1, List.map_take]; exact this)
            subst hca
            clear hpt
            have h0' : ¬ (0 = cc) := fun e => h0 e.symm
            go_wp2_with (at_builtin; refine app_k ekX rfl _ _ rfl W8.heap.size _ 0 [] rfl (own_none _ _ _ _) _ cc (LT.map Xg.cs) rfl (HTk.out _ (X4.out.trans X8.out)) (Ks.xg _) ?c1_1 ?c1_2 ?c1_3 ?_)
            case c1_1 => simp [HLT.out.2]; omega
            case c1_2 => simp [HLT.out.2]; omega
            case c1_3 => exact Nat.le_refl _
            intro v5 w5 hown hgr
            have HNx := Lib.hid (show (w5.ownsRow W8.heap.size 52 5 v5 i (LT.map Xg.cs).flatten) ∧ Ext W8 w5 from ⟨by simpa [HLT.out.2] using hown, Ext.grown (Ext.refl _) hgr fun j hj => by cases hj⟩)
            clear hown hgr
            go_wp2_with fail
            go_meet
            case rel => exact HNx
        case rest =>
          have HL1 := hcut
          clear hcut
          obtain ⟨wd, hwd⟩ : ∃ wd, wd = wc := ⟨_, rfl⟩
          subst hwd
          obtain ⟨al, cl, rfl, hcl⟩ := own_slice HL1.out.1
          obtain ⟨LM, hLM⟩ : ∃ LM, LM = LT ++ (if N = 0 then [] else [⟨Pa, Pb, N⟩]) := ⟨_, rfl⟩
          have HP8 := Lib.hid ((HP7.out.ext Z8.out).ext HL1.out.2)
          obtain ⟨c0, c1, c2, c3, c4⟩ := HP8.out.at
          simp only [Nat.zero_add] at c1 c2 c3 c4
          dsimp only at c0 c1 c2 c3
          have HLM := Lib.hid hLM
          clear hcl hLM
          go_upto_if 93 with fail
          go_cut [16] from 86 to 106 (fun l wx => Hid ((wx.ownsRow W8.heap.size 52 5 l LM.length (LM.map Xg.cs).flatten) ∧ Ext W8 wx))
          case first =>
            have hLM := HLM.out
            by_cases hN0 : N = 0
            · have q1' : (N != 0) = false := by rw [hN0]; rfl
              have HNx := Lib.hid (show (wd.ownsRow W8.heap.size 52 5 (.slice al i cl) LM.length (LM.map Xg.cs).flatten) ∧ Ext W8 wd from ⟨by rw [hLM, if_pos hN0, List.append_nil, HLT.out.2]; exact HL1.out.1, HL1.out.2⟩)
              clear hN0 hLM
              go_wp2_with fail
              go_meet
              case rel => exact HNx
            · have q1' : (N != 0) = true := by rw [bne, beq_eq_false_iff_ne.2 hN0]; rfl
              have hLM2 : LM = LT ++ [⟨Pa, Pb, N⟩] := by rw [hLM, if_neg hN0]
              clear hN0 hLM
              have HLM2 := Lib.hid hLM2
              clear hLM2
              go_wp2_with (at_builtin; refine app_k ekX rfl _ _ rfl W8.heap.size _ i (LT.map Xg.cs) rfl (own_extk HL1.out.1 ((Ext.refl _).alloc _)) _ 1 [Xg.cs ⟨Pa, Pb, N⟩] rfl (CK.of_blk (Deep.blk_alloc_new _ _) (Ks.xg [⟨Pa, Pb, N⟩]) rfl (Nat.le_refl _) (by omega) rfl) (Ks.xg [⟨Pa, Pb, N⟩]) ?c2_1 ?c2_2 ?c2_3 ?_)
              case c2_1 => simp; omega
              case c2_2 => simp; omega
              case c2_3 => have h1 := HL1.out.2.size; simp; omega
              intro v5 w5 hown hgr
              have HNx := Lib.hid (show (w5.ownsRow W8.heap.size 52 5 v5 LM.length (LM.map Xg.cs).flatten) ∧ Ext W8 w5 from ⟨by rw [HLM2.out, List.length_append, HLT.out.2, List.map_append]; simpa using hown, Ext.grown (HL1.out.2.trans ((Ext.refl _).alloc _)) hgr fun j hj => (HL1.out.1.lt j hj).1⟩)
              clear hown hgr
              go_wp2_with fail
              go_meet
              case rel => exact HNx
          case rest =>
            have HL2 := hcut
            clear hcut
            obtain ⟨we, hwe⟩ : ∃ we, we = wc := ⟨_, rfl⟩
            subst hwe
            obtain ⟨al2, cl2, rfl, hcl2⟩ := own_slice HL2.out.1
            have fb1 := (((HB.out.ext Y4.out).ext X8.out).ext HL2.out.2).c1
            obtain ⟨CR, hCR⟩ : ∃ CR, CR = LM ++ f.cr.drop bh := ⟨_, rfl⟩
            have hGcr : G.cr = CR := by
              rw [HG.out, hCR]
              unfold crossF
              dsimp only
              rw [← HP.out.1]
              dsimp only
              cases hKb : K with
              | true =>
                have hit : hitB f.cr ⟨Pa, Pb, 0⟩ i = true := by rw [← HK.out]; exact hKb
                have hl := lnk_hit HAt.out hit
                have := addX_hit (s := s) (n := N) HAt.out hit (by rw [HN.out]; dsimp only at hl; rw [hl])
                have hbi : bh = i + 1 := by rw [Hbh.out, hKb]; rfl
                rw [HLM.out, HLT.out.1, hbi]
                exact this.symm
              | false =>
                have hit : hitB f.cr ⟨Pa, Pb, 0⟩ i = false := by rw [← HK.out]; exact hKb
                have hl := lnk_none (HAt.out.miss HSr.out.1 hit)
                dsimp only at hl
                have hNs : N = s := by rw [HN.out, hl]; omega
                have hs0 : s ≠ 0 := by have := HGd.out.1; omega
                have := addX_miss (s := s) hs0 HAt.out hit
                have hbi : bh = i := by rw [Hbh.out, hKb]; rfl
                rw [HLM.out, HLT.out.1, hbi, hNs, if_neg hs0]
                exact this.symm
            have hDn : (f.cr.drop bh).length = cn - bh := by rw [List.length_drop]; have := Hcat.out.1; omega
            have hMn : LM.length ≤ i + 1 := by
              rw [HLM.out, List.length_append, HLT.out.2]; split <;> simp
            obtain ⟨DR, hDR⟩ : ∃ DR, DR = f.cr.drop bh := ⟨_, rfl⟩
            rw [← hDR] at hCR hDn
            have HCR := Lib.hid (And.intro hCR (And.intro hGcr (And.intro hDR (And.intro hDn hMn))))
            obtain ⟨ml, hml⟩ : ∃ ml, ml = LM.length := ⟨_, rfl⟩
            rw [← hml] at HL2 ⊢
            have hml9 : ml ≤ 1001 := by omega
            have HMl := Lib.hid hml
            clear hcl2 hCR hGcr hDR hDn hMn hml c0 c1 c2 c3 c4 p3
            have HFIN := Lib.hid (show ∀ (v5 : Value) (w5 : World), w5.ownsRow W8.heap.size 52 5 v5 CR.length (CR.map Xg.cs).flatten → Ext W8 w5 → ∃ v, Calls Tryd.prog 53 #[v5] w5 v ∧ v = RetK w5 52 (CR.map Xg.cs) from fun v5 w5 ho hx => by
              obtain ⟨cq, hq⟩ := CK.of_own ho (Ks.xg _) (by simp) (by decide)
              exact ⟨_, CopX_calls v5 cq (CR.map Xg.cs) w5 hq (Ks.xg _) (by rw [List.length_map, HCR.out.1, List.length_append, HCR.out.2.2.2.1]; have := HCR.out.2.2.2.2; omega), rfl⟩)
            by_cases hcb : cc = bh
            · obtain rfl : cn = bh := by omega
              have hD0 : DR = [] := List.eq_nil_of_length_eq_zero (by rw [HCR.out.2.2.2.1]; omega)
              have HD0 := Lib.hid hD0
              clear hD0
              have e3 : (0 : Int) ≤ cn := by omega
              subst hcb
              go_wp2_with (at_builtin; refine app_k ekX rfl _ _ rfl W8.heap.size _ ml (LM.map Xg.cs) rfl HL2.out.1 _ 0 [] rfl (CK.nil' _ _ _) (fun x hx => by cases hx) ?c3_1 ?c3_2 ?c3_3 ?_)
              case c3_1 => simp; omega
              case c3_2 => simp; omega
              case c3_3 => exact HL2.out.2.size
              intro v5 w5 hown hgr
              have HO5 := Lib.hid (show (w5.ownsRow W8.heap.size 52 5 v5 CR.length (CR.map Xg.cs).flatten) ∧ Ext W8 w5 from ⟨by rw [HCR.out.1, List.length_append, List.map_append, ← HMl.out, HCR.out.2.2.2.1]; rw [HD0.out]; simpa using hown, Ext.grown HL2.out.2 hgr fun j hj => (HL2.out.1.lt j hj).1⟩)
              clear hown hgr
              obtain ⟨a5, c5, rfl, h55⟩ := own_slice HO5.out.1
              clear h55
              obtain ⟨Q5, hQ5, hQe⟩ := HFIN.out _ w5 HO5.out.1 HO5.out.2
              subst hQe
              go_wp2_with fail
              refine hQ5.mono ?_
              rintro e w9 ⟨g9, n9, hn9, rfl, hg9, hb9, x9⟩
              clear hQ5
              obtain ⟨rb, hrb⟩ : ∃ rb, rb = w.heap.size + 1 + 1 + 1 := ⟨_, rfl⟩
              have z := (HQb.out.ext HO5.out.2).ext x9
              have c0 := z.c0; have c1 := z.c1; have c2 := z.c2; have c3 := z.c3; have cf := z.fr; have cl := z.lt
              obtain ⟨V9, hV9⟩ : ∃ V9, V9 = w9.setCell ⟨qb, 1, none⟩ (.slice (some ⟨g9, 0, none⟩) n9 n9) := ⟨_, rfl⟩
              have zq : B4 V9 qb (.slice ta' tn' ct') (.slice (some ⟨g9, 0, none⟩) n9 n9) (.slice ha' hn' ch') (.slice fa' fn' cf') 35 := by rw [hV9]; exact z.put1 _
              have hrq : rb ≠ qb := by have h1 := HS7.out; have h2 := Hqb.out; omega
              have zr : B4 V9 rb (.slice none 0 0) (.slice none 0 0) (.slice none 0 0) (.slice none 0 0) 35 := by rw [hV9, hrb]; exact B4.set ((((HRb.out.ext Y4.out).ext X8.out).ext HO5.out.2).ext x9) (by rw [← hrb]; exact hrq) _
              have s0 := zq.c0; have s1 := zq.c1; have s2 := zq.c2; have s3 := zq.c3
              have r0 := zr.c0; have r1 := zr.c1; have r2 := zr.c2; have r3 := zr.c3; have rf := zr.fr; have rl := zr.lt
              have zF := zr.put4 (.slice ta' tn' ct') (.slice (some ⟨g9, 0, none⟩) n9 n9) (.slice ha' hn' ch') (.slice fa' fn' cf')
              obtain ⟨VF, hVF⟩ : ∃ VF, VF = (((V9.setCell ⟨rb, 0, none⟩ (.slice ta' tn' ct')).setCell ⟨rb, 1, none⟩ (.slice (some ⟨g9, 0, none⟩) n9 n9)).setCell ⟨rb, 2, none⟩ (.slice ha' hn' ch')).setCell ⟨rb, 3, none⟩ (.slice fa' fn' cf') := ⟨_, rfl⟩
              rw [← hVF] at zF
              have d0 := zF.c0; have d1 := zF.c1; have d2 := zF.c2; have d3 := zF.c3
              have hag : Agr wo.heap.size w7 VF := by
                have h1 := HS7.out
                have h2 := Hqb.out
                have a1 : Agr wo.heap.size w7 w9 := Agr.ext ((Z8.out.trans HO5.out.2).trans x9)
                have a2 : Agr wo.heap.size w7 V9 := by rw [hV9]; exact a1.set (.inr (by dsimp only; omega)) _
                rw [hVF]
                exact (((a2.set (.inl (by dsimp only; omega)) _).set (.inl (by dsimp only; omega)) _).set (.inl (by dsimp only; omega)) _).set (.inl (by dsimp only; omega)) _
              have hFBV := HFB.out VF hag
              have e9 : VF.heap[g9]? = some (.cells (CR.map Xg.cs).flatten.toArray 52 (0, 0)) := by
                have h1 := HS7.out
                have h2 := Hqb.out
                have h3 := HO5.out.2.size
                have h4 := HQb.out.lt
                rw [hVF]
                refine blk_put4 ?_ (by omega) _ _ _ _
                rw [hV9, Below.heap_setCell _ _ _ _ (by dsimp only; omega)]
                exact hb9
              have hXF : Ext w VF := by
                have h1 := HS7.out
                have h2 := Hqb.out
                have h5 := ((X4.out.trans X7.out)).size
                rw [hVF, hV9]
                exact ((((X4.out.trans X8.out).trans HO5.out.2).trans x9).setCell (by dsimp only; omega) _).set4 (by omega) _ _ _ _
              have hn9' : n9 = CR.length := by rw [hn9, List.length_map]
              have hXL : XL VF (.slice (some ⟨g9, 0, none⟩) n9 n9) n9 CR := blk_ck (by rw [List.length_map]; exact hn9') (Ks.xg _) e9 (by rw [hn9', HCR.out.1, List.length_append, HCR.out.2.2.2.1]; have := HCR.out.2.2.2.2; omega)
              have HE := Lib.hid (show RetCr w R G (.returned (.tuple #[.agg #[.slice ta' tn' ct', .slice (some ⟨g9, 0, none⟩) n9 n9, .slice ha' hn' ch', .slice fa' fn' cf'], .int .i64 0])) VF from ⟨_, _, _, _, by rw [HRv.out], hXF, fun _ => ⟨⟨by rw [HG.out]; exact hFBV.t, ⟨n9, by rw [HCR.out.2.1]; exact hXL⟩, by rw [HG.out]; exact hFBV.h, by rw [HG.out]; exact hFBV.f⟩, by rw [HCR.out.2.1, ← hn9']; exact hXL⟩, fun h => absurd HRv.out h⟩)
              clear zF zr zq z hag hFBV e9 hXF hn9' hXL hn9 hg9 hb9 x9 hrq
              have HV9 := Lib.hid hV9; have HVF := Lib.hid hVF; have Hrb := Lib.hid hrb
              clear hV9 hVF hrb
              go_upto_region 23 with fail
              rw [← HV9.out, ← Hrb.out]
              clear c0 c1 c2 c3 cf cl
              go_wp2
              rw [← HVF.out]
              exact bodyPost_ret (v := .tuple #[.agg #[.slice ta' tn' ct', .slice (some ⟨g9, 0, none⟩) n9 n9, .slice ha' hn' ch', .slice fa' fn' cf'], .int .i64 0]) (by simp [results, Tryd.results16, go_sem, d0, d1, d2, d3]) rfl HE.out
            · have hpt := CK.ptr HC.out
              obtain ⟨b', o', hca⟩ : ∃ b o, ca = some ⟨b, o, none⟩ := by
                rcases hpt.2 with h0 | ⟨_, h0⟩
                · omega
                · exact h0
              have HTk := Lib.hid (show ∀ w', Ext w w' → CK 5 w' (.slice (some ⟨b', o' + bh * 5, none⟩) (cn - bh) (cc - bh)) (cc - bh) (DR.map Xg.cs) from fun w' x => by
                have h1 := Hcat.out.1
                have := CK.drop (l := bh) (show CK 5 w' (.slice (some ⟨b', o', none⟩) cn cc) cc (f.cr.map Xg.cs) by rw [← hca]; exact (HC.out.ext x)) (by rw [List.length_map]; omega)
                rw [List.length_map, ← h1] at this
                rw [HCR.out.2.2.1, List.map_drop]; exact this)
              subst hca
              clear hpt
              have e3 : (0 : Int) ≤ bh := by omega
              have e4 : (bh : Int) ≤ cn := by omega
              go_wp2_with (at_builtin; refine app_k ekX rfl _ _ rfl W8.heap.size _ ml (LM.map Xg.cs) rfl HL2.out.1 _ (cc - bh) (DR.map Xg.cs) rfl (HTk.out _ ((X4.out.trans X8.out).trans HL2.out.2)) (Ks.xg _) ?c4_1 ?c4_2 ?c4_3 ?_)
              case c4_1 => rw [List.length_map, HCR.out.2.2.2.1]; omega
              case c4_2 => rw [List.length_map, HCR.out.2.2.2.1]; omega
              case c4_3 => exact HL2.out.2.size
              intro v5 w5 hown hgr
              have HO5 := Lib.hid (show (w5.ownsRow W8.heap.size 52 5 v5 CR.length (CR.map Xg.cs).flatten) ∧ Ext W8 w5 from ⟨by rw [HCR.out.1, List.length_append, List.map_append, ← HMl.out, HCR.out.2.2.2.1]; rw [HCR.out.2.2.2.1] at hown; rw [List.flatten_append]; exact hown, Ext.grown HL2.out.2 hgr fun j hj => (HL2.out.1.lt j hj).1⟩)
              clear hown hgr
              obtain ⟨a5, c5, rfl, h55⟩ := own_slice HO5.out.1
              clear h55
              obtain ⟨Q5, hQ5, hQe⟩ := HFIN.out _ w5 HO5.out.1 HO5.out.2
              subst hQe
              go_wp2_with fail
              refine hQ5.mono ?_
              rintro e w9 ⟨g9, n9, hn9, rfl, hg9, hb9, x9⟩
              clear hQ5
              obtain ⟨rb, hrb⟩ : ∃ rb, rb = w.heap.size + 1 + 1 + 1 := ⟨_, rfl⟩
              have z := (HQb.out.ext HO5.out.2).ext x9
              have c0 := z.c0; have c1 := z.c1; have c2 := z.c2; have c3 := z.c3; have cf := z.fr; have cl := z.lt
              obtain ⟨V9, hV9⟩ : ∃ V9, V9 = w9.setCell ⟨qb, 1, none⟩ (.slice (some ⟨g9, 0, none⟩) n9 n9) := ⟨_, rfl⟩
              have zq : B4 V9 qb (.slice ta' tn' ct') (.slice (some ⟨g9, 0, none⟩) n9 n9) (.slice ha' hn' ch') (.slice fa' fn' cf') 35 := by rw [hV9]; exact z.put1 _
              have hrq : rb ≠ qb := by have h1 := HS7.out; have h2 := Hqb.out; omega
              have zr : B4 V9 rb (.slice none 0 0) (.slice none 0 0) (.slice none 0 0) (.slice none 0 0) 35 := by rw [hV9, hrb]; exact B4.set ((((HRb.out.ext Y4.out).ext X8.out).ext HO5.out.2).ext x9) (by rw [← hrb]; exact hrq) _
              have s0 := zq.c0; have s1 := zq.c1; have s2 := zq.c2; have s3 := zq.c3
              have r0 := zr.c0; have r1 := zr.c1; have r2 := zr.c2; have r3 := zr.c3; have rf := zr.fr; have rl := zr.lt
              have zF := zr.put4 (.slice ta' tn' ct') (.slice (some ⟨g9, 0, none⟩) n9 n9) (.slice ha' hn' ch') (.slice fa' fn' cf')
              obtain ⟨VF, hVF⟩ : ∃ VF, VF = (((V9.setCell ⟨rb, 0, none⟩ (.slice ta' tn' ct')).setCell ⟨rb, 1, none⟩ (.slice (some ⟨g9, 0, none⟩) n9 n9)).setCell ⟨rb, 2, none⟩ (.slice ha' hn' ch')).setCell ⟨rb, 3, none⟩ (.slice fa' fn' cf') := ⟨_, rfl⟩
              rw [← hVF] at zF
              have d0 := zF.c0; have d1 := zF.c1; have d2 := zF.c2; have d3 := zF.c3
              have hag : Agr wo.heap.size w7 VF := by
                have h1 := HS7.out
                have h2 := Hqb.out
                have a1 : Agr wo.heap.size w7 w9 := Agr.ext ((Z8.out.trans HO5.out.2).trans x9)
                have a2 : Agr wo.heap.size w7 V9 := by rw [hV9]; exact a1.set (.inr (by dsimp only; omega)) _
                rw [hVF]
                exact (((a2.set (.inl (by dsimp only; omega)) _).set (.inl (by dsimp only; omega)) _).set (.inl (by dsimp only; omega)) _).set (.inl (by dsimp only; omega)) _
              have hFBV := HFB.out VF hag
              have e9 : VF.heap[g9]? = some (.cells (CR.map Xg.cs).flatten.toArray 52 (0, 0)) := by
                have h1 := HS7.out
                have h2 := Hqb.out
                have h3 := HO5.out.2.size
                have h4 := HQb.out.lt
                rw [hVF]
                refine blk_put4 ?_ (by omega) _ _ _ _
                rw [hV9, Below.heap_setCell _ _ _ _ (by dsimp only; omega)]
                exact hb9
              have hXF : Ext w VF := by
                have h1 := HS7.out
                have h2 := Hqb.out
                have h5 := ((X4.out.trans X7.out)).size
                rw [hVF, hV9]
                exact ((((X4.out.trans X8.out).trans HO5.out.2).trans x9).setCell (by dsimp only; omega) _).set4 (by omega) _ _ _ _
              have hn9' : n9 = CR.length := by rw [hn9, List.length_map]
              have hXL : XL VF (.slice (some ⟨g9, 0, none⟩) n9 n9) n9 CR := blk_ck (by rw [List.length_map]; exact hn9') (Ks.xg _) e9 (by rw [hn9', HCR.out.1, List.length_append, HCR.out.2.2.2.1]; have := HCR.out.2.2.2.2; omega)
              have HE := Lib.hid (show RetCr w R G (.returned (.tuple #[.agg #[.slice ta' tn' ct', .slice (some ⟨g9, 0, none⟩) n9 n9, .slice ha' hn' ch', .slice fa' fn' cf'], .int .i64 0])) VF from ⟨_, _, _, _, by rw [HRv.out], hXF, fun _ => ⟨⟨by rw [HG.out]; exact hFBV.t, ⟨n9, by rw [HCR.out.2.1]; exact hXL⟩, by rw [HG.out]; exact hFBV.h, by rw [HG.out]; exact hFBV.f⟩, by rw [HCR.out.2.1, ← hn9']; exact hXL⟩, fun h => absurd HRv.out h⟩)
              clear zF zr zq z hag hFBV e9 hXF hn9' hXL hn9 hg9 hb9 x9 hrq
              have HV9 := Lib.hid hV9; have HVF := Lib.hid hVF; have Hrb := Lib.hid hrb
              clear hV9 hVF hrb
              go_upto_region 23 with fail
              rw [← HV9.out, ← Hrb.out]
              clear c0 c1 c2 c3 cf cl
              go_wp2
              rw [← HVF.out]
              exact bodyPost_ret (v := .tuple #[.agg #[.slice ta' tn' ct', .slice (some ⟨g9, 0, none⟩) n9 n9, .slice ha' hn' ch', .slice fa' fn' cf'], .int .i64 0]) (by simp [results, Tryd.results16, go_sem, d0, d1, d2, d3]) rfl HE.out
end Go.Proofs.YtlhkehfplcclgaaDoor
