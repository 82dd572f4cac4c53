/- fabrics.Text: the walk. -/
import Derived.Test.YtlhkehfplcclgaaDoorKg
namespace Go.Proofs.YtlhkehfplcclgaaDoor
set_option linter.unusedVariables false
set_option linter.unusedSimpArgs false
set_option maxRecDepth 8000
open Go Go.RowKit Go.Sort

set_option maxHeartbeats 16000000 in
theorem Text_calls (tv cv hv fv : Value) (f : Fab) (w : World) (h : FB w tv cv hv fv f) (hin : FIn f) (hk : f.ys.length = 6 → OKT f.ys) (ht : PTab w) :
    Calls Tryd.prog 12 #[.agg #[tv, cv, hv, fv]] w fun e w' => e = .returned (.string (bst (textT f))) ∧ Ext w w' := by
  have HCk := Lib.hid (fun w' (x : Ext w w') => Check_calls tv cv hv fv f w' (h.ext x) hin hk)
  obtain ⟨ct, hT⟩ := h.t
  obtain ⟨cc, hC⟩ := h.c
  obtain ⟨ch, hH⟩ := h.h
  obtain ⟨cf, hF⟩ := h.f
  have HHe := Lib.hid (fun w' (x : Ext w w') => Names_calls heldW hv ch f.held w' (hH.ext x) (ht.ext x) hin.held hin.n1)
  have HFa := Lib.hid (fun w' (x : Ext w w') => Names_calls fallenW fv cf f.fallen w' (hF.ext x) (ht.ext x) hin.fallen hin.n2)
  obtain ⟨ca, cn, rfl, o2, _, _, hcat⟩ := hC.open
  obtain ⟨hha, hn, rfl, o3, _, _, _⟩ := hH.open
  obtain ⟨fa, fn, rfl, o4, _, _, _⟩ := hF.open
  obtain ⟨ta, tn, rfl, htn, htc, ht9, htt⟩ := hT.open
  obtain ⟨t, hte⟩ : ∃ t, t = f.ys := ⟨_, rfl⟩
  have tn9 : tn ≤ 100 := by have := hin.n4; omega
  have cn9 : cn ≤ 1000 := by have := hin.n3; omega
  rw [← hte] at htt htn
  have HT := Lib.hid (show ∀ y, y < tn → (∃ b o a m d, ta = some ⟨b, o, none⟩ ∧ w.cell? ⟨b, o + y, none⟩ = some (.slice a m d) ∧ m = (yi t y).length ∧ LR w (.slice a m d) d (yi t y)) ∧ (yi t y).length ≤ 1000 ∧ (∀ l ∈ yi t y, l.In ∧ l.thr.length ≤ 100 ∧ l.past.length ≤ 1000) from fun y hy => ⟨htt y hy, by have := hin.n5; rw [← hte] at this; exact this _ (yi_mem (by omega)), fun l hl => by
    have h1 := hin.ys; have h2 := hin.n6
    rw [← hte] at h1 h2
    exact ⟨h1 _ (yi_mem (by omega)) l hl, h2 _ (yi_mem (by omega)) l hl⟩⟩)
  have Hcat := Lib.hid (fun i (hi : i < cn) => (⟨hcat i hi, hin.cr _ (xi_mem (by omega))⟩ : (∃ b o, ca = some ⟨b, o, none⟩ ∧ At5 w b (o + i * 5) (xi f.cr i)) ∧ (xi f.cr i).In))
  obtain ⟨W, hW⟩ : ∃ W, W = w.alloc (.cells #[.slice ta tn ct, .slice ca cn cc, .slice hha hn ch, .slice fa fn cf] 35) := ⟨_, rfl⟩
  have XW := Lib.hid (show Ext w W by rw [hW]; exact (Ext.refl _).alloc _)
  have HB := Lib.hid (show B4 W w.heap.size (.slice ta tn ct) (.slice ca cn cc) (.slice hha hn ch) (.slice fa fn cf) 35 by rw [hW]; exact B4.new _ _ _ _ _ _)
  obtain ⟨R, hR⟩ : ∃ R, R = textT f := ⟨_, rfl⟩
  rw [← hR]
  have HR := Lib.hid hR; have HW := Lib.hid hW; have Hte := Lib.hid hte; have Htn := Lib.hid htn; have HIn := Lib.hid hin; have HPt := Lib.hid ht
  have HN := Lib.hid (And.intro o2 (And.intro o3 o4))
  have p0 := HB.out.c0; have p1 := HB.out.c1; have p2 := HB.out.c2; have p3 := HB.out.c3
  rw [hW] at p0 p1 p2 p3
  clear h hin hk ht hT hC hH hF hcat htt htn hte hW hR o2 o3 o4
  go_enter Tryd.func12, Tryd.ntmps12
  go_wp2_with fail
  rw [← HW.out]
  clear p0 p1 p2 p3
  refine (HCk.out W XW.out).mono ?_
  rintro e w1 ⟨rfl, x1⟩
  have X1 := Lib.hid (XW.out.trans x1)
  have Y1 := Lib.hid x1
  clear x1
  obtain ⟨E, hE⟩ : ∃ E, E = fchk f := ⟨_, rfl⟩
  rw [← hE]
  have HE := Lib.hid hE
  clear hE
  by_cases hE0 : E = 0
  case neg =>
    have q1 : (E != 0) = true := by rw [bne, beq_eq_false_iff_ne.2 hE0]; rfl
    have HRv := Lib.hid (show R = [] by rw [HR.out]; unfold textT; rw [if_neg (by rw [← HE.out]; exact hE0)])
    clear hE0
    go_wp2
    go_ret
    exact ⟨by rw [HRv.out]; rfl, X1.out⟩
  have q1 : (E != 0) = false := by rw [hE0]; rfl
  have HRv := Lib.hid (show R = tabP t tn ++ crP f.cr cn ++ nmsT heldW f.held ++ nmsT fallenW f.fallen by rw [HR.out]; unfold textT; rw [if_pos (by rw [← HE.out]; exact hE0)]; unfold textB; rw [← Hte.out, ← Htn.out, ← HN.out.1])
  clear hE0 HE HR
  obtain ⟨b, hb⟩ : ∃ b, b = w1.heap.size := ⟨_, rfl⟩
  obtain ⟨W2, hW2⟩ : ∃ W2, W2 = w1.alloc (.cells #[.pointer none, .slice none 0 0] 86) := ⟨_, rfl⟩
  have S0 := Lib.hid (show Ext w1 W2 ∧ SB b b W2 (tabP t 0) ∧ (tabP t 0).length ≤ bd (0 * 1000) from ⟨by rw [hW2]; exact (Ext.refl _).alloc _, by rw [hW2, hb]; exact SB.new w1, by unfold tabP; simp⟩)
  have cb0 := cell_alloc (HB.out.ext Y1.out).c0 (.cells #[.pointer none, .slice none 0 0] 86)
  have cl0 : w.heap.size < w1.heap.size := (HB.out.ext Y1.out).lt
  have HW2 := Lib.hid hW2; have Hb := Lib.hid hb
  have hbb : ∀ {w'}, Ext w1 w' → Below b w1 w' := fun x => by rw [hb]; exact x
  have Hbb := Lib.hid (show ∀ w', Ext w1 w' → Below b w1 w' from fun w' x => hbb x)
  have Hbe := Lib.hid (show ∀ w', Below b w1 w' → Ext w1 w' from fun w' x => by rw [hb] at x; exact x)
  clear hW2 hb hbb
  go_wp2
  rw [← HW2.out, ← Hb.out]
  clear cb0 cl0
  go_loopg [5, 6, 7, 8, 18] tn (fun gk _ _ _ _ i wr => ∃ y : Nat, y + gk = tn ∧ i = .int .i64 y ∧ Hid (Ext w1 wr ∧ SB b b wr (tabP t y) ∧ (tabP t y).length ≤ bd (y * 1000)))
  case atStart => exact ⟨0, by omega, rfl, S0⟩
  case round =>
    obtain ⟨y, hyg, rfl, G⟩ := hrel
    by_cases hyt : y < tn
    · obtain ⟨⟨b1, o1, ra, rm, rd, rfl, hc, hrm, hLR⟩, hr9, hrr⟩ := HT.out y hyt
      have f1 : (y : Int) < tn := by omega
      have f2 : (0 : Int) ≤ y := by omega
      have cr := G.out.1.cell (X1.out.cell hc)
      have rm9 : rm ≤ 1000 := by omega
      obtain ⟨RW, hRW⟩ : ∃ RW, RW = yi t y := ⟨_, rfl⟩
      rw [← hRW] at hLR hrr hrm
      have HLo := Lib.hid (show ∀ i, i < rm → (∃ b o a1 n1 d1 a2 n2 d2, ra = some ⟨b, o, none⟩ ∧ AtL w b (o + i * 4) (li RW i) (.slice a1 n1 d1) (.slice a2 n2 d2) ∧ NL w (.slice a1 n1 d1) d1 (li RW i).thr ∧ PL w (.slice a2 n2 d2) d2 (li RW i).past) ∧ (li RW i).In ∧ (li RW i).thr.length ≤ 100 ∧ (li RW i).past.length ≤ 1000 from fun i hi => by
        obtain ⟨a', n', e, hn', _, _, hat⟩ := hLR.open
        have e2 : ra = a' ∧ rm = n' := by simpa using e
        obtain ⟨b, o, a1, n1, d1, a2, n2, d2, h1, h2, _, _, h3, h4⟩ := hat i (by omega)
        exact ⟨⟨b, o, a1, n1, d1, a2, n2, d2, by rw [e2.1]; exact h1, h2, h3, h4⟩, hrr _ (li_mem (by omega))⟩)
      obtain ⟨T0, hT0⟩ : ∃ T0, T0 = tabP t y := ⟨_, rfl⟩
      have HTs := Lib.hid (show tabP t (y + 1) = T0 ++ rowP y RW rm by rw [tabP_succ, hT0, ← hRW, hrm]; rfl)
      have GI := Lib.hid (show Ext w1 wr ∧ SB b b wr (T0 ++ rowP y RW 0) ∧ (T0 ++ rowP y RW 0).length ≤ bd (y * 1000 + 0) from ⟨G.out.1, by rw [show rowP y RW 0 = [] from rfl, List.append_nil, hT0]; exact G.out.2.1, by rw [show rowP y RW 0 = [] from rfl, List.append_nil, hT0]; exact G.out.2.2⟩)
      clear hc hrm hLR hr9 hrr hRW hT0
      go_wp2
      obtain ⟨wo, hwo⟩ : ∃ wo, wo = wr := ⟨_, rfl⟩
      subst hwo
      clear cr
      go_loopg [7, 8, 25] rm (fun gk _ _ i wq => ∃ n : Nat, n + gk = rm ∧ i = .int .i64 n ∧ Hid (Ext w1 wq ∧ SB b b wq (T0 ++ rowP y RW n) ∧ (T0 ++ rowP y RW n).length ≤ bd (y * 1000 + n)))
      case atStart => exact ⟨0, by omega, rfl, GI⟩
      case round =>
        obtain ⟨n, hng, rfl, G2⟩ := hrel
        by_cases hnt : n < rm
        · obtain ⟨⟨b2, o2, a1, n1, d1, a2, n2, d2, rfl, hAL, hNL, hPL⟩, hlI, hl1, hl2⟩ := HLo.out n hnt
          have i1 : (n : Int) < rm := by omega
          have i2 : (0 : Int) ≤ n := by omega
          obtain ⟨x0, x1, x2, x3⟩ := hAL.ext (X1.out.trans G2.out.1)
          have hsucc := rowP_succ y RW n
          obtain ⟨l, hl⟩ : ∃ l, l = li RW n := ⟨_, rfl⟩
          rw [← hl] at x0 x1 hNL hPL hlI hl1 hl2 hsucc
          obtain ⟨W3, hW3⟩ : ∃ W3, W3 = wr.alloc (.cells #[.int .u8 l.bed, .bool l.new, .slice a1 n1 d1, .slice a2 n2 d2] 46) := ⟨_, rfl⟩
          have z3 : Ext wr W3 := by rw [hW3]; exact (Ext.refl _).alloc _
          have X3 := Lib.hid (G2.out.1.trans z3)
          have Z3 := Lib.hid z3
          have haI : (⟨(y : Int) + 1, (n : Nat)⟩ : Nm).In := ⟨⟨by dsimp only; omega, by dsimp only; omega⟩, by dsimp only; omega, by dsimp only; omega⟩
          have hde := desc_le haI hlI hl1 hl2
          have HDe := Lib.hid (show ∀ w', Ext w w' → Calls Tryd.prog 39 #[.agg #[.int .u8 ((y : Int) + 1), .int .i64 (n : Int)], .agg #[.int .u8 l.bed, .bool l.new, .slice a1 n1 d1, .slice a2 n2 d2]] w' (RetS w' (descT ⟨(y : Int) + 1, (n : Nat)⟩ l)) from fun w' x => Desc_calls ⟨(y : Int) + 1, (n : Nat)⟩ l _ _ d1 d2 w' (hNL.ext x) (hPL.ext x) (HPt.out.ext x) haI hlI (by omega) hl2)
          obtain ⟨D, hD⟩ : ∃ D, D = descT ⟨(y : Int) + 1, (n : Nat)⟩ l := ⟨_, rfl⟩
          rw [← hD] at HDe hde hsucc
          have HSu := Lib.hid hsucc; have HDl := Lib.hid hde
          have t1 : IntKind.i64.wrap ((y : Int) + 1) = (y : Int) + 1 := IntWalk.i64_in _ ⟨by omega, by omega⟩
          have t2 : IntKind.u8.wrap ((y : Int) + 1) = (y : Int) + 1 := IntWalk.u8_in _ ⟨by omega, by omega⟩
          have HW3 := Lib.hid hW3
          clear hAL hNL hPL hlI hl1 hl2 hsucc hl hW3 z3 haI hde hD
          go_wp2_with fail
          rw [← HW3.out]
          clear x0 x1 x2 x3
          refine (HDe.out W3 (X1.out.trans X3.out)).mono ?_
          rintro e w4 ⟨v, rfl, hso, x4⟩
          obtain ⟨cD, hcD⟩ := hso.ck
          have X4 := Lib.hid (X3.out.trans x4)
          have hLen : (T0 ++ rowP y RW n).length ≤ 100000000000 := bd_max G2.out.2.2 (by omega)
          have HLi := Lib.hid (Line_calls b b (T0 ++ rowP y RW n) v cD D w4 hcD ((G2.out.2.1.ext Z3.out).ext x4) HDl.out.2.1 (by have := HDl.out.1; omega) HDl.out.2.2 hLen (by have := X4.out.size; have := Hb.out; omega))
          obtain ⟨aD, nD, rfl, hnD⟩ : ∃ aD nD, v = .slice aD nD cD ∧ nD = nD := by obtain ⟨ao, e1, _⟩ := hcD; exact ⟨ao, _, e1, rfl⟩
          clear hso hcD x4 hLen hnD
          go_wp2_with fail
          refine HLi.out.mono ?_
          rintro e w5 ⟨rfl, h5, b5, _⟩
          have HN5 := Lib.hid (show Ext w1 w5 ∧ SB b b w5 (T0 ++ rowP y RW (n + 1)) ∧ (T0 ++ rowP y RW (n + 1)).length ≤ bd (y * 1000 + (n + 1)) from ⟨Hbe.out _ ((Hbb.out _ X4.out).trans b5), by rw [HSu.out, ← List.append_assoc]; exact h5, by
            rw [HSu.out, ← List.append_assoc, List.length_append]
            exact bd_step G2.out.2.2 HDl.out.2.2⟩)
          clear h5 b5
          go_wp2
          go_roundg (rm - (n + 1))
          case measure => omega
          case rel => exact ⟨n + 1, by omega, by go_num, HN5⟩
        · obtain rfl : n = rm := by omega
          have i1 : ¬ (n : Int) < n := by omega
          have HN5 := Lib.hid (show Ext w1 wr ∧ SB b b wr (tabP t (y + 1)) ∧ (tabP t (y + 1)).length ≤ bd ((y + 1) * 1000) from ⟨G2.out.1, by rw [HTs.out]; exact G2.out.2.1, by
            rw [HTs.out]
            exact bd_le G2.out.2.2 (by omega)⟩)
          go_wp2
          go_roundg (tn - (y + 1))
          case measure => omega
          case rel => exact ⟨y + 1, by omega, by go_num, HN5⟩
    · obtain rfl : y = tn := by omega
      have f1 : ¬ (y : Int) < y := by omega
      have cb1 := ((HB.out.ext Y1.out).ext G.out.1).c1
      obtain ⟨T1, hT1⟩ : ∃ T1, T1 = tabP t y := ⟨_, rfl⟩
      have hT1l : T1.length ≤ bd (100000 + 0) := by rw [hT1]; exact bd_le G.out.2.2 (by omega)
      have GI := Lib.hid (show Ext w1 wr ∧ SB b b wr (T1 ++ crP f.cr 0) ∧ (T1 ++ crP f.cr 0).length ≤ bd (100000 + 0) from ⟨G.out.1, by rw [show crP f.cr 0 = [] from rfl, List.append_nil, hT1]; exact G.out.2.1, by rw [show crP f.cr 0 = [] from rfl, List.append_nil]; exact hT1l⟩)
      rw [← hT1] at HRv
      clear hT1 hT1l
      go_wp2
      obtain ⟨wo, hwo⟩ : ∃ wo, wo = wr := ⟨_, rfl⟩
      subst hwo
      clear cb1
      go_loopg [10, 44] cn (fun gk _ i wr => ∃ k : Nat, k + gk = cn ∧ i = .int .i64 k ∧ Hid (Ext w1 wr ∧ SB b b wr (T1 ++ crP f.cr k) ∧ (T1 ++ crP f.cr k).length ≤ bd (100000 + k)))
      case atStart => exact ⟨0, by omega, rfl, GI⟩
      case round =>
        obtain ⟨k, hk, rfl, G3⟩ := hrel
        by_cases hkt : k < cn
        · obtain ⟨⟨b', o', rfl, hA5⟩, hcI⟩ := Hcat.out k hkt
          have e1 : (k : Int) < cn := by omega
          have e2 : (0 : Int) ≤ k := by omega
          obtain ⟨c0, c1, c2, c3, c4⟩ := hA5.ext (X1.out.trans G3.out.1)
          have hsucc := crP_succ (cr := f.cr) (k := k) (by rw [← HN.out.1]; exact hkt)
          obtain ⟨c, hc⟩ : ∃ c, c = xi f.cr k := ⟨_, rfl⟩
          rw [← hc] at c0 c1 c2 c3 c4 hcI hsucc
          obtain ⟨W3, hW3⟩ : ∃ W3, W3 = wr.alloc (.cells #[.int .u8 c.a.y, .int .i64 c.a.n, .int .u8 c.b.y, .int .i64 c.b.n, .int .i64 c.n] 52) := ⟨_, rfl⟩
          have z3 : Ext wr W3 := by rw [hW3]; exact (Ext.refl _).alloc _
          have X3 := Lib.hid (G3.out.1.trans z3)
          have HB3 := Lib.hid (show B5 W3 wr.heap.size c 52 by rw [hW3]; exact B5.new wr c _)
          have Z3 := Lib.hid z3
          have hcl := cr_le hcI
          have HNa := Lib.hid (show ∀ w', Ext w w' → Calls Tryd.prog 40 #[.agg #[.int .u8 c.a.y, .int .i64 c.a.n]] w' fun e w'' => e = .returned (.string (bst (nameT c.a))) ∧ Ext w' w'' from fun w' x => Name_calls c.a w' (HPt.out.ext x) hcI.1)
          have HNb := Lib.hid (show ∀ w', Ext w w' → Calls Tryd.prog 40 #[.agg #[.int .u8 c.b.y, .int .i64 c.b.n]] w' fun e w'' => e = .returned (.string (bst (nameT c.b))) ∧ Ext w' w'' from fun w' x => Name_calls c.b w' (HPt.out.ext x) hcI.2.1)
          have HNi := Lib.hid (show ∀ w', Ext w w' → Calls Tryd.prog 41 #[.int .i64 c.n] w' fun e w'' => e = .returned (.string (bst (Lib.itoa c.n))) ∧ Ext w' w'' from fun w' x => Itoa_calls c.n hcI.2.2 w' (HPt.out.ext x))
          obtain ⟨q0_1, q0_2, q0_3, q0_4, q0_5⟩ := HB3.out.at
          simp only [Nat.zero_add] at q0_2 q0_3 q0_4 q0_5
          have HW3 := Lib.hid hW3; have HSu := Lib.hid hsucc; have HCl := Lib.hid hcl
          have hLen : (T1 ++ crP f.cr k).length ≤ 100000000000 := bd_max G3.out.2.2 (by omega)
          have hbne : wr.heap.size ≠ b := by have := bld_lt (show Lib.IsBuilder _ _ b b _ wr from G3.out.2.1); omega
          have HLi := Lib.hid (show ∀ w8, Ext W3 w8 → Calls Tryd.prog 35 #[.slice (some ⟨w8.heap.size, 0, none⟩) 4 4, .pointer (some ⟨b, 0, none⟩)] (w8.alloc (.cells #[.string { data := #[99, 114, 111, 115, 115] }, .string (bst (nameT c.a)), .string (bst (nameT c.b)), .string (bst (Lib.itoa c.n))] 9)) fun e w' => e = .returned (.tuple #[]) ∧ SB b b w' (T1 ++ crP f.cr (k + 1)) ∧ Below b (w8.alloc (.cells #[.string { data := #[99, 114, 111, 115, 115] }, .string (bst (nameT c.a)), .string (bst (nameT c.b)), .string (bst (Lib.itoa c.n))] 9)) w' ∧ KeptBut b (w8.alloc (.cells #[.string { data := #[99, 114, 111, 115, 115] }, .string (bst (nameT c.a)), .string (bst (nameT c.b)), .string (bst (Lib.itoa c.n))] 9)) w' from fun w8 x8 => by
            have hso : SO w8.heap.size (w8.alloc (.cells #[.string { data := #[99, 114, 111, 115, 115] }, .string (bst (nameT c.a)), .string (bst (nameT c.b)), .string (bst (Lib.itoa c.n))] 9)) (.slice (some ⟨w8.heap.size, 0, none⟩) 4 4) (crW c) := SO.new w8 (crW c) (by have : (crW c).length = 4 := rfl; omega)
            have hck : CK 1 (w8.alloc (.cells #[.string { data := #[99, 114, 111, 115, 115] }, .string (bst (nameT c.a)), .string (bst (nameT c.b)), .string (bst (Lib.itoa c.n))] 9)) (.slice (some ⟨w8.heap.size, 0, none⟩) 4 4) 4 ((crW c).map sc) := CK.of_blk (Deep.blk_alloc_new _ _) (Ks.sc _) rfl (Nat.le_refl _) (by omega) rfl
            rw [HSu.out, ← List.append_assoc]
            exact Line_calls b b (T1 ++ crP f.cr k) _ 4 (crW c) _ hck (((G3.out.2.1.ext Z3.out).ext x8).ext ((Ext.refl _).alloc _)) (by simp [crW]) (by simp [crW]) HCl.out hLen (by have h1 := X3.out.size; have h2 := x8.size; have h3 := Hb.out; simp; omega))
          have HCr := Lib.hid (show (T1 ++ crP f.cr (k + 1)).length ≤ bd (100000 + (k + 1)) by
            rw [HSu.out, ← List.append_assoc, List.length_append]
            exact bd_step G3.out.2.2 HCl.out)
          clear hA5 hsucc hc hW3 hcI z3 hcl hLen
          go_wp2
          rw [← HW3.out]
          clear c0 c1 c2 c3 c4
          obtain ⟨NA, hNA⟩ : ∃ NA, NA = bst (nameT c.a) := ⟨_, rfl⟩
          obtain ⟨NB, hNB⟩ : ∃ NB, NB = bst (nameT c.b) := ⟨_, rfl⟩
          obtain ⟨NI, hNI⟩ : ∃ NI, NI = bst (Lib.itoa c.n) := ⟨_, rfl⟩
          rw [← hNA] at HNa HLi; rw [← hNB] at HNb HLi; rw [← hNI] at HNi HLi
          clear hNA hNB hNI
          have HBn := Lib.hid hbne
          clear hbne
          go_region_held3 (fun w' => w'.cell? ⟨wr.heap.size, 0, Option.none⟩ = some (.int .u8 c.a.y) ∧ w'.cell? ⟨wr.heap.size, 1, Option.none⟩ = some (.int .i64 c.a.n) ∧ w'.cell? ⟨wr.heap.size, 2, Option.none⟩ = some (.int .u8 c.b.y) ∧ w'.cell? ⟨wr.heap.size, 3, Option.none⟩ = some (.int .i64 c.b.n) ∧ w'.cell? ⟨wr.heap.size, 4, Option.none⟩ = some (.int .i64 c.n)) (first | (with_reducible exact ⟨q0_1, q0_2, q0_3, q0_4, q0_5⟩) | (with_reducible exact ⟨q1_1, q1_2, q1_3, q1_4, q1_5⟩) | (with_reducible exact ⟨q2_1, q2_2, q2_3, q2_4, q2_5⟩) | (with_reducible exact ⟨q3_1, q3_2, q3_3, q3_4, q3_5⟩) | (with_reducible exact ⟨q4_1, q4_2, q4_3, q4_4, q4_5⟩) | go_keep) (first
            | (go_at_call_of 40 (Value.agg #[.int .u8 c.a.y, .int .i64 c.a.n]); (refine (HNa.out _ ?_).mono ?_); (focus (refine Ext.trans (X1.out.trans X3.out) ?_; (focus (repeat (first | (with_reducible exact Ext.refl _) | (with_reducible apply Ext.drew) | (with_reducible apply Ext.drewN) | (with_reducible apply Ext.alloc)))))); intro e w6 hh; obtain ⟨rfl, x⟩ := hh; have Xa : Hid (Ext W3 w6) := Lib.hid (Ext.trans (by ((repeat (first | (with_reducible exact Ext.refl _) | (with_reducible apply Ext.drew) | (with_reducible apply Ext.drewN) | (with_reducible apply Ext.alloc))); done)) x); have q1_1 := Xa.out.cell q0_1; have q1_2 := Xa.out.cell q0_2; have q1_3 := Xa.out.cell q0_3; have q1_4 := Xa.out.cell q0_4; have q1_5 := Xa.out.cell q0_5; clear x)
            | (go_at_call_of 40 (Value.agg #[.int .u8 c.b.y, .int .i64 c.b.n]); (refine (HNb.out _ ?_).mono ?_); (focus (refine Ext.trans (X1.out.trans (X3.out.trans Xa.out)) ?_; (focus (repeat (first | (with_reducible exact Ext.refl _) | (with_reducible apply Ext.drew) | (with_reducible apply Ext.drewN) | (with_reducible apply Ext.alloc)))))); intro e w7 hh; obtain ⟨rfl, x⟩ := hh; have Xb : Hid (Ext W3 w7) := Lib.hid (Ext.trans Xa.out (Ext.trans (by ((repeat (first | (with_reducible exact Ext.refl _) | (with_reducible apply Ext.drew) | (with_reducible apply Ext.drewN) | (with_reducible apply Ext.alloc))); done)) x)); have q2_1 := Xb.out.cell q0_1; have q2_2 := Xb.out.cell q0_2; have q2_3 := Xb.out.cell q0_3; have q2_4 := Xb.out.cell q0_4; have q2_5 := Xb.out.cell q0_5; clear x)
            | (go_at_call 41; (refine (HNi.out _ ?_).mono ?_); (focus (refine Ext.trans (X1.out.trans (X3.out.trans Xb.out)) ?_; (focus (repeat (first | (with_reducible exact Ext.refl _) | (with_reducible apply Ext.drew) | (with_reducible apply Ext.drewN) | (with_reducible apply Ext.alloc)))))); intro e w8 hh; obtain ⟨rfl, x⟩ := hh; have Xc : Hid (Ext W3 w8) := Lib.hid (Ext.trans Xb.out (Ext.trans (by ((repeat (first | (with_reducible exact Ext.refl _) | (with_reducible apply Ext.drew) | (with_reducible apply Ext.drewN) | (with_reducible apply Ext.alloc))); done)) x)); have q3_1 := Xc.out.cell q0_1; have q3_2 := Xc.out.cell q0_2; have q3_3 := Xc.out.cell q0_3; have q3_4 := Xc.out.cell q0_4; have q3_5 := Xc.out.cell q0_5; clear x)
            | (go_at_call 35; (refine (HLi.out w8 Xc.out).mono ?_); intro e w9 hh; obtain ⟨rfl, h9, b9, k9⟩ := hh; have X9 : Hid (Ext W3 (w8.alloc (.cells #[.string { data := #[99, 114, 111, 115, 115] }, .string NA, .string NB, .string NI] 9))) := Lib.hid (Xc.out.alloc _); have H9 := Lib.hid (And.intro h9 b9); have z9 := k9.b5 (HB3.out.ext X9.out) HBn.out (by decide); obtain ⟨q4_1, q4_2, q4_3, q4_4, q4_5⟩ := z9.at; clear z9; simp only [Nat.zero_add] at q4_2 q4_3 q4_4 q4_5; clear h9 b9 k9))
          have HN5 := Lib.hid (show Ext w1 w9 ∧ SB b b w9 (T1 ++ crP f.cr (k + 1)) ∧ (T1 ++ crP f.cr (k + 1)).length ≤ bd (100000 + (k + 1)) from ⟨Hbe.out _ ((Hbb.out _ (X3.out.trans X9.out)).trans H9.out.2), H9.out.1, HCr.out⟩)
          clear q0_1 q0_2 q0_3 q0_4 q0_5 q1_1 q1_2 q1_3 q1_4 q1_5 q2_1 q2_2 q2_3 q2_4 q2_5 q3_1 q3_2 q3_3 q3_4 q3_5 q4_1 q4_2 q4_3 q4_4 q4_5
          go_wp2
          go_roundg (cn - (k + 1))
          case measure => omega
          case rel => exact ⟨k + 1, by omega, by go_num, HN5⟩
        · obtain rfl : k = cn := by omega
          have e1 : ¬ (k : Int) < k := by omega
          obtain ⟨T2, hT2⟩ : ∃ T2, T2 = T1 ++ crP f.cr k := ⟨_, rfl⟩
          have HT2 := Lib.hid hT2
          have HG2 := Lib.hid (show Ext w1 wr ∧ SB b b wr T2 ∧ T2.length ≤ bd (100000 + k) from ⟨G3.out.1, by rw [hT2]; exact G3.out.2.1, by rw [hT2]; exact G3.out.2.2⟩)
          have HRw := Lib.hid (show R = T2 ++ nmsT heldW f.held ++ nmsT fallenW f.fallen by rw [HRv.out, hT2])
          have cb2 := ((HB.out.ext Y1.out).ext G3.out.1).c2
          obtain ⟨T3, hT3⟩ : ∃ T3, T3 = T2 ++ nmsT heldW f.held := ⟨_, rfl⟩
          have HT3 := Lib.hid hT3
          clear hT2 hT3
          go_upto_if 64 with fail
          go_cut [] from 61 to 79 (fun wx => Hid (Ext w1 wx ∧ SB b b wx T3 ∧ T3.length ≤ bd (100000 + k + 1)))
          case first =>
            by_cases hN0 : 0 < hn
            · have e1' : (0 : Int) < hn := by omega
              have hne : f.held ≠ [] := fun e => by have := HN.out.2.1; rw [e] at this; simp at this; omega
              have hEq : T3 = T2 ++ lineT (heldW :: f.held.map nameT) := by rw [HT3.out]; unfold nmsT; rw [if_neg hne]
              have hnl := names_le (word := heldW) (l := f.held) (by simp [heldW, fallenW]) HIn.out.held HIn.out.n1
              have HEq := Lib.hid hEq; have HNl := Lib.hid hnl
              have cbx := ((HB.out.ext Y1.out).ext HG2.out.1).c2
              clear hne hEq hnl hN0
              go_wp2_with fail
              clear cbx
              refine (HHe.out wr (X1.out.trans HG2.out.1)).mono ?_
              rintro e w4 ⟨v, rfl, hso, x4⟩
              obtain ⟨cD, hcD⟩ := hso.ck
              have X4 := Lib.hid (HG2.out.1.trans x4)
              have HLi := Lib.hid (Line_calls b b T2 v cD (heldW :: f.held.map nameT) w4 hcD (HG2.out.2.1.ext x4) (by simp) (by rw [List.length_cons, List.length_map]; have := HIn.out.n1; omega) HNl.out (bd_max HG2.out.2.2 (by omega)) (by have := X4.out.size; have := Hb.out; omega))
              obtain ⟨aD, nD, rfl, hnD⟩ : ∃ aD nD, v = .slice aD nD cD ∧ nD = nD := by obtain ⟨ao, e1, _⟩ := hcD; exact ⟨ao, _, e1, rfl⟩
              clear hso hcD x4 hnD
              go_wp2_with fail
              refine HLi.out.mono ?_
              rintro e w5 ⟨rfl, h5, b5, _⟩
              have HNx := Lib.hid (show Ext w1 w5 ∧ SB b b w5 T3 ∧ T3.length ≤ bd (100000 + k + 1) from ⟨Hbe.out _ ((Hbb.out _ X4.out).trans b5), by rw [HEq.out]; exact h5, by rw [HEq.out, List.length_append]; exact bd_step HG2.out.2.2 HNl.out⟩)
              clear h5 b5
              go_wp2_with fail
              go_meet
              case rel => exact HNx
            · have e1' : ¬ (0 : Int) < hn := by omega
              have hEq : T3 = T2 := by rw [HT3.out]; unfold nmsT; rw [if_pos (List.eq_nil_of_length_eq_zero (by have := HN.out.2.1; omega)), List.append_nil]
              have HNx := Lib.hid (show Ext w1 wr ∧ SB b b wr T3 ∧ T3.length ≤ bd (100000 + k + 1) from ⟨HG2.out.1, by rw [hEq]; exact HG2.out.2.1, by rw [hEq]; exact bd_le HG2.out.2.2 (by omega)⟩)
              clear hEq hN0
              go_wp2_with fail
              go_meet
              case rel => exact HNx
          case rest =>
            have HG3 := hcut
            clear hcut cb2
            obtain ⟨wd, hwd⟩ : ∃ wd, wd = wc := ⟨_, rfl⟩
            subst hwd
            have cb3 := ((HB.out.ext Y1.out).ext HG3.out.1).c3
            obtain ⟨T4, hT4⟩ : ∃ T4, T4 = T3 ++ nmsT fallenW f.fallen := ⟨_, rfl⟩
            have HT4 := Lib.hid hT4
            clear hT4
            go_upto_if 73 with fail
            go_cut [] from 61 to 79 (fun wx => Hid (Ext w1 wx ∧ SB b b wx T4 ∧ T4.length ≤ bd (100000 + k + 1 + 1)))
            case first =>
              by_cases hN0 : 0 < fn
              · have e1' : (0 : Int) < fn := by omega
                have hne : f.fallen ≠ [] := fun e => by have := HN.out.2.2; rw [e] at this; simp at this; omega
                have hEq : T4 = T3 ++ lineT (fallenW :: f.fallen.map nameT) := by rw [HT4.out]; unfold nmsT; rw [if_neg hne]
                have hnl := names_le (word := fallenW) (l := f.fallen) (by simp [heldW, fallenW]) HIn.out.fallen HIn.out.n2
                have HEq := Lib.hid hEq; have HNl := Lib.hid hnl
                have cbx := ((HB.out.ext Y1.out).ext HG3.out.1).c3
                clear hne hEq hnl hN0
                go_wp2_with fail
                clear cbx
                refine (HFa.out wd (X1.out.trans HG3.out.1)).mono ?_
                rintro e w4 ⟨v, rfl, hso, x4⟩
                obtain ⟨cD, hcD⟩ := hso.ck
                have X4 := Lib.hid (HG3.out.1.trans x4)
                have HLi := Lib.hid (Line_calls b b T3 v cD (fallenW :: f.fallen.map nameT) w4 hcD (HG3.out.2.1.ext x4) (by simp) (by rw [List.length_cons, List.length_map]; have := HIn.out.n2; omega) HNl.out (bd_max HG3.out.2.2 (by omega)) (by have := X4.out.size; have := Hb.out; omega))
                obtain ⟨aD, nD, rfl, hnD⟩ : ∃ aD nD, v = .slice aD nD cD ∧ nD = nD := by obtain ⟨ao, e1, _⟩ := hcD; exact ⟨ao, _, e1, rfl⟩
                clear hso hcD x4 hnD
                go_wp2_with fail
                refine HLi.out.mono ?_
                rintro e w5 ⟨rfl, h5, b5, _⟩
                have HNx := Lib.hid (show Ext w1 w5 ∧ SB b b w5 T4 ∧ T4.length ≤ bd (100000 + k + 1 + 1) from ⟨Hbe.out _ ((Hbb.out _ X4.out).trans b5), by rw [HEq.out]; exact h5, by rw [HEq.out, List.length_append]; exact bd_step HG3.out.2.2 HNl.out⟩)
                clear h5 b5
                go_wp2_with fail
                go_meet
                case rel => exact HNx
              · have e1' : ¬ (0 : Int) < fn := by omega
                have hEq : T4 = T3 := by rw [HT4.out]; unfold nmsT; rw [if_pos (List.eq_nil_of_length_eq_zero (by have := HN.out.2.2; omega)), List.append_nil]
                have HNx := Lib.hid (show Ext w1 wd ∧ SB b b wd T4 ∧ T4.length ≤ bd (100000 + k + 1 + 1) from ⟨HG3.out.1, by rw [hEq]; exact HG3.out.2.1, by rw [hEq]; exact bd_le HG3.out.2.2 (by omega)⟩)
                clear hEq hN0
                go_wp2_with fail
                go_meet
                case rel => exact HNx
            case rest =>
              have HG4 := hcut
              clear hcut cb3
              have HRx := Lib.hid (show R = T4 by rw [HRw.out, HT4.out, HT3.out])
              have HSt := Lib.hid (Tryd.Builder_String_any b b T4 wc HG4.out.2.1 (by have := HG4.out.1.size; have := Hb.out; omega))
              go_wp2_with fail
              refine HSt.out.mono ?_
              rintro e w9 ⟨rfl, b9⟩
              have X9 := Lib.hid (Hbe.out _ ((Hbb.out _ HG4.out.1).trans b9))
              clear b9
              go_wp2
              go_ret
              exact ⟨by rw [HRx.out]; rfl, X1.out.trans X9.out⟩
end Go.Proofs.YtlhkehfplcclgaaDoor
