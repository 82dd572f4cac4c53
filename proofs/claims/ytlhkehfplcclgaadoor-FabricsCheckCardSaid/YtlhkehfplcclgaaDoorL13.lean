/- Texts of this claim in one file: libraries and walks. -/
import Derived.Lib.ItoaMem
import Derived.Test.YtlhkehfplcclgaaDoorL0
import Derived.Test.YtlhkehfplcclgaaDoorL12
/- fabrics.Text: the walk. -/
namespace Go.Proofs.YtlhkehfplcclgaaDoor
set_option linter.unusedVariables false
set_option linter.unusedSimpArgs false
set_option maxRecDepth 8000
open Go Go.RowKit Go.Sort

set_option maxHeartbeats 16000000 in
theorem Text_calls (tv cv hv fv : Value) (f : Fab) (w : World) (h : FB w tv cv hv fv f) (hin : FIn f) (hk : f.ys.length = 6 → OKT f.ys) (ht : PTab w) :
    Calls Tryd.prog 12 #[.agg #[tv, cv, hv, fv]] w fun e w' => e = .returned (.string (bst (textT f))) ∧ Ext w w' := by
  have HCk := Lib.hid (fun w' (x : Ext w w') => Check_calls tv cv hv fv f w' (h.ext x) hin hk)
  obtain ⟨ct, hT⟩ := h.t
  obtain ⟨cc, hC⟩ := h.c
  obtain ⟨ch, hH⟩ := h.h
  obtain ⟨cf, hF⟩ := h.f
  have HHe := Lib.hid (fun w' (x : Ext w w') => Names_calls heldW hv ch f.held w' (hH.ext x) (ht.ext x) hin.held hin.n1)
  have HFa := Lib.hid (fun w' (x : Ext w w') => Names_calls fallenW fv cf f.fallen w' (hF.ext x) (ht.ext x) hin.fallen hin.n2)
  obtain ⟨ca, cn, rfl, o2, _, _, hcat⟩ := hC.open
  obtain ⟨hha, hn, rfl, o3, _, _, _⟩ := hH.open
  obtain ⟨fa, fn, rfl, o4, _, _, _⟩ := hF.open
  obtain ⟨ta, tn, rfl, htn, htc, ht9, htt⟩ := hT.open
  obtain ⟨t, hte⟩ : ∃ t, t = f.ys := ⟨_, rfl⟩
  have tn9 : tn ≤ 100 := by have := hin.n4; omega
  have cn9 : cn ≤ 1000 := by have := hin.n3; omega
  rw [← hte] at htt htn
  have HT := Lib.hid (show ∀ y, y < tn → (∃ b o a m d, ta = some ⟨b, o, none⟩ ∧ w.cell? ⟨b, o + y, none⟩ = some (.slice a m d) ∧ m = (yi t y).length ∧ LR w (.slice a m d) d (yi t y)) ∧ (yi t y).length ≤ 1000 ∧ (∀ l ∈ yi t y, l.In ∧ l.thr.length ≤ 100 ∧ l.past.length ≤ 1000) from fun y hy => ⟨htt y hy, by have := hin.n5; rw [← hte] at this; exact this _ (yi_mem (by omega)), fun l hl => by
    have h1 := hin.ys; have h2 := hin.n6
    rw [← hte] at h1 h2
    exact ⟨h1 _ (yi_mem (by omega)) l hl, h2 _ (yi_mem (by omega)) l hl⟩⟩)
  have Hcat := Lib.hid (fun i (hi : i < cn) => (⟨hcat i hi, hin.cr _ (xi_mem (by omega))⟩ : (∃ b o, ca = some ⟨b, o, none⟩ ∧ At5 w b (o + i * 5) (xi f.cr i)) ∧ (xi f.cr i).In))
  obtain ⟨W, hW⟩ : ∃ W, W = w.alloc (.cells #[.slice ta tn ct, .slice ca cn cc, .slice hha hn ch, .slice fa fn cf] 35) := ⟨_, rfl⟩
  have XW := Lib.hid (show Ext w W by rw [hW]; exact (Ext.refl _).alloc _)
  have HB := Lib.hid (show B4 W w.heap.size (.slice ta tn ct) (.slice ca cn cc) (.slice hha hn ch) (.slice fa fn cf) 35 by rw [hW]; exact B4.new _ _ _ _ _ _)
  obtain ⟨R, hR⟩ : ∃ R, R = textT f := ⟨_, rfl⟩
  rw [← hR]
  have HR := Lib.hid hR; have HW := Lib.hid hW; have Hte := Lib.hid hte; have Htn := Lib.hid htn; have HIn := Lib.hid hin; have HPt := Lib.hid ht
  have HN := Lib.hid (And.intro o2 (And.intro o3 o4))
  have p0 := HB.out.c0; have p1 := HB.out.c1; have p2 := HB.out.c2; have p3 := HB.out.c3
  rw [hW] at p0 p1 p2 p3
  clear h hin hk ht hT hC hH hF hcat htt htn hte hW hR o2 o3 o4
  go_enter Tryd.func12, Tryd.ntmps12
  go_wp2_with fail
  rw [← HW.out]
  clear p0 p1 p2 p3
  refine (HCk.out W XW.out).mono ?_
  rintro e w1 ⟨rfl, x1⟩
  have X1 := Lib.hid (XW.out.trans x1)
  have Y1 := Lib.hid x1
  clear x1
  obtain ⟨E, hE⟩ : ∃ E, E = fchk f := ⟨_, rfl⟩
  rw [← hE]
  have HE := Lib.hid hE
  clear hE
  by_cases hE0 : E = 0
  case neg =>
    have q1 : (E != 0) = true := by rw [bne, beq_eq_false_iff_ne.2 hE0]; rfl
    have HRv := Lib.hid (show R = [] by rw [HR.out]; unfold textT; rw [if_neg (by rw [← HE.out]; exact hE0)])
    clear hE0
    go_wp2
    go_ret
    exact ⟨by rw [HRv.out]; rfl, X1.out⟩
  have q1 : (E != 0) = false := by rw [hE0]; rfl
  have HRv := Lib.hid (show R = tabP t tn ++ crP f.cr cn ++ nmsT heldW f.held ++ nmsT fallenW f.fallen by rw [HR.out]; unfold textT; rw [if_pos (by rw [← HE.out]; exact hE0)]; unfold textB; rw [← Hte.out, ← Htn.out, ← HN.out.1])
  clear hE0 HE HR
  obtain ⟨b, hb⟩ : ∃ b, b = w1.heap.size := ⟨_, rfl⟩
  obtain ⟨W2, hW2⟩ : ∃ W2, W2 = w1.alloc (.cells #[.pointer none, .slice none 0 0] 86) := ⟨_, rfl⟩
  have S0 := Lib.hid (show Ext w1 W2 ∧ SB b b W2 (tabP t 0) ∧ (tabP t 0).length ≤ bd (0 * 1000) from ⟨by rw [hW2]; exact (Ext.refl _).alloc _, by rw [hW2, hb]; exact SB.new w1, by unfold tabP; simp⟩)
  have cb0 := cell_alloc (HB.out.ext Y1.out).c0 (.cells #[.pointer none, .slice none 0 0] 86)
  have cl0 : w.heap.size < w1.heap.size := (HB.out.ext Y1.out).lt
  have HW2 := Lib.hid hW2; have Hb := Lib.hid hb
  have hbb : ∀ {w'}, Ext w1 w' → Below b w1 w' := fun x => by rw [hb]; exact x
  have Hbb := Lib.hid (show ∀ w', Ext w1 w' → Below b w1 w' from fun w' x => hbb x)
  have Hbe := Lib.hid (show ∀ w', Below b w1 w' → Ext w1 w' from fun w' x => by rw [hb] at x; exact x)
  clear hW2 hb hbb
  go_wp2
  rw [← HW2.out, ← Hb.out]
  clear cb0 cl0
  go_loopg [5, 6, 7, 8, 18] tn (fun gk _ _ _ _ i wr => ∃ y : Nat, y + gk = tn ∧ i = .int .i64 y ∧ Hid (Ext w1 wr ∧ SB b b wr (tabP t y) ∧ (tabP t y).length ≤ bd (y * 1000)))
  case atStart => exact ⟨0, by omega, rfl, S0⟩
  case round =>
    obtain ⟨y, hyg, rfl, G⟩ := hrel
    by_cases hyt : y < tn
    · obtain ⟨⟨b1, o1, ra, rm, rd, rfl, hc, hrm, hLR⟩, hr9, hrr⟩ := HT.out y hyt
      have f1 : (y : Int) < tn := by omega
      have f2 : (0 : Int) ≤ y := by omega
      have cr := G.out.1.cell (X1.out.cell hc)
      have rm9 : rm ≤ 1000 := by omega
      obtain ⟨RW, hRW⟩ : ∃ RW, RW = yi t y := ⟨_, rfl⟩
      rw [← hRW] at hLR hrr hrm
      have HLo := Lib.hid (show ∀ i, i < rm → (∃ b o a1 n1 d1 a2 n2 d2, ra = some ⟨b, o, none⟩ ∧ AtL w b (o + i * 4) (li RW i) (.slice a1 n1 d1) (.slice a2 n2 d2) ∧ NL w (.slice a1 n1 d1) d1 (li RW i).thr ∧ PL w (.slice a2 n2 d2) d2 (li RW i).past) ∧ (li RW i).In ∧ (li RW i).thr.length ≤ 100 ∧ (li RW i).past.length ≤ 1000 from fun i hi => by
        obtain ⟨a', n', e, hn', _, _, hat⟩ := hLR.open
        have e2 : ra = a' ∧ rm = n' := by simpa using e
        obtain ⟨b, o, a1, n1, d1, a2, n2, d2, h1, h2, _, _, h3, h4⟩ := hat i (by omega)
        exact ⟨⟨b, o, a1, n1, d1, a2, n2, d2, by rw [e2.1]; exact h1, h2, h3, h4⟩, hrr _ (li_mem (by omega))⟩)
      obtain ⟨T0, hT0⟩ : ∃ T0, T0 = tabP t y := ⟨_, rfl⟩
      have HTs := Lib.hid (show tabP t (y + 1) = T0 ++ rowP y RW rm by rw [tabP_succ, hT0, ← hRW, hrm]; rfl)
      have GI := Lib.hid (show Ext w1 wr ∧ SB b b wr (T0 ++ rowP y RW 0) ∧ (T0 ++ rowP y RW 0).length ≤ bd (y * 1000 + 0) from ⟨G.out.1, by rw [show rowP y RW 0 = [] from rfl, List.append_nil, hT0]; exact G.out.2.1, by rw [show rowP y RW 0 = [] from rfl, List.append_nil, hT0]; exact G.out.2.2⟩)
      clear hc hrm hLR hr9 hrr hRW hT0
      go_wp2
      obtain ⟨wo, hwo⟩ : ∃ wo, wo = wr := ⟨_, rfl⟩
      subst hwo
      clear cr
      go_loopg [7, 8, 25] rm (fun gk _ _ i wq => ∃ n : Nat, n + gk = rm ∧ i = .int .i64 n ∧ Hid (Ext w1 wq ∧ SB b b wq (T0 ++ rowP y RW n) ∧ (T0 ++ rowP y RW n).length ≤ bd (y * 1000 + n)))
      case atStart => exact ⟨0, by omega, rfl, GI⟩
      case round =>
        obtain ⟨n, hng, rfl, G2⟩ := hrel
        by_cases hnt : n < rm
        · obtain ⟨⟨b2, o2, a1, n1, d1, a2, n2, d2, rfl, hAL, hNL, hPL⟩, hlI, hl1, hl2⟩ := HLo.out n hnt
          have i1 : (n : Int) < rm := by omega
          have i2 : (0 : Int) ≤ n := by omega
          obtain ⟨x0, x1, x2, x3⟩ := hAL.ext (X1.out.trans G2.out.1)
          have hsucc := rowP_succ y RW n
          obtain ⟨l, hl⟩ : ∃ l, l = li RW n := ⟨_, rfl⟩
          rw [← hl] at x0 x1 hNL hPL hlI hl1 hl2 hsucc
          obtain ⟨W3, hW3⟩ : ∃ W3, W3 = wr.alloc (.cells #[.int .u8 l.bed, .bool l.new, .slice a1 n1 d1, .slice a2 n2 d2] 46) := ⟨_, rfl⟩
          have z3 : Ext wr W3 := by rw [hW3]; exact (Ext.refl _).alloc _
          have X3 := Lib.hid (G2.out.1.trans z3)
          have Z3 := Lib.hid z3
          have haI : (⟨(y : Int) + 1, (n : Nat)⟩ : Nm).In := ⟨⟨by dsimp only; omega, by dsimp only; omega⟩, by dsimp only; omega, by dsimp only; omega⟩
          have hde := desc_le haI hlI hl1 hl2
          have HDe := Lib.hid (show ∀ w', Ext w w' → Calls Tryd.prog 39 #[.agg #[.int .u8 ((y : Int) + 1), .int .i64 (n : Int)], .agg #[.int .u8 l.bed, .bool l.new, .slice a1 n1 d1, .slice a2 n2 d2]] w' (RetS w' (descT ⟨(y : Int) + 1, (n : Nat)⟩ l)) from fun w' x => Desc_calls ⟨(y : Int) + 1, (n : Nat)⟩ l _ _ d1 d2 w' (hNL.ext x) (hPL.ext x) (HPt.out.ext x) haI hlI (by omega) hl2)
          obtain ⟨D, hD⟩ : ∃ D, D = descT ⟨(y : Int) + 1, (n : Nat)⟩ l := ⟨_, rfl⟩
          rw [← hD] at HDe hde hsucc
          have HSu := Lib.hid hsucc; have HDl := Lib.hid hde
          have t1 : IntKind.i64.wrap ((y : Int) + 1) = (y : Int) + 1 := IntWalk.i64_in _ ⟨by omega, by omega⟩
          have t2 : IntKind.u8.wrap ((y : Int) + 1) = (y : Int) + 1 := IntWalk.u8_in _ ⟨by omega, by omega⟩
          have HW3 := Lib.hid hW3
          clear hAL hNL hPL hlI hl1 hl2 hsucc hl hW3 z3 haI hde hD
          go_wp2_with fail
          rw [← HW3.out]
          clear x0 x1 x2 x3
          refine (HDe.out W3 (X1.out.trans X3.out)).mono ?_
          rintro e w4 ⟨v, rfl, hso, x4⟩
          obtain ⟨cD, hcD⟩ := hso.ck
          have X4 := Lib.hid (X3.out.trans x4)
          have hLen : (T0 ++ rowP y RW n).length ≤ 100000000000 := bd_max G2.out.2.2 (by omega)
          have HLi := Lib.hid (Line_calls b b (T0 ++ rowP y RW n) v cD D w4 hcD ((G2.out.2.1.ext Z3.out).ext x4) HDl.out.2.1 (by have := HDl.out.1; omega) HDl.out.2.2 hLen (by have := X4.out.size; have := Hb.out; omega))
          obtain ⟨aD, nD, rfl, hnD⟩ : ∃ aD nD, v = .slice aD nD cD ∧ nD = nD := by obtain ⟨ao, e1, _⟩ := hcD; exact ⟨ao, _, e1, rfl⟩
          clear hso hcD x4 hLen hnD
          go_wp2_with fail
          refine HLi.out.mono ?_
          rintro e w5 ⟨rfl, h5, b5, _⟩
          have HN5 := Lib.hid (show Ext w1 w5 ∧ SB b b w5 (T0 ++ rowP y RW (n + 1)) ∧ (T0 ++ rowP y RW (n + 1)).length ≤ bd (y * 1000 + (n + 1)) from ⟨Hbe.out _ ((Hbb.out _ X4.out).trans b5), by rw [HSu.out, ← List.append_assoc]; exact h5, by
            rw [HSu.out, ← List.append_assoc, List.length_append]
            exact bd_step G2.out.2.2 HDl.out.2.2⟩)
          clear h5 b5
          go_wp2
          go_roundg (rm - (n + 1))
          case measure => omega
          case rel => exact ⟨n + 1, by omega, by go_num, HN5⟩
        · obtain rfl : n = rm := by omega
          have i1 : ¬ (n : Int) < n := by omega
          have HN5 := Lib.hid (show Ext w1 wr ∧ SB b b wr (tabP t (y + 1)) ∧ (tabP t (y + 1)).length ≤ bd ((y + 1) * 1000) from ⟨G2.out.1, by rw [HTs.out]; exact G2.out.2.1, by
            rw [HTs.out]
            exact bd_le G2.out.2.2 (by omega)⟩)
          go_wp2
          go_roundg (tn - (y + 1))
          case measure => omega
          case rel => exact ⟨y + 1, by omega, by go_num, HN5⟩
    · obtain rfl : y = tn := by omega
      have f1 : ¬ (y : Int) < y := by omega
      have cb1 := ((HB.out.ext Y1.out).ext G.out.1).c1
      obtain ⟨T1, hT1⟩ : ∃ T1, T1 = tabP t y := ⟨_, rfl⟩
      have hT1l : T1.length ≤ bd (100000 + 0) := by rw [hT1]; exact bd_le G.out.2.2 (by omega)
      have GI := Lib.hid (show Ext w1 wr ∧ SB b b wr (T1 ++ crP f.cr 0) ∧ (T1 ++ crP f.cr 0).length ≤ bd (100000 + 0) from ⟨G.out.1, by rw [show crP f.cr 0 = [] from rfl, List.append_nil, hT1]; exact G.out.2.1, by rw [show crP f.cr 0 = [] from rfl, List.append_nil]; exact hT1l⟩)
      rw [← hT1] at HRv
      clear hT1 hT1l
      go_wp2
      obtain ⟨wo, hwo⟩ : ∃ wo, wo = wr := ⟨_, rfl⟩
      subst hwo
      clear cb1
      go_loopg [10, 44] cn (fun gk _ i wr => ∃ k : Nat, k + gk = cn ∧ i = .int .i64 k ∧ Hid (Ext w1 wr ∧ SB b b wr (T1 ++ crP f.cr k) ∧ (T1 ++ crP f.cr k).length ≤ bd (100000 + k)))
      case atStart => exact ⟨0, by omega, rfl, GI⟩
      case round =>
        obtain ⟨k, hk, rfl, G3⟩ := hrel
        by_cases hkt : k < cn
        · obtain ⟨⟨b', o', rfl, hA5⟩, hcI⟩ := Hcat.out k hkt
          have e1 : (k : Int) < cn := by omega
          have e2 : (0 : Int) ≤ k := by omega
          obtain ⟨c0, c1, c2, c3, c4⟩ := hA5.ext (X1.out.trans G3.out.1)
          have hsucc := crP_succ (cr := f.cr) (k := k) (by rw [← HN.out.1]; exact hkt)
          obtain ⟨c, hc⟩ : ∃ c, c = xi f.cr k := ⟨_, rfl⟩
          rw [← hc] at c0 c1 c2 c3 c4 hcI hsucc
          obtain ⟨W3, hW3⟩ : ∃ W3, W3 = wr.alloc (.cells #[.int .u8 c.a.y, .int .i64 c.a.n, .int .u8 c.b.y, .int .i64 c.b.n, .int .i64 c.n] 52) := ⟨_, rfl⟩
          have z3 : Ext wr W3 := by rw [hW3]; exact (Ext.refl _).alloc _
          have X3 := Lib.hid (G3.out.1.trans z3)
          have HB3 := Lib.hid (show B5 W3 wr.heap.size c 52 by rw [hW3]; exact B5.new wr c _)
          have Z3 := Lib.hid z3
          have hcl := cr_le hcI
          have HNa := Lib.hid (show ∀ w', Ext w w' → Calls Tryd.prog 40 #[.agg #[.int .u8 c.a.y, .int .i64 c.a.n]] w' fun e w'' => e = .returned (.string (bst (nameT c.a))) ∧ Ext w' w'' from fun w' x => Name_calls c.a w' (HPt.out.ext x) hcI.1)
          have HNb := Lib.hid (show ∀ w', Ext w w' → Calls Tryd.prog 40 #[.agg #[.int .u8 c.b.y, .int .i64 c.b.n]] w' fun e w'' => e = .returned (.string (bst (nameT c.b))) ∧ Ext w' w'' from fun w' x => Name_calls c.b w' (HPt.out.ext x) hcI.2.1)
          have HNi := Lib.hid (show ∀ w', Ext w w' → Calls Tryd.prog 41 #[.int .i64 c.n] w' fun e w'' => e = .returned (.string (bst (Lib.itoa c.n))) ∧ Ext w' w'' from fun w' x => Itoa_calls c.n hcI.2.2 w' (HPt.out.ext x))
          obtain ⟨q0_1, q0_2, q0_3, q0_4, q0_5⟩ := HB3.out.at
          simp only [Nat.zero_add] at q0_2 q0_3 q0_4 q0_5
          have HW3 := Lib.hid hW3; have HSu := Lib.hid hsucc; have HCl := Lib.hid hcl
          have hLen : (T1 ++ crP f.cr k).length ≤ 100000000000 := bd_max G3.out.2.2 (by omega)
          have hbne : wr.heap.size ≠ b := by have := bld_lt (show Lib.IsBuilder _ _ b b _ wr from G3.out.2.1); omega
          have HLi := Lib.hid (show ∀ w8, Ext W3 w8 → Calls Tryd.prog 35 #[.slice (some ⟨w8.heap.size, 0, none⟩) 4 4, .pointer (some ⟨b, 0, none⟩)] (w8.alloc (.cells #[.string { data := #[99, 114, 111, 115, 115] }, .string (bst (nameT c.a)), .string (bst (nameT c.b)), .string (bst (Lib.itoa c.n))] 9)) fun e w' => e = .returned (.tuple #[]) ∧ SB b b w' (T1 ++ crP f.cr (k + 1)) ∧ Below b (w8.alloc (.cells #[.string { data := #[99, 114, 111, 115, 115] }, .string (bst (nameT c.a)), .string (bst (nameT c.b)), .string (bst (Lib.itoa c.n))] 9)) w' ∧ KeptBut b (w8.alloc (.cells #[.string { data := #[99, 114, 111, 115, 115] }, .string (bst (nameT c.a)), .string (bst (nameT c.b)), .string (bst (Lib.itoa c.n))] 9)) w' from fun w8 x8 => by
            have hso : SO w8.heap.size (w8.alloc (.cells #[.string { data := #[99, 114, 111, 115, 115] }, .string (bst (nameT c.a)), .string (bst (nameT c.b)), .string (bst (Lib.itoa c.n))] 9)) (.slice (some ⟨w8.heap.size, 0, none⟩) 4 4) (crW c) := SO.new w8 (crW c) (by have : (crW c).length = 4 := rfl; omega)
            have hck : CK 1 (w8.alloc (.cells #[.string { data := #[99, 114, 111, 115, 115] }, .string (bst (nameT c.a)), .string (bst (nameT c.b)), .string (bst (Lib.itoa c.n))] 9)) (.slice (some ⟨w8.heap.size, 0, none⟩) 4 4) 4 ((crW c).map sc) := CK.of_blk (Deep.blk_alloc_new _ _) (Ks.sc _) rfl (Nat.le_refl _) (by omega) rfl
            rw [HSu.out, ← List.append_assoc]
            exact Line_calls b b (T1 ++ crP f.cr k) _ 4 (crW c) _ hck (((G3.out.2.1.ext Z3.out).ext x8).ext ((Ext.refl _).alloc _)) (by simp [crW]) (by simp [crW]) HCl.out hLen (by have h1 := X3.out.size; have h2 := x8.size; have h3 := Hb.out; simp; omega))
          have HCr := Lib.hid (show (T1 ++ crP f.cr (k + 1)).length ≤ bd (100000 + (k + 1)) by
            rw [HSu.out, ← List.append_assoc, List.length_append]
            exact bd_step G3.out.2.2 HCl.out)
          clear hA5 hsucc hc hW3 hcI z3 hcl hLen
          go_wp2
          rw [← HW3.out]
          clear c0 c1 c2 c3 c4
          obtain ⟨NA, hNA⟩ : ∃ NA, NA = bst (nameT c.a) := ⟨_, rfl⟩
          obtain ⟨NB, hNB⟩ : ∃ NB, NB = bst (nameT c.b) := ⟨_, rfl⟩
          obtain ⟨NI, hNI⟩ : ∃ NI, NI = bst (Lib.itoa c.n) := ⟨_, rfl⟩
          rw [← hNA] at HNa HLi; rw [← hNB] at HNb HLi; rw [← hNI] at HNi HLi
          clear hNA hNB hNI
          have HBn := Lib.hid hbne
          clear hbne
          go_region_held3 (fun w' => w'.cell? ⟨wr.heap.size, 0, Option.none⟩ = some (.int .u8 c.a.y) ∧ w'.cell? ⟨wr.heap.size, 1, Option.none⟩ = some (.int .i64 c.a.n) ∧ w'.cell? ⟨wr.heap.size, 2, Option.none⟩ = some (.int .u8 c.b.y) ∧ w'.cell? ⟨wr.heap.size, 3, Option.none⟩ = some (.int .i64 c.b.n) ∧ w'.cell? ⟨wr.heap.size, 4, Option.none⟩ = some (.int .i64 c.n)) (first | (with_reducible exact ⟨q0_1, q0_2, q0_3, q0_4, q0_5⟩) | (with_reducible exact ⟨q1_1, q1_2, q1_3, q1_4, q1_5⟩) | (with_reducible exact ⟨q2_1, q2_2, q2_3, q2_4, q2_5⟩) | (with_reducible exact ⟨q3_1, q3_2, q3_3, q3_4, q3_5⟩) | (with_reducible exact ⟨q4_1, q4_2, q4_3, q4_4, q4_5⟩) | go_keep) (first
            | (go_at_call_of 40 (Value.agg #[.int .u8 c.a.y, .int .i64 c.a.n]); (refine (HNa.out _ ?_).mono ?_); (focus (refine Ext.trans (X1.out.trans X3.out) ?_; (focus (repeat (first | (with_reducible exact Ext.refl _) | (with_reducible apply Ext.drew) | (with_reducible apply Ext.drewN) | (with_reducible apply Ext.alloc)))))); intro e w6 hh; obtain ⟨rfl, x⟩ := hh; have Xa : Hid (Ext W3 w6) := Lib.hid (Ext.trans (by ((repeat (first | (with_reducible exact Ext.refl _) | (with_reducible apply Ext.drew) | (with_reducible apply Ext.drewN) | (with_reducible apply Ext.alloc))); done)) x); have q1_1 := Xa.out.cell q0_1; have q1_2 := Xa.out.cell q0_2; have q1_3 := Xa.out.cell q0_3; have q1_4 := Xa.out.cell q0_4; have q1_5 := Xa.out.cell q0_5; clear x)
            | (go_at_call_of 40 (Value.agg #[.int .u8 c.b.y, .int .i64 c.b.n]); (refine (HNb.out _ ?_).mono ?_); (focus (refine Ext.trans (X1.out.trans (X3.out.trans Xa.out)) ?_; (focus (repeat (first | (with_reducible exact Ext.refl _) | (with_reducible apply Ext.drew) | (with_reducible apply Ext.drewN) | (with_reducible apply Ext.alloc)))))); intro e w7 hh; obtain ⟨rfl, x⟩ := hh; have Xb : Hid (Ext W3 w7) := Lib.hid (Ext.trans Xa.out (Ext.trans (by ((repeat (first | (with_reducible exact Ext.refl _) | (with_reducible apply Ext.drew) | (with_reducible apply Ext.drewN) | (with_reducible apply Ext.alloc))); done)) x)); have q2_1 := Xb.out.cell q0_1; have q2_2 := Xb.out.cell q0_2; have q2_3 := Xb.out.cell q0_3; have q2_4 := Xb.out.cell q0_4; have q2_5 := Xb.out.cell q0_5; clear x)
            | (go_at_call 41; (refine (HNi.out _ ?_).mono ?_); (focus (refine Ext.trans (X1.out.trans (X3.out.trans Xb.out)) ?_; (focus (repeat (first | (with_reducible exact Ext.refl _) | (with_reducible apply Ext.drew) | (with_reducible apply Ext.drewN) | (with_reducible apply Ext.alloc)))))); intro e w8 hh; obtain ⟨rfl, x⟩ := hh; have Xc : Hid (Ext W3 w8) := Lib.hid (Ext.trans Xb.out (Ext.trans (by ((repeat (first | (with_reducible exact Ext.refl _) | (with_reducible apply Ext.drew) | (with_reducible apply Ext.drewN) | (with_reducible apply Ext.alloc))); done)) x)); have q3_1 := Xc.out.cell q0_1; have q3_2 := Xc.out.cell q0_2; have q3_3 := Xc.out.cell q0_3; have q3_4 := Xc.out.cell q0_4; have q3_5 := Xc.out.cell q0_5; clear x)
            | (go_at_call 35; (refine (HLi.out w8 Xc.out).mono ?_); intro e w9 hh; obtain ⟨rfl, h9, b9, k9⟩ := hh; have X9 : Hid (Ext W3 (w8.alloc (.cells #[.string { data := #[99, 114, 111, 115, 115] }, .string NA, .string NB, .string NI] 9))) := Lib.hid (Xc.out.alloc _); have H9 := Lib.hid (And.intro h9 b9); have z9 := k9.b5 (HB3.out.ext X9.out) HBn.out (by decide); obtain ⟨q4_1, q4_2, q4_3, q4_4, q4_5⟩ := z9.at; clear z9; simp only [Nat.zero_add] at q4_2 q4_3 q4_4 q4_5; clear h9 b9 k9))
          have HN5 := Lib.hid (show Ext w1 w9 ∧ SB b b w9 (T1 ++ crP f.cr (k + 1)) ∧ (T1 ++ crP f.cr (k + 1)).length ≤ bd (100000 + (k + 1)) from ⟨Hbe.out _ ((Hbb.out _ (X3.out.trans X9.out)).trans H9.out.2), H9.out.1, HCr.out⟩)
          clear q0_1 q0_2 q0_3 q0_4 q0_5 q1_1 q1_2 q1_3 q1_4 q1_5 q2_1 q2_2 q2_3 q2_4 q2_5 q3_1 q3_2 q3_3 q3_4 q3_5 q4_1 q4_2 q4_3 q4_4 q4_5
          go_wp2
          go_roundg (cn - (k + 1))
          case measure => omega
          case rel => exact ⟨k + 1, by omega, by go_num, HN5⟩
        · obtain rfl : k = cn := by omega
          have e1 : ¬ (k : Int) < k := by omega
          obtain ⟨T2, hT2⟩ : ∃ T2, T2 = T1 ++ crP f.cr k := ⟨_, rfl⟩
          have HT2 := Lib.hid hT2
          have HG2 := Lib.hid (show Ext w1 wr ∧ SB b b wr T2 ∧ T2.length ≤ bd (100000 + k) from ⟨G3.out.1, by rw [hT2]; exact G3.out.2.1, by rw [hT2]; exact G3.out.2.2⟩)
          have HRw := Lib.hid (show R = T2 ++ nmsT heldW f.held ++ nmsT fallenW f.fallen by rw [HRv.out, hT2])
          have cb2 := ((HB.out.ext Y1.out).ext G3.out.1).c2
          obtain ⟨T3, hT3⟩ : ∃ T3, T3 = T2 ++ nmsT heldW f.held := ⟨_, rfl⟩
          have HT3 := Lib.hid hT3
          clear hT2 hT3
          go_upto_if 64 with fail
          go_cut [] from 61 to 79 (fun wx => Hid (Ext w1 wx ∧ SB b b wx T3 ∧ T3.length ≤ bd (100000 + k + 1)))
          case first =>
            by_cases hN0 : 0 < hn
            · have e1' : (0 : Int) < hn := by omega
              have hne : f.held ≠ [] := fun e => by have := HN.out.2.1; rw [e] at this; simp at this; omega
              have hEq : T3 = T2 ++ lineT (heldW :: f.held.map nameT) := by rw [HT3.out]; unfold nmsT; rw [if_neg hne]
              have hnl := names_le (word := heldW) (l := f.held) (by simp [heldW, fallenW]) HIn.out.held HIn.out.n1
              have HEq := Lib.hid hEq; have HNl := Lib.hid hnl
              have cbx := ((HB.out.ext Y1.out).ext HG2.out.1).c2
              clear hne hEq hnl hN0
              go_wp2_with fail
              clear cbx
              refine (HHe.out wr (X1.out.trans HG2.out.1)).mono ?_
              rintro e w4 ⟨v, rfl, hso, x4⟩
              obtain ⟨cD, hcD⟩ := hso.ck
              have X4 := Lib.hid (HG2.out.1.trans x4)
              have HLi := Lib.hid (Line_calls b b T2 v cD (heldW :: f.held.map nameT) w4 hcD (HG2.out.2.1.ext x4) (by simp) (by rw [List.length_cons, List.length_map]; have := HIn.out.n1; omega) HNl.out (bd_max HG2.out.2.2 (by omega)) (by have := X4.out.size; have := Hb.out; omega))
              obtain ⟨aD, nD, rfl, hnD⟩ : ∃ aD nD, v = .slice aD nD cD ∧ nD = nD := by obtain ⟨ao, e1, _⟩ := hcD; exact ⟨ao, _, e1, rfl⟩
              clear hso hcD x4 hnD
              go_wp2_with fail
              refine HLi.out.mono ?_
              rintro e w5 ⟨rfl, h5, b5, _⟩
              have HNx := Lib.hid (show Ext w1 w5 ∧ SB b b w5 T3 ∧ T3.length ≤ bd (100000 + k + 1) from ⟨Hbe.out _ ((Hbb.out _ X4.out).trans b5), by rw [HEq.out]; exact h5, by rw [HEq.out, List.length_append]; exact bd_step HG2.out.2.2 HNl.out⟩)
              clear h5 b5
              go_wp2_with fail
              go_meet
              case rel => exact HNx
            · have e1' : ¬ (0 : Int) < hn := by omega
              have hEq : T3 = T2 := by rw [HT3.out]; unfold nmsT; rw [if_pos (List.eq_nil_of_length_eq_zero (by have := HN.out.2.1; omega)), List.append_nil]
              have HNx := Lib.hid (show Ext w1 wr ∧ SB b b wr T3 ∧ T3.length ≤ bd (100000 + k + 1) from ⟨HG2.out.1, by rw [hEq]; exact HG2.out.2.1, by rw [hEq]; exact bd_le HG2.out.2.2 (by omega)⟩)
              clear hEq hN0
              go_wp2_with fail
              go_meet
              case rel => exact HNx
          case rest =>
            have HG3 := hcut
            clear hcut cb2
            obtain ⟨wd, hwd⟩ : ∃ wd, wd = wc := ⟨_, rfl⟩
            subst hwd
            have cb3 := ((HB.out.ext Y1.out).ext HG3.out.1).c3
            obtain ⟨T4, hT4⟩ : ∃ T4, T4 = T3 ++ nmsT fallenW f.fallen := ⟨_, rfl⟩
            have HT4 := Lib.hid hT4
            clear hT4
            go_upto_if 73 with fail
            go_cut [] from 61 to 79 (fun wx => Hid (Ext w1 wx ∧ SB b b wx T4 ∧ T4.length ≤ bd (100000 + k + 1 + 1)))
            case first =>
              by_cases hN0 : 0 < fn
              · have e1' : (0 : Int) < fn := by omega
                have hne : f.fallen ≠ [] := fun e => by have := HN.out.2.2; rw [e] at this; simp at this; omega
                have hEq : T4 = T3 ++ lineT (fallenW :: f.fallen.map nameT) := by rw [HT4.out]; unfold nmsT; rw [if_neg hne]
                have hnl := names_le (word := fallenW) (l := f.fallen) (by simp [heldW, fallenW]) HIn.out.fallen HIn.out.n2
                have HEq := Lib.hid hEq; have HNl := Lib.hid hnl
                have cbx := ((HB.out.ext Y1.out).ext HG3.out.1).c3
                clear hne hEq hnl hN0
                go_wp2_with fail
                clear cbx
                refine (HFa.out wd (X1.out.trans HG3.out.1)).mono ?_
                rintro e w4 ⟨v, rfl, hso, x4⟩
                obtain ⟨cD, hcD⟩ := hso.ck
                have X4 := Lib.hid (HG3.out.1.trans x4)
                have HLi := Lib.hid (Line_calls b b T3 v cD (fallenW :: f.fallen.map nameT) w4 hcD (HG3.out.2.1.ext x4) (by simp) (by rw [List.length_cons, List.length_map]; have := HIn.out.n2; omega) HNl.out (bd_max HG3.out.2.2 (by omega)) (by have := X4.out.size; have := Hb.out; omega))
                obtain ⟨aD, nD, rfl, hnD⟩ : ∃ aD nD, v = .slice aD nD cD ∧ nD = nD := by obtain ⟨ao, e1, _⟩ := hcD; exact ⟨ao, _, e1, rfl⟩
                clear hso hcD x4 hnD
                go_wp2_with fail
                refine HLi.out.mono ?_
                rintro e w5 ⟨rfl, h5, b5, _⟩
                have HNx := Lib.hid (show Ext w1 w5 ∧ SB b b w5 T4 ∧ T4.length ≤ bd (100000 + k + 1 + 1) from ⟨Hbe.out _ ((Hbb.out _ X4.out).trans b5), by rw [HEq.out]; exact h5, by rw [HEq.out, List.length_append]; exact bd_step HG3.out.2.2 HNl.out⟩)
                clear h5 b5
                go_wp2_with fail
                go_meet
                case rel => exact HNx
              · have e1' : ¬ (0 : Int) < fn := by omega
                have hEq : T4 = T3 := by rw [HT4.out]; unfold nmsT; rw [if_pos (List.eq_nil_of_length_eq_zero (by have := HN.out.2.2; omega)), List.append_nil]
                have HNx := Lib.hid (show Ext w1 wd ∧ SB b b wd T4 ∧ T4.length ≤ bd (100000 + k + 1 + 1) from ⟨HG3.out.1, by rw [hEq]; exact HG3.out.2.1, by rw [hEq]; exact bd_le HG3.out.2.2 (by omega)⟩)
                clear hEq hN0
                go_wp2_with fail
                go_meet
                case rel => exact HNx
            case rest =>
              have HG4 := hcut
              clear hcut cb3
              have HRx := Lib.hid (show R = T4 by rw [HRw.out, HT4.out, HT3.out])
              have HSt := Lib.hid (Tryd.Builder_String_any b b T4 wc HG4.out.2.1 (by have := HG4.out.1.size; have := Hb.out; omega))
              go_wp2_with fail
              refine HSt.out.mono ?_
              rintro e w9 ⟨rfl, b9⟩
              have X9 := Lib.hid (Hbe.out _ ((Hbb.out _ HG4.out.1).trans b9))
              clear b9
              go_wp2
              go_ret
              exact ⟨by rw [HRx.out]; rfl, X1.out.trans X9.out⟩
end Go.Proofs.YtlhkehfplcclgaaDoor
/- The example of the chapter. -/
namespace Go.Proofs.YtlhkehfplcclgaaDoor
set_option linter.unusedVariables false
set_option linter.unusedSimpArgs false
set_option maxRecDepth 8000
open Go Go.RowKit Go.Sort

def exL : List Lp := [⟨0, true, [], []⟩, ⟨0, false, [], []⟩, ⟨1, false, [⟨1, 0⟩], [⟨⟨1, 1⟩, true, 0⟩]⟩]
def exT : Tab := [exL, [], [], [], [], []]
def exF (n : Int) (h fl : List Nm) : Fab := { ys := exT, cr := [⟨⟨1, 1⟩, ⟨1, 2⟩, n⟩], held := h, fallen := fl }
/-- The example's table and crossing in memory. -/
structure ExM (w : World) (t0 r0 u0 p0 c0 : Nat) (n : Int) : Prop where
  t : w.heap[t0]? = some (.cells #[.slice (some ⟨r0, 0, none⟩) 3 3, .slice none 0 0, .slice none 0 0, .slice none 0 0, .slice none 0 0, .slice none 0 0] 47 (0, 0))
  r : w.heap[r0]? = some (.cells #[.int .u8 0, .bool true, .slice none 0 0, .slice none 0 0, .int .u8 0, .bool false, .slice none 0 0, .slice none 0 0, .int .u8 1, .bool false, .slice (some ⟨u0, 0, none⟩) 1 1, .slice (some ⟨p0, 0, none⟩) 1 1] 46 (0, 0))
  u : w.heap[u0]? = some (.cells #[.int .u8 1, .int .i64 0] 41 (0, 0))
  p : w.heap[p0]? = some (.cells #[.int .u8 1, .int .i64 1, .bool true, .int .u8 0] 50 (0, 0))
  c : w.heap[c0]? = some (.cells #[.int .u8 1, .int .i64 1, .int .u8 1, .int .i64 2, .int .i64 n] 52 (0, 0))
theorem ExM.ext {w w' : World} {t0 r0 u0 p0 c0 : Nat} {n : Int} (h : ExM w t0 r0 u0 p0 c0 n) (x : Ext w w') : ExM w' t0 r0 u0 p0 c0 n := ⟨x.block h.t, x.block h.r, x.block h.u, x.block h.p, x.block h.c⟩
theorem ExM.set {w : World} {t0 r0 u0 p0 c0 : Nat} {n : Int} (h : ExM w t0 r0 u0 p0 c0 n) (m : Int) : ExM (w.setCell ⟨c0, 4, none⟩ (.int .i64 m)) t0 r0 u0 p0 c0 m := by
  have hne : ∀ {g : Nat} {o : Array Value} {t : TypeId}, w.heap[g]? = some (.cells o t (0, 0)) → t ≠ 52 → g ≠ c0 := fun hg ht e => by
    rw [e, h.c] at hg
    cases hg
    exact ht rfl
  refine ⟨?_, ?_, ?_, ?_, ?_⟩
  · rw [Below.heap_setCell _ _ _ _ (hne h.t (by decide))]; exact h.t
  · rw [Below.heap_setCell _ _ _ _ (hne h.r (by decide))]; exact h.r
  · rw [Below.heap_setCell _ _ _ _ (hne h.u (by decide))]; exact h.u
  · rw [Below.heap_setCell _ _ _ _ (hne h.p (by decide))]; exact h.p
  · have := h.c; simp [World.setCell, Array.getElem?_modify, this]
theorem ExM.tb {w : World} {t0 r0 u0 p0 c0 : Nat} {n : Int} (h : ExM w t0 r0 u0 p0 c0 n) : TB w (.slice (some ⟨t0, 0, none⟩) 6 6) 6 exT := by
  have hu : NL w (.slice (some ⟨u0, 0, none⟩) 1 1) 1 [⟨1, 0⟩] := CK.of_blk h.u (Ks.nm [⟨1, 0⟩]) rfl (Nat.le_refl _) (by omega) rfl
  have hp : PL w (.slice (some ⟨p0, 0, none⟩) 1 1) 1 [⟨⟨1, 1⟩, true, 0⟩] := CK.of_blk h.p (Ks.ps [⟨⟨1, 1⟩, true, 0⟩]) rfl (Nat.le_refl _) (by omega) rfl
  obtain ⟨us, hus⟩ : ∃ us : Nat → Value, us = fun i => if i = 2 then .slice (some ⟨u0, 0, none⟩) 1 1 else .slice none 0 0 := ⟨_, rfl⟩
  obtain ⟨vs, hvs⟩ : ∃ vs : Nat → Value, vs = fun i => if i = 2 then .slice (some ⟨p0, 0, none⟩) 1 1 else .slice none 0 0 := ⟨_, rfl⟩
  have hlr : LR w (.slice (some ⟨r0, 0, none⟩) 3 3) 3 exL := by
    refine ⟨us, vs, ?_, fun i hi => ?_⟩
    · have hk : Ks 4 (cL exL us vs) := cL_ks fun i hi => by
        rw [hus, hvs]; dsimp only
        by_cases e : i = 2
        · rw [if_pos e, if_pos e]; exact ⟨rfl, rfl⟩
        · rw [if_neg e, if_neg e]; exact ⟨rfl, rfl⟩
      exact CK.of_blk h.r hk rfl (Nat.le_refl _) (by omega) (by rw [hus, hvs]; rfl)
    · rw [hus, hvs]
      have hi' : i < 3 := hi
      rcases (show i = 0 ∨ i = 1 ∨ i = 2 by omega) with rfl | rfl | rfl
      · exact ⟨⟨0, NL.nil w⟩, 0, PL.nil w⟩
      · exact ⟨⟨0, NL.nil w⟩, 0, PL.nil w⟩
      · exact ⟨⟨1, hu⟩, 1, hp⟩
  obtain ⟨ts, hts⟩ : ∃ ts : Nat → Value, ts = fun i => if i = 0 then .slice (some ⟨r0, 0, none⟩) 3 3 else .slice none 0 0 := ⟨_, rfl⟩
  refine ⟨ts, ?_, fun i hi => ?_⟩
  · have hk : Ks 1 ((List.range exT.length).map fun i => [ts i]) := fun x hx => by
      obtain ⟨i, _, rfl⟩ := List.mem_map.1 hx
      refine ⟨rfl, fun v hv => ?_⟩
      rw [List.mem_singleton.1 hv, hts]; dsimp only
      by_cases e : i = 0
      · rw [if_pos e]; rfl
      · rw [if_neg e]; rfl
    exact CK.of_blk h.t hk rfl (Nat.le_refl _) (by omega) (by rw [hts]; rfl)
  · rw [hts]
    have hi' : i < 6 := hi
    rcases (show i = 0 ∨ i = 1 ∨ i = 2 ∨ i = 3 ∨ i = 4 ∨ i = 5 by omega) with rfl | rfl | rfl | rfl | rfl | rfl
    · exact ⟨3, hlr⟩
    all_goals exact ⟨0, LR.nil w⟩
theorem ExM.xl {w : World} {t0 r0 u0 p0 c0 : Nat} {n : Int} (h : ExM w t0 r0 u0 p0 c0 n) : XL w (.slice (some ⟨c0, 0, none⟩) 1 1) 1 [⟨⟨1, 1⟩, ⟨1, 2⟩, n⟩] := CK.of_blk h.c (Ks.xg [⟨⟨1, 1⟩, ⟨1, 2⟩, n⟩]) rfl (Nat.le_refl _) (by omega) rfl
theorem ExM.fb {w : World} {t0 r0 u0 p0 c0 : Nat} {n : Int} (h : ExM w t0 r0 u0 p0 c0 n) {hv fv : Value} {hl fl : List Nm} {c1 c2 : Nat} (h1 : NL w hv c1 hl) (h2 : NL w fv c2 fl) : FB w (.slice (some ⟨t0, 0, none⟩) 6 6) (.slice (some ⟨c0, 0, none⟩) 1 1) hv fv (exF n hl fl) :=
  ⟨⟨6, h.tb⟩, ⟨1, h.xl⟩, ⟨c1, h1⟩, ⟨c2, h2⟩⟩
theorem exIn (y n : Int) (h : (0 ≤ y ∧ y ≤ 255) ∧ -9223372036854775808 ≤ n ∧ n ≤ 9223372036854775807) : (⟨y, n⟩ : Nm).In := h
theorem exOK : OKT exT := by
  have h6 : ∀ r ∈ exT, r = exL ∨ r = [] := fun r hr => by
    simp only [exT, List.mem_cons, List.not_mem_nil, or_false] at hr
    rcases hr with rfl | rfl | rfl | rfl | rfl | rfl
    · exact .inl rfl
    all_goals exact .inr rfl
  have hl3 : ∀ l ∈ exL, l = ⟨0, true, [], []⟩ ∨ l = ⟨0, false, [], []⟩ ∨ l = ⟨1, false, [⟨1, 0⟩], [⟨⟨1, 1⟩, true, 0⟩]⟩ := fun l hl => by
    simpa only [exL, List.mem_cons, List.not_mem_nil, or_false] using hl
  refine ⟨⟨by decide, fun r hr => ?_, fun r hr l hl => ?_⟩, by decide, ⟨fun a => a.n.toNat, ?_, ?_⟩, by decide⟩
  · rcases h6 r hr with rfl | rfl <;> decide
  · rcases h6 r hr with rfl | rfl
    · rcases hl3 l hl with rfl | rfl | rfl
      · exact ⟨⟨.inl rfl, by decide, by decide, fun a ha => (by cases ha), fun p hp => (by cases hp), 0, .inl rfl, fun p hp => (by cases hp)⟩, by decide, by decide⟩
      · exact ⟨⟨.inl rfl, by decide, by decide, fun a ha => (by cases ha), fun p hp => (by cases hp), 0, .inl rfl, fun p hp => (by cases hp)⟩, by decide, by decide⟩
      · refine ⟨⟨.inr rfl, by decide, by decide, fun a ha => ?_, fun p hp => ?_, 0, .inl rfl, fun p hp => ?_⟩, by decide, by decide⟩
        · rw [List.mem_singleton.1 ha]; exact ⟨exIn _ _ (by decide), by decide⟩
        · rw [List.mem_singleton.1 hp]; exact ⟨⟨exIn _ _ (by decide), by decide, by decide⟩, by decide⟩
        · rw [List.mem_singleton.1 hp]
    · cases hl
  · intro y hy n hn a ha
    have hy' : y < 6 := hy
    rcases (show y = 0 ∨ y = 1 ∨ y = 2 ∨ y = 3 ∨ y = 4 ∨ y = 5 by omega) with rfl | rfl | rfl | rfl | rfl | rfl
    · have hn' : n < 3 := hn
      rcases (show n = 0 ∨ n = 1 ∨ n = 2 by omega) with rfl | rfl | rfl
      · cases ha
      · cases ha
      · have : a = ⟨1, 0⟩ ∨ a = ⟨1, 1⟩ := by
          have h2 : a ∈ [(⟨1, 0⟩ : Nm), ⟨1, 1⟩] := ha
          simpa only [List.mem_cons, List.not_mem_nil, or_false] using h2
        rcases this with rfl | rfl
        · exact ⟨by decide, by decide⟩
        · exact ⟨by decide, by decide⟩
    all_goals exact absurd hn (Nat.not_lt_zero n)
  · intro y hy n hn
    dsimp only
    omega
theorem exFIn {n : Int} {hl fl : List Nm} (hn : -9223372036854775808 ≤ n ∧ n ≤ 9223372036854775807) (h1 : ∀ a ∈ hl, a.In) (h2 : ∀ a ∈ fl, a.In) (h3 : hl.length ≤ 1000) (h4 : fl.length ≤ 1000) : FIn (exF n hl fl) := by
  have ok := exOK.r
  refine ⟨h1, h2, fun c hc => ?_, fun r hr l hl => ?_, h3, h4, by show 1 ≤ 1000; omega, ok.n4, ok.n5, fun r hr l hl => ?_⟩
  · rw [List.mem_singleton.1 hc]
    exact ⟨exIn _ _ (by decide), exIn _ _ (by decide), hn⟩
  · have h := ok.ri r hr l hl
    exact ⟨h.2, fun a ha => (h.1.i1 a ha).1, fun p hp => (h.1.i2 p hp).1⟩
  · have h := (ok.ri r hr l hl).1
    exact ⟨by have := h.n1; omega, h.n2⟩
/-- The example is returned. -/
def RetEx (w : World) (en : Ending) (w' : World) : Prop := ∃ t0 r0 u0 p0 c0 h0, en = .returned (.agg #[.slice (some ⟨t0, 0, none⟩) 6 6, .slice (some ⟨c0, 0, none⟩) 1 1, .slice (some ⟨h0, 0, none⟩) 2 2, .slice none 0 0]) ∧ ExM w' t0 r0 u0 p0 c0 (-1) ∧ w'.heap[h0]? = some (.cells #[.int .u8 1, .int .i64 1, .int .u8 1, .int .i64 2] 41 (0, 0)) ∧ w.heap.size ≤ c0 ∧ Ext w w'
theorem heap_push (w : World) (o : Obj) (k : Nat) (os : List Obj) (h : k < os.length) : (os.foldl (fun w o => w.alloc o) w).heap[w.heap.size + k]? = os[k]? := by
  have key : ∀ (os : List Obj) (w : World), (os.foldl (fun w o => w.alloc o) w).heap = w.heap ++ os.toArray := by
    intro os
    induction os with
    | nil => intro w; simp
    | cons o os ih =>
      intro w
      rw [List.foldl_cons, ih]
      show w.heap.push o ++ os.toArray = _
      simp
  rw [key, Array.getElem?_append_right (by omega)]
  simp
set_option maxHeartbeats 8000000 in
theorem Example_calls (w : World) : Calls Tryd.prog 23 #[] w (RetEx w) := by
  have hmk : ∀ w, (Instr.makeSlice 31 (.int .i64 6) (.int .i64 6)).run Tryd.prog w = .ok (.slice (some ⟨w.heap.size, 0, none⟩) 6 6) (w.alloc (.cells #[.slice none 0 0, .slice none 0 0, .slice none 0 0, .slice none 0 0, .slice none 0 0, .slice none 0 0] 47)) := fun w => by
    have h1 := make_k ekT (by decide) 6 (by omega) .i64 .i64 w
    have h2 : madeCells (Value.slice none 0 0).cells (6 * 1) = #[.slice none 0 0, .slice none 0 0, .slice none 0 0, .slice none 0 0, .slice none 0 0, .slice none 0 0] := by kernel_rfl
    rw [h2] at h1
    exact h1
  obtain ⟨N, hN⟩ : ∃ N, N = w.heap.size := ⟨_, rfl⟩
  obtain ⟨os, hos⟩ : ∃ os : List Obj, os = [.cells #[.slice (some ⟨N + 1, 0, none⟩) 6 6, .slice (some ⟨N + 1 + 1 + 1 + 1 + 1 + 1 + 1, 0, none⟩) 1 1, .slice (some ⟨N + 1 + 1 + 1 + 1 + 1 + 1, 0, none⟩) 2 2, .slice none 0 0] 35,
    .cells #[.slice (some ⟨N + 1 + 1 + 1 + 1 + 1, 0, none⟩) 3 3, .slice none 0 0, .slice none 0 0, .slice none 0 0, .slice none 0 0, .slice none 0 0] 47,
    .cells #[.slice (some ⟨N + 1, 0, none⟩) 6 6, .slice (some ⟨N + 1 + 1 + 1 + 1 + 1 + 1 + 1, 0, none⟩) 1 1, .slice (some ⟨N + 1 + 1 + 1 + 1 + 1 + 1, 0, none⟩) 2 2, .slice none 0 0] 35,
    .cells #[.int .u8 1, .int .i64 0] 41,
    .cells #[.int .u8 1, .int .i64 1, .bool true, .int .u8 0] 50,
    .cells #[.int .u8 0, .bool true, .slice none 0 0, .slice none 0 0, .int .u8 0, .bool false, .slice none 0 0, .slice none 0 0, .int .u8 1, .bool false, .slice (some ⟨N + 1 + 1 + 1, 0, none⟩) 1 1, .slice (some ⟨N + 1 + 1 + 1 + 1, 0, none⟩) 1 1] 46,
    .cells #[.int .u8 1, .int .i64 1, .int .u8 1, .int .i64 2] 41,
    .cells #[.int .u8 1, .int .i64 1, .int .u8 1, .int .i64 2, .int .i64 (-1)] 52] := ⟨_, rfl⟩
  obtain ⟨WF, hWF⟩ : ∃ WF, WF = os.foldl (fun w o => w.alloc o) w := ⟨_, rfl⟩
  have hb : ∀ k o, os[k]? = some o → WF.heap[N + k]? = some o := fun k o hk => by
    rw [hWF, hN, heap_push w o k os (List.getElem?_eq_some_iff.1 hk).1, hk]
  have hE := Lib.hid (show RetEx w (.returned (.agg #[.slice (some ⟨N + 1, 0, none⟩) 6 6, .slice (some ⟨N + 1 + 1 + 1 + 1 + 1 + 1 + 1, 0, none⟩) 1 1, .slice (some ⟨N + 1 + 1 + 1 + 1 + 1 + 1, 0, none⟩) 2 2, .slice none 0 0])) WF from
    ⟨N + 1, N + 5, N + 3, N + 4, N + 7, N + 6, rfl, ⟨hb 1 _ (by rw [hos]; rfl), hb 5 _ (by rw [hos]; rfl), hb 3 _ (by rw [hos]; rfl), hb 4 _ (by rw [hos]; rfl), hb 7 _ (by rw [hos]; rfl)⟩, hb 6 _ (by rw [hos]; rfl), by omega, by
      rw [hWF, hos]
      exact (((((((Ext.refl _).alloc _).alloc _).alloc _).alloc _).alloc _).alloc _).alloc _ |>.alloc _⟩)
  have cF := Lib.hid (show ∀ j v, (#[Value.slice (some ⟨N + 1, 0, none⟩) 6 6, .slice (some ⟨N + 1 + 1 + 1 + 1 + 1 + 1 + 1, 0, none⟩) 1 1, .slice (some ⟨N + 1 + 1 + 1 + 1 + 1 + 1, 0, none⟩) 2 2, .slice none 0 0] : Array Value)[j]? = some v → WF.cell? ⟨N, j, none⟩ = some v from fun j v hj => by
    have h0 := hb 0 _ (by rw [hos]; rfl)
    rw [Nat.add_zero] at h0
    unfold World.cell?
    rw [show ((⟨N, j, none⟩ : Addr).block) = N from rfl, h0]
    exact hj)
  have HWF := Lib.hid (show WF = ((((((((w.alloc (.cells #[.slice (some ⟨N + 1, 0, none⟩) 6 6, .slice (some ⟨N + 1 + 1 + 1 + 1 + 1 + 1 + 1, 0, none⟩) 1 1, .slice (some ⟨N + 1 + 1 + 1 + 1 + 1 + 1, 0, none⟩) 2 2, .slice none 0 0] 35)).alloc (.cells #[.slice (some ⟨N + 1 + 1 + 1 + 1 + 1, 0, none⟩) 3 3, .slice none 0 0, .slice none 0 0, .slice none 0 0, .slice none 0 0, .slice none 0 0] 47)).alloc (.cells #[.slice (some ⟨N + 1, 0, none⟩) 6 6, .slice (some ⟨N + 1 + 1 + 1 + 1 + 1 + 1 + 1, 0, none⟩) 1 1, .slice (some ⟨N + 1 + 1 + 1 + 1 + 1 + 1, 0, none⟩) 2 2, .slice none 0 0] 35)).alloc (.cells #[.int .u8 1, .int .i64 0] 41)).alloc (.cells #[.int .u8 1, .int .i64 1, .bool true, .int .u8 0] 50)).alloc (.cells #[.int .u8 0, .bool true, .slice none 0 0, .slice none 0 0, .int .u8 0, .bool false, .slice none 0 0, .slice none 0 0, .int .u8 1, .bool false, .slice (some ⟨N + 1 + 1 + 1, 0, none⟩) 1 1, .slice (some ⟨N + 1 + 1 + 1 + 1, 0, none⟩) 1 1] 46)).alloc (.cells #[.int .u8 1, .int .i64 1, .int .u8 1, .int .i64 2] 41)).alloc (.cells #[.int .u8 1, .int .i64 1, .int .u8 1, .int .i64 2, .int .i64 (-1)] 52)) by rw [hWF, hos]; rfl)
  clear hb hWF hos
  go_enter Tryd.func23, Tryd.ntmps23
  go_wp2
  rw [← hN, ← HWF.out]
  have c0 := cF.out 0 _ rfl
  have c1 := cF.out 1 _ rfl
  have c2 := cF.out 2 _ rfl
  have c3 := cF.out 3 _ rfl
  exact bodyPost_ret (v := .agg #[.slice (some ⟨N + 1, 0, none⟩) 6 6, .slice (some ⟨N + 1 + 1 + 1 + 1 + 1 + 1 + 1, 0, none⟩) 1 1, .slice (some ⟨N + 1 + 1 + 1 + 1 + 1 + 1, 0, none⟩) 2 2, .slice none 0 0]) (by simp [results, Tryd.results23, go_sem, c0, c1, c2, c3]) rfl hE.out
end Go.Proofs.YtlhkehfplcclgaaDoor
/- The example: what holds of it. -/
namespace Go.Proofs.YtlhkehfplcclgaaDoor
set_option linter.unusedVariables false
set_option linter.unusedSimpArgs false
set_option maxRecDepth 8000
open Go Go.RowKit Go.Sort

theorem ex_chk : fchk (exF (-1) [⟨1, 1⟩, ⟨1, 2⟩] []) = 0 := by decide
theorem ex_chk2 : fchk (exF (-1) [⟨1, 0⟩, ⟨1, 1⟩, ⟨1, 2⟩] []) = 6 := by decide
theorem ex_chk3 : fchk (exF (-1) [⟨1, 2⟩] []) = 6 := by decide
theorem ex_chk4 : fchk (exF 1048576 [⟨1, 1⟩, ⟨1, 2⟩] []) = 0 := by decide
theorem ex_und1 : und exT [⟨1, 2⟩] = [] := by decide
theorem ex_und2 : und exT [⟨1, 1⟩] = [⟨1, 1⟩] := by decide
theorem ex_lnk : lnk (exF (-1) [⟨1, 1⟩, ⟨1, 2⟩] []).cr (pairX ⟨1, 2⟩ ⟨1, 1⟩).a (pairX ⟨1, 2⟩ ⟨1, 1⟩).b = -1 := by decide
theorem ex_crE : crossE (exF (-1) [⟨1, 1⟩, ⟨1, 2⟩] []) ⟨1, 2⟩ ⟨1, 1⟩ 1 = 0 := by decide
theorem ex_crF : (crossF (exF (-1) [⟨1, 1⟩, ⟨1, 2⟩] []) ⟨1, 2⟩ ⟨1, 1⟩ 1).cr = [] := by decide
theorem it0 : Lib.itoa 0 = [48] := by have := Lib.itoa_nonneg 0; rw [Lib.decDigits_one (by decide)] at this; exact this
theorem it1 : Lib.itoa 1 = [49] := by have := Lib.itoa_nonneg 1; rw [Lib.decDigits_one (by decide)] at this; exact this
theorem it2 : Lib.itoa 2 = [50] := by have := Lib.itoa_nonneg 2; rw [Lib.decDigits_one (by decide)] at this; exact this
theorem itm1 : Lib.itoa (-1) = [45, 49] := by have := Lib.itoa_neg 1 (by decide); rw [Lib.decDigits_one (by decide)] at this; exact this
theorem nm10 : nameT ⟨1, 0⟩ = [49, 46, 48] := by unfold nameT; dsimp only; rw [it1, it0]; rfl
theorem nm11 : nameT ⟨1, 1⟩ = [49, 46, 49] := by unfold nameT; dsimp only; rw [it1]; rfl
theorem nm12 : nameT ⟨1, 2⟩ = [49, 46, 50] := by unfold nameT; dsimp only; rw [it1, it2]; rfl
def exTxt : List UInt8 := ([49, 46, 48, 32, 102, 114, 111, 110, 116, 32, 110, 101, 119, 10, 49, 46, 49, 32, 102, 114, 111, 110, 116, 10, 49, 46, 50, 32, 98, 97, 99, 107, 32, 116, 104, 114, 111, 117, 103, 104, 32, 49, 46].append [48, 32, 112, 97, 115, 116, 32, 49, 46, 49, 60, 43, 10, 99, 114, 111, 115, 115, 32, 49, 46, 49, 32, 49, 46, 50, 32, 45, 49, 10, 104, 101, 108, 100, 32, 49, 46, 49, 32, 49, 46, 50, 10])
theorem ex_text : textT (exF (-1) [⟨1, 1⟩, ⟨1, 2⟩] []) = exTxt := by
  unfold textT
  rw [if_pos ex_chk]
  have h0 : descT ⟨((0 : Nat) : Int) + 1, ((0 : Nat) : Int)⟩ (li exL 0) = [nameT ⟨1, 0⟩, frontT, newT] := rfl
  have h1 : descT ⟨((0 : Nat) : Int) + 1, ((1 : Nat) : Int)⟩ (li exL 1) = [nameT ⟨1, 1⟩, frontT] := rfl
  have h2 : descT ⟨((0 : Nat) : Int) + 1, ((2 : Nat) : Int)⟩ (li exL 2) = [nameT ⟨1, 2⟩, backT, throughT, nameT ⟨1, 0⟩, pastT, nameT ⟨1, 1⟩ ++ [60] ++ [43]] := rfl
  have hr : rowT 0 exL = lineT [nameT ⟨1, 0⟩, frontT, newT] ++ (lineT [nameT ⟨1, 1⟩, frontT] ++ (lineT [nameT ⟨1, 2⟩, backT, throughT, nameT ⟨1, 0⟩, pastT, nameT ⟨1, 1⟩ ++ [60] ++ [43]] ++ [])) := by
    rw [← h0, ← h1, ← h2]; rfl
  have ht : tabP exT 6 = rowT 0 exL := by
    have : tabP exT 6 = rowT 0 exL ++ ([] ++ ([] ++ ([] ++ ([] ++ ([] ++ []))))) := rfl
    rw [this]; simp
  have hx : textB (exF (-1) [⟨1, 1⟩, ⟨1, 2⟩] []) = tabP exT 6 ++ (lineT [crossW, nameT ⟨1, 1⟩, nameT ⟨1, 2⟩, Lib.itoa (-1)] ++ []) ++ lineT [heldW, nameT ⟨1, 1⟩, nameT ⟨1, 2⟩] ++ [] := rfl
  rw [hx, ht, hr, nm10, nm11, nm12, itm1]
  rfl
end Go.Proofs.YtlhkehfplcclgaaDoor
/- More for walks: blocks of two cells (a struct of two fields that lies in memory). -/
namespace Go.Proofs.YtlhkehfplcclgaaDoor
set_option linter.unusedVariables false
set_option linter.unusedSimpArgs false
open Go Go.RowKit

/-- Block b holds a struct of two fields. -/
def B2 (w : World) (b : Nat) (x y : Value) (t : TypeId) : Prop := w.heap[b]? = some (.cells #[x, y] t (0, 0))
theorem B2.c0 {w : World} {b : Nat} {x y : Value} {t : TypeId} (h : B2 w b x y t) : w.cell? ⟨b, 0, none⟩ = some x := by unfold B2 at h; simp [World.cell?, h]
theorem B2.c1 {w : World} {b : Nat} {x y : Value} {t : TypeId} (h : B2 w b x y t) : w.cell? ⟨b, 1, none⟩ = some y := by unfold B2 at h; simp [World.cell?, h]
theorem B2.f0 {w : World} {b : Nat} {x y : Value} {t : TypeId} (h : B2 w b x y t) : w.frozen? ⟨b, 0, none⟩ = false := by unfold B2 at h; simp [World.frozen?, h]
theorem B2.f1 {w : World} {b : Nat} {x y : Value} {t : TypeId} (h : B2 w b x y t) : w.frozen? ⟨b, 1, none⟩ = false := by unfold B2 at h; simp [World.frozen?, h]
theorem B2.ext {w w' : World} {b : Nat} {x y : Value} {t : TypeId} (h : B2 w b x y t) (e : Ext w w') : B2 w' b x y t := Ext.block e h
theorem B2.new (w : World) (x y : Value) (t : TypeId) : B2 (w.alloc (.cells #[x, y] t)) w.heap.size x y t := Deep.blk_alloc_new _ _
theorem B2.lt {w : World} {b : Nat} {x y : Value} {t : TypeId} (h : B2 w b x y t) : b < w.heap.size := World.block_lt_of_cell? w _ h.c0
theorem B2.alloc {w : World} {b : Nat} {x y : Value} {t : TypeId} (h : B2 w b x y t) (o : Obj) : B2 (w.alloc o) b x y t := h.ext ((Ext.refl w).alloc o)
theorem B2.set0 {w : World} {b : Nat} {x y u : Value} {t : TypeId} (h : B2 w b x y t) : B2 (w.setCell ⟨b, 0, none⟩ u) b u y t := by
  unfold B2 at *
  have hlt := lt_of_block h
  have h' : w.heap[b] = .cells #[x, y] t (0, 0) := by simpa [Array.getElem?_eq_getElem hlt] using h
  show (w.heap.modify b _)[b]? = _
  rw [Array.getElem?_eq_getElem (by simpa using hlt), Array.getElem_modify_self, h']
  rfl
theorem B2.set1 {w : World} {b : Nat} {x y u : Value} {t : TypeId} (h : B2 w b x y t) : B2 (w.setCell ⟨b, 1, none⟩ u) b x u t := by
  unfold B2 at *
  have hlt := lt_of_block h
  have h' : w.heap[b] = .cells #[x, y] t (0, 0) := by simpa [Array.getElem?_eq_getElem hlt] using h
  show (w.heap.modify b _)[b]? = _
  rw [Array.getElem?_eq_getElem (by simpa using hlt), Array.getElem_modify_self, h']
  rfl
theorem B2.set2 {w : World} {b : Nat} {x y : Value} {t : TypeId} (h : B2 w b x y t) (u v : Value) : B2 ((w.setCell ⟨b, 0, none⟩ u).setCell ⟨b, 1, none⟩ v) b u v t := h.set0.set1
theorem B2.setOther {w : World} {b : Nat} {x y u : Value} {t : TypeId} {a : Addr} (h : B2 w b x y t) (hn : b ≠ a.block) : B2 (w.setCell a u) b x y t := by
  unfold B2 at *
  rw [Deep.blk_setCell_other _ _ _ _ hn]; exact h
theorem B2.setOther2 {w : World} {b : Nat} {x y : Value} {t : TypeId} (h : B2 w b x y t) (c : Nat) (hn : b ≠ c) (u v : Value) : B2 ((w.setCell ⟨c, 0, none⟩ u).setCell ⟨c, 1, none⟩ v) b x y t := (h.setOther hn).setOther hn
theorem Ext.set2 {w w' : World} (h : Ext w w') (c : Nat) (hc : w.heap.size ≤ c) (u v : Value) : Ext w ((w'.setCell ⟨c, 0, none⟩ u).setCell ⟨c, 1, none⟩ v) := (h.setCell hc _).setCell hc _

/-- Strings: equal or not, in the walk's words. -/
theorem str_eq {a b : ByteArray} (h : a = b) : (a.toList == b.toList) = true := by rw [h]; simp
theorem str_ne {a b : ByteArray} (h : a ≠ b) : (a.toList == b.toList) = false := by
  rw [beq_eq_false_iff_ne]
  intro e
  rw [ByteArray.toList_eq, ByteArray.toList_eq] at e
  exact h (ByteArray.ext (Array.toList_inj.1 e))
theorem str_nonempty {a : ByteArray} (h : 0 < a.size) : a.toList.isEmpty = false := by
  rw [ByteArray.toList_eq, List.isEmpty_eq_false_iff]
  intro e
  have : a.data.toList.length = 0 := by rw [e]; rfl
  rw [Array.length_toList] at this
  have h2 : a.data.size = a.size := rfl
  omega
end Go.Proofs.YtlhkehfplcclgaaDoor
