/- Texts of this claim in one file: libraries and walks. -/
import Derived.Test.YtinijapkipeamaaDoorMKnown1
import Derived.Test.YtinijapkipeamaaDoorMKnown2
/- ganseyref12.Loads. -/
namespace Go.Proofs.YtinijapkipeamaaDoor
set_option linter.unusedVariables false
set_option linter.unusedSimpArgs false
set_option maxRecDepth 8000
open Go Go.RowKit

/-- A slice of numbers of some capacity, and an error. -/
def RetLE (w0 : World) (xs : List Int) (err : Int) (e : Ending) (w' : World) : Prop := ∃ v c, e = .returned (.tuple #[v, .int .i64 err]) ∧ IS .i64 w' v c xs ∧ Ext w0 w'
theorem rep_snoc (n : Nat) (x : Int) : (List.replicate (n + 1) x).map (Value.int .i64) = (List.replicate n x).map (Value.int .i64) ++ [.int .i64 x] := by rw [List.replicate_succ']; simp

set_option maxHeartbeats 4000000 in
theorem RLoads_calls (s : St) (v : Value) (c : Nat) (xs : List Int) (w : World) (h : IS .i64 w v c xs) (hs : 0 ≤ s.k ∧ 0 ≤ s.y) : Calls Tryd.prog 44 #[s.val, v] w (RetLE w (s.lmade xs) (s.lerr xs)) := by
  have HB := Lib.hid (fun w' (x : Ext (w.alloc (.cells #[.int .u8 s.k, .int .u8 s.y, .int .i64 s.a, .int .i64 s.b, .bool s.f] 52)) w') => ((B5.new w s 52).ext x).at)
  have HV := Lib.hid (fun w' => Valid_calls s w' hs)
  have HNe := Lib.hid (fun w' => RNeeds_calls s w' hs)
  have HMa := Lib.hid (fun w' => RMakes_calls s w' hs)
  have hv : s.vld = if s.chk = 0 then 1 else 0 := rfl
  have hcc := St.chk_cases s
  have hnb := St.need_bd s
  have hmb := St.make_bd s
  have hn45 : s.chk = 0 → (s.k = 4 ∨ s.k = 5) → s.need = 2 := fun h h4 => by unfold St.need; rw [if_neg (by omega), if_neg (by omega), if_pos h4]
  have hn67 : s.chk = 0 → (s.k = 6 ∨ s.k = 7) → s.need = 1 := fun h h4 => by unfold St.need; rw [if_neg (by omega), if_neg (by omega), if_neg (by omega), if_neg (by omega)]
  have hm1 : s.chk = 0 → s.k ≠ 8 → s.make = 1 := fun h h8 => by unfold St.make; rw [if_neg (by omega), if_neg h8]
  have e1 : s.chk ≠ 0 → s.lerr xs = 1 := lerr_chk
  have e5 : s.chk = 0 → (xs.length : Int) ≠ s.need → s.lerr xs = 5 := lerr_len
  have eb : s.chk = 0 → (xs.length : Int) = s.need → ∀ i, i < xs.length → (gi xs i < 1 ∨ 3 < gi xs i) → s.lerr xs = 1 := fun a b i c d => lerr_bad a b c d
  have ei : s.chk = 0 → (xs.length : Int) = s.need → (∀ i, i < xs.length → 1 ≤ gi xs i ∧ gi xs i ≤ 3) → s.lerr xs = if s.k = 4 ∨ s.k = 5 then (if 4 < gi xs 0 + gi xs 1 then 9 else 0) else if s.k = 6 ∧ gi xs 0 = 3 then 9 else 0 := lerr_in
  have hbad : ∀ w' e, Ext w w' → s.lerr xs = e → e ≠ 0 → RetLE w (s.lmade xs) (s.lerr xs) (.returned (.tuple #[.slice none 0 0, .int .i64 e])) w' := fun w' e x h1 h2 => by
    rw [lmade_err (by omega), h1]; exact ⟨_, 0, rfl, IS.nil _ _, x⟩
  have hgood : ∀ w' u c ys, Ext w w' → s.lerr xs = 0 → (if s.k = 6 then [gi xs 0 + 1] else if s.k = 7 then [gi xs 0] else List.replicate s.make.toNat 1) = ys → IS .i64 w' u c ys → RetLE w (s.lmade xs) (s.lerr xs) (.returned (.tuple #[u, .int .i64 0])) w' := fun w' u c ys x h1 h2 h3 => by
    have : s.lmade xs = ys := by unfold St.lmade; rw [if_neg (by omega)]; exact h2
    rw [this, h1]; exact ⟨u, c, rfl, h3, x⟩
  obtain ⟨ao, n, c', rfl, hn, rfl, hIS⟩ := h.out
  rw [← hn] at e5 eb ei
  obtain ⟨k, y, a, b, f⟩ := s
  unfold St.val at *
  simp only [] at HB HV HNe HMa hs hn45 hn67 hm1 ei hgood ⊢
  generalize St.need ⟨k, y, a, b, f⟩ = N at *
  generalize St.make ⟨k, y, a, b, f⟩ = M at *
  generalize St.vld ⟨k, y, a, b, f⟩ = V at *
  generalize St.chk ⟨k, y, a, b, f⟩ = C at *
  generalize St.lerr ⟨k, y, a, b, f⟩ xs = E at *
  generalize St.lmade ⟨k, y, a, b, f⟩ xs = L at *
  obtain ⟨W, hW⟩ : ∃ W, W = w.alloc (.cells #[.int .u8 k, .int .u8 y, .int .i64 a, .int .i64 b, .bool f] 52) := ⟨_, rfl⟩
  have xW : Ext w W := by rw [hW]; exact (Ext.refl w).alloc _
  rw [← hW] at HB
  have XW := Lib.hid xW; have HW := Lib.hid hW; have HI := Lib.hid (hIS.ext xW); have HBad := Lib.hid hbad; have HGood := Lib.hid hgood
  by_cases hC : C = 0
  · rw [if_pos hC] at hv
    subst hv
    by_cases hnN : (n : Int) = N
    · have HEb := Lib.hid (fun i hi hb => eb hC hnN i hi hb); have HEi := Lib.hid (fun hg => ei hC hnN hg); have H45 := Lib.hid (hn45 hC); have H67 := Lib.hid (hn67 hC); have HM1 := Lib.hid (hm1 hC)
      have tn : ((n : Int) != N) = false := by rw [hnN]; simp
      have hn4 : n ≤ 4 := by omega
      have HNn := Lib.hid hnN
      clear hcc e1 e5 eb ei hbad hgood hn45 hn67 hm1 hC h hIS hn xW hnN hs
      have hb0 := HB.out W (Ext.refl W)
      rw [hW] at hb0
      clear hW
      go_enter Tryd.func44, Tryd.ntmps44
      obtain ⟨c0, c1, c2, c3, c4⟩ := hb0
      simp only [Nat.zero_add] at c0 c1 c2 c3 c4
      go_wp2_with fail
      rw [← HW.out]
      refine (HV.out _).mono ?_
      rintro e w1 ⟨rfl, x1⟩
      have hb1 := HB.out _ x1
      have X1 := Lib.hid x1
      obtain ⟨c0, c1, c2, c3, c4⟩ := hb1
      simp only [Nat.zero_add] at c0 c1 c2 c3 c4
      clear x1 HV
      go_wp2_with fail
      refine (HNe.out _).mono ?_
      rintro e w2 ⟨rfl, x2⟩
      have X2 := Lib.hid (X1.out.trans x2)
      clear x2 HNe c0 c1 c2 c3 c4
      go_wp2
      go_loopw [6] (fun i wr => ∃ j : Nat, j ≤ n ∧ i = .int .i64 j ∧ Hid (Ext W wr) ∧ Hid (∀ i, i < j → 1 ≤ gi xs i ∧ gi xs i ≤ 3)) (fun i _ => n - (intOf i).toNat)
      case atStart => exact ⟨0, Nat.zero_le _, rfl, X2, Lib.hid (fun i hi => by omega)⟩
      case round =>
        obtain ⟨j, hj, rfl, HX, HG⟩ := hrel
        by_cases hlt : j < n
        · obtain ⟨bb, oo, rfl, hc⟩ := HI.out.at hlt
          replace hc := HX.out.cell (hc j hlt)
          have heb := HEb.out j hlt
          have HG2 := Lib.hid (show (1 ≤ gi xs j ∧ gi xs j ≤ 3) → ∀ i, i < j + 1 → 1 ≤ gi xs i ∧ gi xs i ≤ 3 from fun hh i hi => by
            by_cases e : i = j
            · rw [e]; exact hh
            · exact HG.out i (by omega))
          generalize gi xs j = z at *
          by_cases z1 : z = 1
          · have HG3 := Lib.hid (HG2.out (by omega))
            clear heb
            subst z1
            go_wp2
            go_roundw
            case rel => exact ⟨j + 1, by omega, by go_num, HX, HG3⟩
            case measure => simp [intOf]; omega
          by_cases z2 : z = 2
          · have HG3 := Lib.hid (HG2.out (by omega))
            clear heb z1
            subst z2
            go_wp2
            go_roundw
            case rel => exact ⟨j + 1, by omega, by go_num, HX, HG3⟩
            case measure => simp [intOf]; omega
          by_cases z3 : z = 3
          · have HG3 := Lib.hid (HG2.out (by omega))
            clear heb z1 z2
            subst z3
            go_wp2
            go_roundw
            case rel => exact ⟨j + 1, by omega, by go_num, HX, HG3⟩
            case measure => simp [intOf]; omega
          · have HF := Lib.hid (HBad.out wr 1 (XW.out.trans HX.out) (heb (by omega)) (by decide))
            have t1 : (z != 1) = true := by rw [bne, beq_eq_false_iff_ne.2 z1]; rfl
            have t2 : (z != 2) = true := by rw [bne, beq_eq_false_iff_ne.2 z2]; rfl
            have t3 : (z != 3) = true := by rw [bne, beq_eq_false_iff_ne.2 z3]; rfl
            clear heb z1 z2 z3
            go_wp2
            go_ret2
            exact HF.out
        · obtain rfl : n = j := by omega
          have hE := HEi.out HG.out
          have hb3 := HB.out _ HX.out
          obtain ⟨c0, c1, c2, c3, c4⟩ := hb3
          simp only [Nat.zero_add] at c0 c1 c2 c3 c4
          have tl : ¬ ((n : Int) < n) := by omega
          have hNn := HNn.out
          by_cases k45 : k = 4 ∨ k = 5
          · rw [if_pos k45] at hE
            have h2 := H45.out k45
            have hM := HM1.out (by omega)
            have hn2 : n = 2 := by omega
            subst hn2
            obtain ⟨bb, oo, rfl, hc⟩ := HI.out.at (show 0 < 2 by omega)
            have i0 := HX.out.cell (hc 0 (by omega))
            have i1 := HX.out.cell (hc 1 (by omega))
            rw [Nat.add_zero] at i0
            have g0 := HG.out 0 (by omega)
            have g1 := HG.out 1 (by omega)
            generalize gi xs 0 = x0 at *
            generalize gi xs 1 = x1 at *
            have wx : IntKind.i64.wrap (x0 + x1) = x0 + x1 := IntWalk.i64_in _ ⟨by omega, by omega⟩
            by_cases h4 : 4 < x0 + x1
            · rw [if_pos h4] at hE
              have HF := Lib.hid (fun w' x => HBad.out w' 9 x hE (by decide))
              clear hE h2 hM hNn hc
              rcases k45 with rfl | rfl
              all_goals
                go_wp2
                go_quiet (fail)
                go_wp2
                go_ret2
                exact HF.out _ (XW.out.trans (by first | exact HX.out.drewN _ | exact HX.out))
            · rw [if_neg h4] at hE
              clear h2 hNn hc
              rcases k45 with rfl | rfl
              all_goals
                have HE := Lib.hid hE; have HM := Lib.hid hM
                clear hE hM
                go_wp2
                go_quiet (fail)
                obtain ⟨wk, hwk⟩ : ∃ wk, wk = wr.drewN nq := ⟨_, rfl⟩
                have hxk : Ext W wk := by rw [hwk]; exact HX.out.drewN nq
                rw [← hwk]
                have hlit := IS.lit (k := .i64) (w := wk) (e := 3) (g := wk.heap.size) (n := 1) (xs := [1]) (arr := #[.int .i64 1]) rfl rfl rfl (by omega)
                have HF := Lib.hid (HGood.out (wk.alloc (.cells #[.int .i64 1] 3)) _ _ _ ((XW.out.trans hxk).alloc _) HE.out (by rw [if_neg (by omega), if_neg (by omega), HM.out]; rfl) hlit)
                clear hlit hxk hwk c0 c1 c2 c3 c4 i0 i1
                go_wp2
                go_ret2
                exact HF.out
          rw [if_neg k45] at hE
          have b4 : (k == 4) = false := beq_eq_false_iff_ne.2 (by omega)
          have b5 : (k == 5) = false := beq_eq_false_iff_ne.2 (by omega)
          clear k45
          by_cases k6 : k = 6
          · have h1 := H67.out (.inl k6)
            have hn1 : n = 1 := by omega
            subst hn1; subst k6
            obtain ⟨bb, oo, rfl, hc⟩ := HI.out.at (show 0 < 1 by omega)
            have i0 := HX.out.cell (hc 0 (by omega))
            rw [Nat.add_zero] at i0
            have g0 := HG.out 0 (by omega)
            generalize gi xs 0 = x0 at *
            by_cases h3 : x0 = 3
            · rw [if_pos ⟨rfl, h3⟩] at hE
              have HF := Lib.hid (HBad.out wr 9 (XW.out.trans HX.out) hE (by decide))
              clear hE h1 hNn hc
              subst h3
              go_wp2
              go_ret2
              exact HF.out
            · rw [if_neg (fun h => h3 h.2)] at hE
              have b3 : (x0 == 3) = false := beq_eq_false_iff_ne.2 h3
              have wx : IntKind.i64.wrap (x0 + 1) = x0 + 1 := IntWalk.i64_in _ ⟨by omega, by omega⟩
              clear h1 hNn hc h3
              have hlit := IS.lit (k := .i64) (w := wr) (e := 3) (g := wr.heap.size) (n := 1) (xs := [x0 + 1]) (arr := #[.int .i64 (x0 + 1)]) rfl rfl rfl (by omega)
              have HF := Lib.hid (HGood.out (wr.alloc (.cells #[.int .i64 (x0 + 1)] 3)) _ _ _ ((XW.out.trans HX.out).alloc _) hE (by rw [if_pos rfl]) hlit)
              clear hlit hE
              go_wp2
              go_ret2
              exact HF.out
          have b6 : (k == 6) = false := beq_eq_false_iff_ne.2 k6
          rw [if_neg (fun h => k6 h.1)] at hE
          by_cases k7 : k = 7
          · have h1 := H67.out (.inr k7)
            have hn1 : n = 1 := by omega
            subst hn1; subst k7
            obtain ⟨bb, oo, rfl, hc⟩ := HI.out.at (show 0 < 1 by omega)
            have i0 := HX.out.cell (hc 0 (by omega))
            rw [Nat.add_zero] at i0
            generalize gi xs 0 = x0 at *
            clear h1 hNn hc
            have hlit := IS.lit (k := .i64) (w := wr) (e := 3) (g := wr.heap.size) (n := 1) (xs := [x0]) (arr := #[.int .i64 (x0)]) rfl rfl rfl (by omega)
            have HF := Lib.hid (HGood.out (wr.alloc (.cells #[.int .i64 (x0)] 3)) _ _ _ ((XW.out.trans HX.out).alloc _) hE (by rw [if_neg (by omega), if_pos rfl]) hlit)
            clear hlit hE
            go_wp2
            go_ret2
            exact HF.out
          have b7 : (k == 7) = false := beq_eq_false_iff_ne.2 k7
          have HE := Lib.hid hE
          have hys : (if k = 6 then [gi xs 0 + 1] else if k = 7 then [gi xs 0] else List.replicate M.toNat 1) = List.replicate M.toNat 1 := by rw [if_neg k6, if_neg k7]
          have HYs := Lib.hid hys
          obtain ⟨m, hm⟩ : ∃ m : Nat, M = m := ⟨M.toNat, by omega⟩
          have hm4 : m ≤ 4 := by omega
          have HM2 := Lib.hid hm
          rw [hm] at HMa
          clear hE hys k6 k7 hNn hm
          obtain ⟨wk, hwk⟩ : ∃ wk : World, wk = wr := ⟨_, rfl⟩
          have HXk := Lib.hid (show Ext W wk by rw [hwk]; exact HX.out)
          rw [← hwk] at c0 c1 c2 c3 c4 ⊢
          clear hwk HX
          go_wp2
          go_loopw [7, 8] (fun l i wr => ∃ j : Nat, j ≤ m ∧ i = .int .i64 j ∧ Hid (wr.ownsRow W.heap.size 3 1 l j ((List.replicate j (1 : Int)).map (Value.int .i64)) ∧ Ext W wr)) (fun _ i _ => m - (intOf i).toNat)
          case atStart => exact ⟨0, Nat.zero_le _, rfl, Lib.hid ⟨World.ownsRow_nil _ _ _ _, HXk.out⟩⟩
          case round =>
            obtain ⟨j, hj, rfl, H⟩ := hrel
            have hb5 := HB.out _ H.out.2
            obtain ⟨c0, c1, c2, c3, c4⟩ := hb5
            simp only [Nat.zero_add] at c0 c1 c2 c3 c4
            go_wp2_with fail
            refine (HMa.out _).mono ?_
            rintro e w4 ⟨rfl, x4⟩
            have H4 := Lib.hid (And.intro (own_ext H.out.1 x4) (H.out.2.trans x4))
            clear x4 c0 c1 c2 c3 c4
            by_cases hjl : j < m
            · have hsz := H4.out.2.size
              go_wp2_with (at_builtin; refine app_own eiInt rfl _ _ rfl W.heap.size _ j _ rfl (H4.out.1.alloc _) _ _ _ rfl (VS.one _ _ _) (one1 _) ?d1 ?d2 ?d3 ?_)
              any_goals (first | omega | (simp; done) | (simp only [List.length_cons, List.length_nil]; omega) | (simp; omega))
              intro v' w' hown hbel
              have HO := Lib.hid (show w'.ownsRow W.heap.size 3 1 v' (j + 1) ((List.replicate (j + 1) (1 : Int)).map (Value.int .i64)) ∧ Ext W w' from ⟨by rw [rep_snoc, List.map_replicate]; exact hown, Below.trans (H4.out.2.alloc _) hbel⟩)
              clear hown hbel
              go_wp2
              go_roundw
              case rel => exact ⟨j + 1, by omega, by go_num, HO⟩
              case measure => simp [intOf]; omega
            · obtain rfl : m = j := by omega
              obtain ⟨cI, hI⟩ := IS.of_own (k := .i64) H4.out.1
              have HF := Lib.hid (HGood.out _ _ _ _ (XW.out.trans H4.out.2) HE.out (by rw [HYs.out, HM2.out, Int.toNat_natCast]) hI)
              clear hI
              go_wp2
              go_ret2
              exact HF.out
    · have HF := Lib.hid (fun w' x => HBad.out w' 5 x (e5 hC hnN) (by decide))
      have tn : ((n : Int) != N) = true := by rw [bne, beq_eq_false_iff_ne.2 hnN]; rfl
      clear hcc e1 e5 eb ei hbad hgood hn45 hn67 hm1 hC h hIS hn xW hnN hs
      have hb0 := HB.out W (Ext.refl W)
      rw [hW] at hb0
      clear hW
      go_enter Tryd.func44, Tryd.ntmps44
      obtain ⟨c0, c1, c2, c3, c4⟩ := hb0
      simp only [Nat.zero_add] at c0 c1 c2 c3 c4
      go_wp2_with fail
      rw [← HW.out]
      refine (HV.out _).mono ?_
      rintro e w1 ⟨rfl, x1⟩
      have hb1 := HB.out _ x1
      have X1 := Lib.hid x1
      obtain ⟨c0, c1, c2, c3, c4⟩ := hb1
      simp only [Nat.zero_add] at c0 c1 c2 c3 c4
      clear x1 HV
      go_wp2_with fail
      refine (HNe.out _).mono ?_
      rintro e w2 ⟨rfl, x2⟩
      have HF2 := Lib.hid (HF.out _ (XW.out.trans (X1.out.trans x2)))
      clear x2 HNe c0 c1 c2 c3 c4
      go_wp2
      go_ret2
      exact HF2.out
  · have HF := Lib.hid (fun w' x => HBad.out w' 1 x (e1 hC) (by decide))
    rw [if_neg hC] at hv
    subst hv
    clear hcc e1 e5 eb ei hbad hgood hn45 hn67 hm1 hC h hIS hn xW hs
    have hb0 := HB.out W (Ext.refl W)
    rw [hW] at hb0
    clear hW
    go_enter Tryd.func44, Tryd.ntmps44
    obtain ⟨c0, c1, c2, c3, c4⟩ := hb0
    simp only [Nat.zero_add] at c0 c1 c2 c3 c4
    go_wp2_with fail
    rw [← HW.out]
    refine (HV.out _).mono ?_
    rintro e w1 ⟨rfl, x1⟩
    have HF2 := Lib.hid (HF.out _ (XW.out.trans x1))
    clear x1 HV
    go_wp2
    go_ret2
    exact HF2.out
end Go.Proofs.YtinijapkipeamaaDoor
/- ganseyref13.Needs, Makes, Row. -/
namespace Go.Proofs.YtinijapkipeamaaDoor
set_option linter.unusedVariables false
set_option linter.unusedSimpArgs false
set_option maxRecDepth 8000
open Go Go.RowKit

set_option maxHeartbeats 1000000 in
theorem RRowNeeds_calls (v : Value) (c : Nat) (l : List St) (w : World) (h : RS w v c l) (hl : l.length ≤ 1000000) (hs : ∀ i, i < l.length → 0 ≤ (si l i).k ∧ 0 ≤ (si l i).y) : Calls Tryd.prog 30 #[v] w fun e w' => e = .returned (.int .i64 (rneed l)) ∧ Ext w w' := by
  obtain ⟨ao, n, rfl, hn, hc, hcm, hat⟩ := h.open
  have hst : ∀ k, k < n → rneed (l.take (k + 1)) = rneed (l.take k) + St.need (si l k) := fun k hk => by rw [take_succ_si (by omega), rneed_snoc]
  have hbd : ∀ k, k ≤ n → 0 ≤ rneed (l.take k) ∧ rneed (l.take k) ≤ 4000000 := fun k hk => by
    have := rneed_bd (l.take k)
    rw [List.length_take] at this
    omega
  have hend : rneed (l.take n) = rneed l := by rw [hn, List.take_length]
  have hb1 := fun s => St.need_bd s
  have hcl := fun k (hk : k < n) w' => RNeeds_calls (si l k) w' (hs k (by omega))
  rw [← hn] at hl
  have HA := Lib.hid hat; have HS := Lib.hid hst; have HB := Lib.hid hbd; have HE := Lib.hid hend; have HO := Lib.hid hb1; have HCl := Lib.hid hcl
  clear hat hst hbd hend hb1 hn h hs hcl
  unfold maxLen at hcm
  go_enter Tryd.func30, Tryd.ntmps30
  go_wp2
  go_loopw [3, 4] (fun t i wr => ∃ k : Nat, k ≤ n ∧ i = .int .i64 k ∧ t = .int .i64 (rneed (l.take k)) ∧ Hid (Ext w wr)) (fun _ i _ => n - (intOf i).toNat)
  case atStart => exact ⟨0, Nat.zero_le _, rfl, rfl, Lib.hid (Ext.refl w)⟩
  case round =>
    obtain ⟨k, hk, rfl, rfl, Hx⟩ := hrel
    by_cases hlt : k < n
    · obtain ⟨b, o, rfl, h5⟩ := HA.out k hlt
      obtain ⟨c0, c1, c2, c3, c4⟩ := h5.ext Hx.out
      obtain ⟨g1, g2⟩ := HB.out k hk
      have hs := HS.out k hlt
      obtain ⟨g3, g4⟩ := HO.out (si l k)
      have hcall := HCl.out k hlt
      obtain ⟨s, hse⟩ : ∃ s, s = si l k := ⟨_, rfl⟩
      rw [← hse] at c0 c1 c2 c3 c4 hs g3 g4 hcall
      obtain ⟨T, hT⟩ : ∃ T, T = rneed (l.take k) := ⟨_, rfl⟩
      rw [← hT] at g1 g2 hs ⊢
      obtain ⟨D, hD⟩ : ∃ D, D = St.need s := ⟨_, rfl⟩
      rw [← hD] at g3 g4 hs
      unfold St.val at hcall
      rw [← hD] at hcall
      have HCL := Lib.hid hcall; have HSS := Lib.hid hs
      clear hcall hs hse hT hD h5
      go_wp2_with fail
      refine (HCL.out _).mono ?_
      rintro e w1 ⟨rfl, x1⟩
      have HX := Lib.hid (Hx.out.trans x1)
      clear x1 c0 c1 c2 c3 c4 HCL
      go_wp2
      go_roundw
      case rel => exact ⟨k + 1, by omega, by go_num, by rw [HSS.out], HX⟩
      case measure => simp [intOf]; omega
    · obtain rfl : n = k := by omega
      rw [HE.out]
      go_wp2
      go_ret
      exact ⟨rfl, Hx.out⟩

set_option maxHeartbeats 1000000 in
theorem RRowMakes_calls (v : Value) (c : Nat) (l : List St) (w : World) (h : RS w v c l) (hl : l.length ≤ 1000000) (hs : ∀ i, i < l.length → 0 ≤ (si l i).k ∧ 0 ≤ (si l i).y) : Calls Tryd.prog 31 #[v] w fun e w' => e = .returned (.int .i64 (rmake l)) ∧ Ext w w' := by
  obtain ⟨ao, n, rfl, hn, hc, hcm, hat⟩ := h.open
  have hst : ∀ k, k < n → rmake (l.take (k + 1)) = rmake (l.take k) + St.make (si l k) := fun k hk => by rw [take_succ_si (by omega), rmake_snoc]
  have hbd : ∀ k, k ≤ n → 0 ≤ rmake (l.take k) ∧ rmake (l.take k) ≤ 4000000 := fun k hk => by
    have := rmake_bd (l.take k)
    rw [List.length_take] at this
    omega
  have hend : rmake (l.take n) = rmake l := by rw [hn, List.take_length]
  have hb1 := fun s => St.make_bd s
  have hcl := fun k (hk : k < n) w' => RMakes_calls (si l k) w' (hs k (by omega))
  rw [← hn] at hl
  have HA := Lib.hid hat; have HS := Lib.hid hst; have HB := Lib.hid hbd; have HE := Lib.hid hend; have HO := Lib.hid hb1; have HCl := Lib.hid hcl
  clear hat hst hbd hend hb1 hn h hs hcl
  unfold maxLen at hcm
  go_enter Tryd.func31, Tryd.ntmps31
  go_wp2
  go_loopw [3, 4] (fun t i wr => ∃ k : Nat, k ≤ n ∧ i = .int .i64 k ∧ t = .int .i64 (rmake (l.take k)) ∧ Hid (Ext w wr)) (fun _ i _ => n - (intOf i).toNat)
  case atStart => exact ⟨0, Nat.zero_le _, rfl, rfl, Lib.hid (Ext.refl w)⟩
  case round =>
    obtain ⟨k, hk, rfl, rfl, Hx⟩ := hrel
    by_cases hlt : k < n
    · obtain ⟨b, o, rfl, h5⟩ := HA.out k hlt
      obtain ⟨c0, c1, c2, c3, c4⟩ := h5.ext Hx.out
      obtain ⟨g1, g2⟩ := HB.out k hk
      have hs := HS.out k hlt
      obtain ⟨g3, g4⟩ := HO.out (si l k)
      have hcall := HCl.out k hlt
      obtain ⟨s, hse⟩ : ∃ s, s = si l k := ⟨_, rfl⟩
      rw [← hse] at c0 c1 c2 c3 c4 hs g3 g4 hcall
      obtain ⟨T, hT⟩ : ∃ T, T = rmake (l.take k) := ⟨_, rfl⟩
      rw [← hT] at g1 g2 hs ⊢
      obtain ⟨D, hD⟩ : ∃ D, D = St.make s := ⟨_, rfl⟩
      rw [← hD] at g3 g4 hs
      unfold St.val at hcall
      rw [← hD] at hcall
      have HCL := Lib.hid hcall; have HSS := Lib.hid hs
      clear hcall hs hse hT hD h5
      go_wp2_with fail
      refine (HCL.out _).mono ?_
      rintro e w1 ⟨rfl, x1⟩
      have HX := Lib.hid (Hx.out.trans x1)
      clear x1 c0 c1 c2 c3 c4 HCL
      go_wp2
      go_roundw
      case rel => exact ⟨k + 1, by omega, by go_num, by rw [HSS.out], HX⟩
      case measure => simp [intOf]; omega
    · obtain rfl : n = k := by omega
      rw [HE.out]
      go_wp2
      go_ret
      exact ⟨rfl, Hx.out⟩

theorem rchk_bad2 {l : List St} (h1 : l.length ≤ 16) {i : Nat} (hi : i < l.length) (hb : (si l i).chk ≠ 0) : rchk l = 1 := by
  unfold rchk
  rw [if_neg (by omega), if_neg (by omega), if_pos]
  rw [List.any_eq_true]
  exact ⟨_, si_mem hi, by simp [hb]⟩
theorem rchk_in2 {l : List St} (h1 : l.length ≤ 16) (h0 : 0 < l.length) (hg : ∀ i, i < l.length → (si l i).chk = 0) : rchk l = if rneed l < 1 ∨ 16 < rneed l ∨ rmake l < 1 ∨ 16 < rmake l then 5 else 0 := by
  unfold rchk
  rw [if_neg (by omega), if_neg (by omega), if_neg]
  rw [List.any_eq_true]
  rintro ⟨s, hs, hb⟩
  obtain ⟨i, hi, rfl⟩ := List.mem_iff_getElem.1 hs
  rw [← si_of_lt hi, hg i hi] at hb
  simp at hb
set_option maxHeartbeats 2000000 in
theorem RRow_calls (v : Value) (c : Nat) (l : List St) (w : World) (h : RS w v c l) (hs : ∀ i, i < l.length → 0 ≤ (si l i).k ∧ 0 ≤ (si l i).y) : Calls Tryd.prog 42 #[v] w fun e w' => e = .returned (.int .i64 (rchk l)) ∧ Ext w w' := by
  have hN := fun w' (x : Ext w w') (hl : l.length ≤ 1000000) => RRowNeeds_calls v c l w' (h.ext x) hl hs
  have hM := fun w' (x : Ext w w') (hl : l.length ≤ 1000000) => RRowMakes_calls v c l w' (h.ext x) hl hs
  obtain ⟨ao, n, rfl, hn, hc, hcm, hat⟩ := h.open
  have hV := fun k (hk : k < n) w' => Valid_calls (si l k) w' (hs k (by omega))
  have e3 : 16 < n → rchk l = 3 := fun h => by unfold rchk; rw [if_pos (by omega)]
  have e1 : n = 0 → rchk l = 1 := fun h => by unfold rchk; rw [if_neg (by omega), if_pos (by omega)]
  have eb : n ≤ 16 → ∀ i, i < n → (si l i).chk ≠ 0 → rchk l = 1 := fun h i hi hb => rchk_bad2 (by omega) (by omega) hb
  have eo : n ≤ 16 → 0 < n → (∀ i, i < n → (si l i).chk = 0) → rchk l = if rneed l < 1 ∨ 16 < rneed l ∨ rmake l < 1 ∨ 16 < rmake l then 5 else 0 := fun h h0 hg => rchk_in2 (by omega) (by omega) (fun i hi => hg i (by omega))
  generalize rchk l = E at *
  unfold maxLen at hcm
  by_cases h16 : 16 < n
  · have hE := e3 h16
    have t1 : (16 : Int) < n := by omega
    clear hN hM hV e3 e1 eb eo hat h hs hn h16
    subst hE
    go_enter Tryd.func42, Tryd.ntmps42
    go_wp2
    go_ret
    exact ⟨rfl, Ext.refl w⟩
  by_cases h0 : n = 0
  · have hE := e1 h0
    clear hN hM hV e3 e1 eb eo hat h hs hn h16
    subst hE; subst h0
    go_enter Tryd.func42, Tryd.ntmps42
    go_wp2
    go_ret
    exact ⟨rfl, Ext.refl w⟩
  have t1 : ¬ (16 : Int) < n := by omega
  have t2 : ((n : Int) == 0) = false := beq_eq_false_iff_ne.2 (by omega)
  have HN := Lib.hid (fun w' x => hN w' x (by omega)); have HM := Lib.hid (fun w' x => hM w' x (by omega)); have HV := Lib.hid hV; have HEb := Lib.hid (eb (by omega)); have HEo := Lib.hid (eo (by omega) (by omega)); have HA := Lib.hid hat
  clear hN hM hV e3 e1 eb eo hat h hs hn h0
  go_enter Tryd.func42, Tryd.ntmps42
  go_wp2
  go_loopw [3] (fun i wr => ∃ k : Nat, k ≤ n ∧ i = .int .i64 k ∧ Hid (Ext w wr) ∧ Hid (∀ i, i < k → (si l i).chk = 0)) (fun i _ => n - (intOf i).toNat)
  case atStart => exact ⟨0, Nat.zero_le _, rfl, Lib.hid (Ext.refl w), Lib.hid (fun i hi => by omega)⟩
  case round =>
    obtain ⟨k, hk, rfl, HX, HG⟩ := hrel
    by_cases hlt : k < n
    · obtain ⟨b, o, rfl, h5⟩ := HA.out k hlt
      obtain ⟨c0, c1, c2, c3, c4⟩ := h5.ext HX.out
      have hcall := HV.out k hlt
      have heb := HEb.out k hlt
      have hgg : (si l k).chk = 0 → ∀ i, i < k + 1 → (si l i).chk = 0 := fun h i hi => by
        by_cases e : i = k
        · rw [e]; exact h
        · exact HG.out i (by omega)
      have hvd : (si l k).vld = if (si l k).chk = 0 then 1 else 0 := rfl
      obtain ⟨s, hse⟩ : ∃ s, s = si l k := ⟨_, rfl⟩
      rw [← hse] at c0 c1 c2 c3 c4 hcall heb hgg hvd
      unfold St.val at hcall
      generalize s.vld = V at *
      generalize s.chk = C at *
      have HCL := Lib.hid hcall
      clear hcall hse h5
      by_cases hC : C = 0
      · rw [if_pos hC] at hvd
        subst hvd
        have HG2 := Lib.hid (hgg hC)
        clear hgg heb hC
        go_wp2_with fail
        refine (HCL.out _).mono ?_
        rintro e w1 ⟨rfl, x1⟩
        have HX2 := Lib.hid (HX.out.trans x1)
        clear x1 c0 c1 c2 c3 c4 HCL
        go_wp2
        go_roundw
        case rel => exact ⟨k + 1, by omega, by go_num, HX2, HG2⟩
        case measure => simp [intOf]; omega
      · rw [if_neg hC] at hvd
        subst hvd
        have hE := heb hC
        clear hgg heb hC
        subst hE
        go_wp2_with fail
        refine (HCL.out _).mono ?_
        rintro e w1 ⟨rfl, x1⟩
        have HX2 := Lib.hid (HX.out.trans x1)
        clear x1 c0 c1 c2 c3 c4 HCL
        go_wp2
        go_ret
        exact ⟨rfl, HX2.out⟩
    · obtain rfl : n = k := by omega
      have hE := HEo.out HG.out
      generalize rneed l = P at *
      generalize rmake l = Q at *
      clear hlt
      rcases (show P < 1 ∨ (¬ P < 1 ∧ 16 < P) ∨ (¬ P < 1 ∧ ¬ 16 < P ∧ Q < 1) ∨ (¬ P < 1 ∧ ¬ 16 < P ∧ ¬ Q < 1 ∧ 16 < Q) ∨ (¬ P < 1 ∧ ¬ 16 < P ∧ ¬ Q < 1 ∧ ¬ 16 < Q) by omega) with a1 | ⟨a1, a2⟩ | ⟨a1, a2, a3⟩ | ⟨a1, a2, a3, a4⟩ | ⟨a1, a2, a3, a4⟩
      · rw [if_pos (.inl a1)] at hE
        subst hE
        go_wp2_with fail
        refine (HN.out _ HX.out).mono ?_
        rintro e y1 ⟨rfl, x1⟩
        have X1 := Lib.hid (HX.out.trans x1)
        clear x1
        go_wp2
        go_ret
        exact ⟨rfl, X1.out⟩
      · rw [if_pos (.inr (.inl a2))] at hE
        subst hE
        go_wp2_with fail
        refine (HN.out _ HX.out).mono ?_
        rintro e y1 ⟨rfl, x1⟩
        have X1 := Lib.hid (HX.out.trans x1)
        clear x1
        go_wp2_with fail
        refine (HN.out _ X1.out).mono ?_
        rintro e y2 ⟨rfl, x2⟩
        have X2 := Lib.hid (X1.out.trans x2)
        clear x2
        go_wp2
        go_ret
        exact ⟨rfl, X2.out⟩
      · rw [if_pos (.inr (.inr (.inl a3)))] at hE
        subst hE
        go_wp2_with fail
        refine (HN.out _ HX.out).mono ?_
        rintro e y1 ⟨rfl, x1⟩
        have X1 := Lib.hid (HX.out.trans x1)
        clear x1
        go_wp2_with fail
        refine (HN.out _ X1.out).mono ?_
        rintro e y2 ⟨rfl, x2⟩
        have X2 := Lib.hid (X1.out.trans x2)
        clear x2
        go_wp2_with fail
        refine (HM.out _ X2.out).mono ?_
        rintro e y3 ⟨rfl, x3⟩
        have X3 := Lib.hid (X2.out.trans x3)
        clear x3
        go_wp2
        go_ret
        exact ⟨rfl, X3.out⟩
      · rw [if_pos (.inr (.inr (.inr a4)))] at hE
        subst hE
        go_wp2_with fail
        refine (HN.out _ HX.out).mono ?_
        rintro e y1 ⟨rfl, x1⟩
        have X1 := Lib.hid (HX.out.trans x1)
        clear x1
        go_wp2_with fail
        refine (HN.out _ X1.out).mono ?_
        rintro e y2 ⟨rfl, x2⟩
        have X2 := Lib.hid (X1.out.trans x2)
        clear x2
        go_wp2_with fail
        refine (HM.out _ X2.out).mono ?_
        rintro e y3 ⟨rfl, x3⟩
        have X3 := Lib.hid (X2.out.trans x3)
        clear x3
        go_wp2_with fail
        refine (HM.out _ X3.out).mono ?_
        rintro e y4 ⟨rfl, x4⟩
        have X4 := Lib.hid (X3.out.trans x4)
        clear x4
        go_wp2
        go_ret
        exact ⟨rfl, X4.out⟩
      · rw [if_neg (by omega)] at hE
        subst hE
        go_wp2_with fail
        refine (HN.out _ HX.out).mono ?_
        rintro e y1 ⟨rfl, x1⟩
        have X1 := Lib.hid (HX.out.trans x1)
        clear x1
        go_wp2_with fail
        refine (HN.out _ X1.out).mono ?_
        rintro e y2 ⟨rfl, x2⟩
        have X2 := Lib.hid (X1.out.trans x2)
        clear x2
        go_wp2_with fail
        refine (HM.out _ X2.out).mono ?_
        rintro e y3 ⟨rfl, x3⟩
        have X3 := Lib.hid (X2.out.trans x3)
        clear x3
        go_wp2_with fail
        refine (HM.out _ X3.out).mono ?_
        rintro e y4 ⟨rfl, x4⟩
        have X4 := Lib.hid (X3.out.trans x4)
        clear x4
        go_wp2
        go_ret
        exact ⟨rfl, X4.out⟩
end Go.Proofs.YtinijapkipeamaaDoor
/- Rows of stitches of the call's own. -/
namespace Go.Proofs.YtinijapkipeamaaDoor
set_option linter.unusedVariables false
set_option linter.unusedSimpArgs false
set_option maxRecDepth 8000
open Go Go.RowKit

/-- The five cells of a stitch stand in f from 5 i on. -/
def F5 (f : Nat → Value) (i : Nat) (s : St) : Prop := f (i * 5) = .int .u8 s.k ∧ f (i * 5 + 1) = .int .u8 s.y ∧ f (i * 5 + 2) = .int .i64 s.a ∧ f (i * 5 + 3) = .int .i64 s.b ∧ f (i * 5 + 4) = .bool s.f
/-- Block g has room for c stitches; the first are l. -/
def RO (w : World) (g c : Nat) (l : List St) : Prop := l.length ≤ c ∧ c ≤ maxLen ∧ ∃ f, w.rowIs g 52 (c * 5) f ∧ ∀ i, i < l.length → F5 f i (si l i)
theorem RO.ext {w w' : World} {g c : Nat} {l : List St} (h : RO w g c l) (x : Ext w w') : RO w' g c l := by
  obtain ⟨h1, h2, f, h3, h4⟩ := h
  exact ⟨h1, h2, f, x.row h3, h4⟩
theorem RO.lt {w : World} {g c : Nat} {l : List St} (h : RO w g c l) : g < w.heap.size := by
  obtain ⟨_, _, f, h3, _⟩ := h
  exact h3.lt
theorem RO.rs {w : World} {g c : Nat} {l : List St} (h : RO w g c l) : RS w (.slice (some ⟨g, 0, none⟩) l.length c) c l := by
  obtain ⟨h1, h2, f, h3, h4⟩ := h
  refine ⟨_, rfl, h1, h2, .inr ⟨g, 0, rfl, fun i hi => ?_⟩⟩
  obtain ⟨a, b, c', d, e⟩ := h4 i hi
  rw [Nat.zero_add]
  refine ⟨?_, ?_, ?_, ?_, ?_⟩
  · rw [h3.cell (by omega), a]
  · rw [h3.cell (by omega), b]
  · rw [h3.cell (by omega), c']
  · rw [h3.cell (by omega), d]
  · rw [h3.cell (by omega), e]
theorem RO.frozen {w : World} {g c : Nat} {l : List St} (h : RO w g c l) (o : Nat) : w.frozen? ⟨g, o, none⟩ = false := by
  obtain ⟨_, _, f, h3, _⟩ := h
  exact h3.frozen o
theorem RO.shapeCell {w : World} {g c : Nat} {l : List St} (h : RO w g c l) {o : Nat} (ho : o < c * 5) : ∃ v, w.cell? ⟨g, o, none⟩ = some v := by
  obtain ⟨_, _, f, h3, _⟩ := h
  exact ⟨_, h3.cell ho⟩
theorem si_set {l : List St} {i j : Nat} {s : St} (hi : i < l.length) : si (l.set i s) j = if j = i then s else si l j := by
  unfold si
  by_cases h : j = i
  · subst h; simp [List.getD, hi]
  · rw [if_neg h]
    simp only [List.getD]
    rw [List.getElem?_set_ne (by omega)]
theorem RO.setk {w : World} {g c : Nat} {l : List St} (h : RO w g c l) {i : Nat} (hi : i < l.length) (k : Int) : RO (w.setCell ⟨g, i * 5, none⟩ (.int .u8 k)) g c (l.set i { si l i with k := k }) := by
  obtain ⟨h1, h2, f, h3, h4⟩ := h
  refine ⟨by simpa using h1, h2, _, h3.set (i * 5) _, fun j hj => ?_⟩
  rw [List.length_set] at hj
  rw [si_set hi]
  obtain ⟨a, b, c', d, e⟩ := h4 j hj
  by_cases hji : j = i
  · subst hji
    rw [if_pos rfl]
    refine ⟨if_pos rfl, ?_, ?_, ?_, ?_⟩ <;> (show (if _ then _ else _) = _; rw [if_neg (by omega)]; assumption)
  · rw [if_neg hji]
    refine ⟨?_, ?_, ?_, ?_, ?_⟩ <;> (show (if _ then _ else _) = _; rw [if_neg (by omega)]; assumption)
theorem RO.sety {w : World} {g c : Nat} {l : List St} (h : RO w g c l) {i : Nat} (hi : i < l.length) (y : Int) : RO (w.setCell ⟨g, i * 5 + 1, none⟩ (.int .u8 y)) g c (l.set i { si l i with y := y }) := by
  obtain ⟨h1, h2, f, h3, h4⟩ := h
  refine ⟨by simpa using h1, h2, _, h3.set (i * 5 + 1) _, fun j hj => ?_⟩
  rw [List.length_set] at hj
  rw [si_set hi]
  obtain ⟨a, b, c', d, e⟩ := h4 j hj
  by_cases hji : j = i
  · subst hji
    rw [if_pos rfl]
    refine ⟨?_, if_pos rfl, ?_, ?_, ?_⟩ <;> (show (if _ then _ else _) = _; rw [if_neg (by omega)]; assumption)
  · rw [if_neg hji]
    refine ⟨?_, ?_, ?_, ?_, ?_⟩ <;> (show (if _ then _ else _) = _; rw [if_neg (by omega)]; assumption)
theorem RO.setOther {w : World} {g c : Nat} {l : List St} (h : RO w g c l) {a : Addr} (ha : g ≠ a.block) (v : Value) : RO (w.setCell a v) g c l := by
  obtain ⟨h1, h2, f, h3, h4⟩ := h
  exact ⟨h1, h2, f, h3.setOther ha v, h4⟩
theorem si_rep {n i : Nat} {s : St} (hi : i < n) : si (List.replicate n s) i = s := by unfold si; simp [List.getD, hi]

/-- The zero cells of a stitch. -/
def z5 : Array Value := #[.int .u8 0, .int .u8 0, .int .i64 0, .int .i64 0, .bool false]
theorem RO.made (w : World) (n : Nat) (hn : n ≤ maxLen) : RO (w.alloc (.cells (madeCells z5 (n * 5)) 52)) w.heap.size n (List.replicate n St.none) := by
  have hz : ∀ i, i < n * 5 → (madeCells z5 (n * 5))[i]? = some (z5[i % 5]!) := fun i hi => by
    unfold madeCells
    simp [hi]
    rfl
  have hr := World.rowIs_alloc w (madeCells z5 (n * 5)) 52 (fun i => z5[i % 5]!) (fun i hi => hz i (by rw [size_madeCells] at hi; exact hi))
  rw [size_madeCells] at hr
  refine ⟨by simp, hn, _, hr, fun i hi => ?_⟩
  rw [List.length_replicate] at hi
  rw [si_rep hi]
  refine ⟨?_, ?_, ?_, ?_, ?_⟩
  · show z5[(i * 5) % 5]! = _; rw [show (i * 5) % 5 = 0 by omega]; rfl
  · show z5[(i * 5 + 1) % 5]! = _; rw [show (i * 5 + 1) % 5 = 1 by omega]; rfl
  · show z5[(i * 5 + 2) % 5]! = _; rw [show (i * 5 + 2) % 5 = 2 by omega]; rfl
  · show z5[(i * 5 + 3) % 5]! = _; rw [show (i * 5 + 3) % 5 = 3 by omega]; rfl
  · show z5[(i * 5 + 4) % 5]! = _; rw [show (i * 5 + 4) % 5 = 4 by omega]; rfl
theorem run_make_st (kl kc : IntKind) (n : Nat) (hn : n ≤ 1000000) (w : World) :
    (Instr.makeSlice 48 (.int kl (n : Int)) (.int kc (n : Int))).run Tryd.prog w = .ok (.slice (some ⟨w.heap.size, 0, none⟩) n n) (w.alloc (.cells (madeCells z5 (n * 5)) 52)) := by
  obtain ⟨i, hi, hzz⟩ := Option.map_eq_some_iff.1 (show (Tryd.prog.info? 52).map (fun i => (i.zero, i.size, i.bytes)) = some (some (.agg z5), 5, 32) by kernel_rfl)
  simp only [Prod.mk.injEq] at hzz
  obtain ⟨hz, hs, hb⟩ := hzz
  have hr := run_make (P := Tryd.prog) w 48 52 i (.agg z5) Tryd.underlying48 hi hz kl kc n n (by omega) (Int.le_refl _) (by rw [hb]; omega) (by omega)
  simp only [Int.toNat_natCast, hs] at hr
  exact hr
end Go.Proofs.YtinijapkipeamaaDoor
/- Charts that a call makes: a block of rows, each in a block of its own. -/
namespace Go.Proofs.YtinijapkipeamaaDoor
set_option linter.unusedVariables false
set_option linter.unusedSimpArgs false
set_option maxRecDepth 8000
open Go Go.RowKit

def up {α : Type} (f : Nat → α) (k : Nat) (x : α) : Nat → α := fun i => if i = k then x else f i
theorem up_at {α : Type} (f : Nat → α) (k : Nat) (x : α) : up f k x k = x := if_pos rfl
theorem up_ne {α : Type} (f : Nat → α) {k i : Nat} (x : α) (h : i ≠ k) : up f k x i = f i := if_neg h
/-- Block R has room for N rows; the first k are laid: rows i in block q i, of capacity cp i. -/
structure CS (w wr : World) (R N k : Nat) (rows : Nat → List St) (q cp : Nat → Nat) : Prop where
  x : Ext w wr
  r0 : w.heap.size ≤ R
  nm : N ≤ maxLen
  row : ∃ f, wr.rowIs R 48 N f ∧ ∀ i, i < k → f i = .slice (some ⟨q i, 0, none⟩) (rows i).length (cp i)
  ro : ∀ i, i < k → RO wr (q i) (cp i) (rows i) ∧ w.heap.size ≤ q i ∧ q i ≠ R
  inj : ∀ i j, i < k → j < k → q i = q j → i = j
theorem CS.start {w wr : World} {R N : Nat} {f : Nat → Value} {rows : Nat → List St} {q cp : Nat → Nat} (x : Ext w wr) (h : w.heap.size ≤ R) (hN : N ≤ maxLen) (hr : wr.rowIs R 48 N f) : CS w wr R N 0 rows q cp :=
  ⟨x, h, hN, ⟨f, hr, fun i hi => by omega⟩, fun i hi => by omega, fun i j hi => by omega⟩
theorem CS.later {w wr w' : World} {R N k : Nat} {rows : Nat → List St} {q cp : Nat → Nat} (h : CS w wr R N k rows q cp) (x : Ext wr w') : CS w w' R N k rows q cp := by
  obtain ⟨h1, h2, h3, ⟨f, h4, h5⟩, h6, h7⟩ := h
  exact ⟨h1.trans x, h2, h3, ⟨f, x.row h4, h5⟩, fun i hi => ⟨(h6 i hi).1.ext x, (h6 i hi).2⟩, h7⟩
theorem CS.cell {w wr : World} {R N k : Nat} {rows : Nat → List St} {q cp : Nat → Nat} (h : CS w wr R N k rows q cp) {i : Nat} (hi : i < k) (hk : k ≤ N) : wr.cell? ⟨R, i, none⟩ = some (.slice (some ⟨q i, 0, none⟩) (rows i).length (cp i)) := by
  obtain ⟨f, h4, h5⟩ := h.row
  rw [h4.cell (by omega), h5 i hi]
theorem CS.ex {w wr : World} {R N k : Nat} {rows : Nat → List St} {q cp : Nat → Nat} (h : CS w wr R N k rows q cp) {i : Nat} (hi : i < N) : ∃ v, wr.cell? ⟨R, i, none⟩ = some v := by
  obtain ⟨f, h4, h5⟩ := h.row
  exact ⟨_, h4.cell hi⟩
theorem CS.frozen {w wr : World} {R N k : Nat} {rows : Nat → List St} {q cp : Nat → Nat} (h : CS w wr R N k rows q cp) (i : Nat) : wr.frozen? ⟨R, i, none⟩ = false := by
  obtain ⟨f, h4, h5⟩ := h.row
  exact h4.frozen i
theorem CS.lt {w wr : World} {R N k : Nat} {rows : Nat → List St} {q cp : Nat → Nat} (h : CS w wr R N k rows q cp) : R < wr.heap.size := by
  obtain ⟨f, h4, h5⟩ := h.row
  exact h4.lt
theorem CS.congr {w wr : World} {R N k : Nat} {rows rows' : Nat → List St} {q cp : Nat → Nat} (h : CS w wr R N k rows q cp) (e : ∀ i, i < k → rows i = rows' i) : CS w wr R N k rows' q cp := by
  obtain ⟨h1, h2, h3, ⟨f, h4, h5⟩, h6, h7⟩ := h
  exact ⟨h1, h2, h3, ⟨f, h4, fun i hi => by rw [h5 i hi, e i hi]⟩, fun i hi => by rw [← e i hi]; exact h6 i hi, h7⟩
/-- A row is laid behind the others. -/
theorem CS.put {w wr : World} {R N k g c : Nat} {rows : Nat → List St} {q cp : Nat → Nat} {l : List St} (h : CS w wr R N k rows q cp) (hk : k < N) (hg : RO wr g c l) (hw : w.heap.size ≤ g) (hR : g ≠ R) (hd : ∀ i, i < k → q i ≠ g) :
    CS w (wr.setCell ⟨R, k, none⟩ (.slice (some ⟨g, 0, none⟩) l.length c)) R N (k + 1) (up rows k l) (up q k g) (up cp k c) := by
  obtain ⟨h1, h2, h3, ⟨f, h4, h5⟩, h6, h7⟩ := h
  refine ⟨h1.setCell h2 _, h2, h3, ⟨_, h4.set k _, fun i hi => ?_⟩, fun i hi => ?_, fun i j hi hj e => ?_⟩
  · by_cases e : i = k
    · subst e; simp [up]
    · rw [up_ne _ _ e, up_ne _ _ e, up_ne _ _ e, ← h5 i (by omega)]
      exact if_neg e
  · by_cases e : i = k
    · subst e; rw [up_at, up_at, up_at]
      exact ⟨hg.setOther hR _, hw, hR⟩
    · rw [up_ne _ _ e, up_ne _ _ e, up_ne _ _ e]
      obtain ⟨a, b, c'⟩ := h6 i (by omega)
      exact ⟨a.setOther c' _, b, c'⟩
  · by_cases ei : i = k
    · by_cases ej : j = k
      · omega
      · subst ei; rw [up_at, up_ne _ _ ej] at e
        exact absurd e.symm (hd j (by omega))
    · by_cases ej : j = k
      · subst ej; rw [up_at, up_ne _ _ ei] at e
        exact absurd e (hd i (by omega))
      · rw [up_ne _ _ ei, up_ne _ _ ej] at e
        exact h7 i j (by omega) (by omega) e
/-- A cell of row j is written. -/
theorem CS.set {w wr : World} {R N k j o : Nat} {rows : Nat → List St} {q cp : Nat → Nat} {v : Value} {l' : List St} (h : CS w wr R N k rows q cp) (hj : j < k) (hl : RO (wr.setCell ⟨q j, o, none⟩ v) (q j) (cp j) l') (hlen : l'.length = (rows j).length) :
    CS w (wr.setCell ⟨q j, o, none⟩ v) R N k (up rows j l') q cp := by
  obtain ⟨h1, h2, h3, ⟨f, h4, h5⟩, h6, h7⟩ := h
  refine ⟨h1.setCell (h6 j hj).2.1 _, h2, h3, ⟨f, h4.setOther (fun e => (h6 j hj).2.2 e.symm) _, fun i hi => ?_⟩, fun i hi => ?_, h7⟩
  · by_cases e : i = j
    · subst e; rw [up_at, hlen]; exact h5 i hi
    · rw [up_ne _ _ e]; exact h5 i hi
  · by_cases e : i = j
    · subst e; rw [up_at]; exact ⟨hl, (h6 i hi).2⟩
    · rw [up_ne _ _ e]
      exact ⟨(h6 i hi).1.setOther (fun c => e (h7 i j hi hj c)) _, (h6 i hi).2⟩
/-- All rows are laid. -/
theorem CS.rr {w wr : World} {R N : Nat} {rows : Nat → List St} {q cp : Nat → Nat} (h : CS w wr R N N rows q cp) : RR wr (.slice (some ⟨R, 0, none⟩) N N) N ((List.range N).map rows) := by
  have hl : ((List.range N).map rows).length = N := by simp
  have hs : ∀ i, i < N → sw ((List.range N).map rows) i = rows i := fun i hi => by rw [sw_of_lt (by rw [hl]; exact hi)]; simp
  refine ⟨_, fun i => .slice (some ⟨q i, 0, none⟩) (rows i).length (cp i), cp, by rw [hl], by omega, h.nm, .inr ⟨R, 0, rfl, fun i hi => ?_⟩, fun i hi => ?_⟩
  · rw [hl] at hi; rw [Nat.zero_add]; exact h.cell hi (Nat.le_refl _)
  · rw [hl] at hi; rw [hs i hi]; exact (h.ro i hi).1.rs
theorem sw_range {N : Nat} {rows : Nat → List St} {l : List (List St)} (hl : l.length = N) (h : ∀ i, i < N → rows i = sw l i) : (List.range N).map rows = l := by
  apply List.ext_getElem (by simpa using hl.symm)
  intro i h1 h2
  have hi : i < N := by simpa using h1
  rw [List.getElem_map, List.getElem_range, h i hi, sw_of_lt h2]
/-- A chart and an error are returned. -/
def RetCE (w0 : World) (rows : List (List St)) (err : Int) (e : Ending) (w' : World) : Prop := ∃ v, e = .returned (.tuple #[.agg #[v], .int .i64 err]) ∧ RR w' v rows.length rows ∧ Ext w0 w'
theorem eiRows : EI Tryd.prog 24 48 (.slice Option.none 0 0) 24 := ⟨Tryd.underlying24, by kernel_rfl, rfl⟩
end Go.Proofs.YtinijapkipeamaaDoor
/- Rows of stitches of the call's own: their cells; append. -/
namespace Go.Proofs.YtinijapkipeamaaDoor
set_option linter.unusedVariables false
set_option linter.unusedSimpArgs false
set_option maxRecDepth 8000
open Go Go.RowKit

def cells (l : List St) : List Value := l.flatMap St.cs
theorem cells_len (l : List St) : (cells l).length = l.length * 5 := by
  induction l with
  | nil => rfl
  | cons s l ih => unfold cells at ih ⊢; rw [List.flatMap_cons, List.length_append, ih]; simp [St.cs]; omega
theorem cells_app (l m : List St) : cells (l ++ m) = cells l ++ cells m := by unfold cells; rw [List.flatMap_append]
theorem cells_at : ∀ (l : List St) (i : Nat), i < l.length → (cells l)[i * 5]? = some (.int .u8 (si l i).k) ∧ (cells l)[i * 5 + 1]? = some (.int .u8 (si l i).y) ∧ (cells l)[i * 5 + 2]? = some (.int .i64 (si l i).a) ∧ (cells l)[i * 5 + 3]? = some (.int .i64 (si l i).b) ∧ (cells l)[i * 5 + 4]? = some (.bool (si l i).f)
  | [], i, h => by simp at h
  | s :: l, 0, _ => ⟨rfl, rfl, rfl, rfl, rfl⟩
  | s :: l, i + 1, h => by
    have ih := cells_at l i (by simpa using h)
    have e : si (s :: l) (i + 1) = si l i := by unfold si; simp [List.getD]
    have c : ∀ d, (cells (s :: l))[(i + 1) * 5 + d]? = (cells l)[i * 5 + d]? := fun d => by
      rw [show (i + 1) * 5 + d = (i * 5 + d) + 1 + 1 + 1 + 1 + 1 by omega]; rfl
    rw [e]
    have c0 := c 0
    rw [Nat.add_zero, Nat.add_zero] at c0
    rw [c0, c 1, c 2, c 3, c 4]
    exact ih
/-- The cells in memory. -/
theorem RO.news {w : World} {g c : Nat} {l : List St} (h : RO w g c l) : ∀ j u, (cells l)[j]? = some u → w.cell? ((⟨g, 0, none⟩ : Addr).add j) = some u := by
  intro j u hu
  obtain ⟨h1, h2, f, h3, h4⟩ := h
  have hj : j < l.length * 5 := by rw [← cells_len]; exact (List.getElem?_eq_some_iff.1 hu).1
  have hadd : (⟨g, 0, none⟩ : Addr).add j = ⟨g, j, none⟩ := by simp [Addr.add]; try exact fun h => h.symm
  rw [hadd, h3.cell (by omega)]
  obtain ⟨a0, a1, a2, a3, a4⟩ := h4 (j / 5) (by omega)
  obtain ⟨b0, b1, b2, b3, b4⟩ := cells_at l (j / 5) (by omega)
  rcases (show j = j / 5 * 5 ∨ j = j / 5 * 5 + 1 ∨ j = j / 5 * 5 + 2 ∨ j = j / 5 * 5 + 3 ∨ j = j / 5 * 5 + 4 by omega) with e | e | e | e | e <;> rw [e] at hu ⊢
  · rw [a0, ← hu, b0]
  · rw [a1, ← hu, b1]
  · rw [a2, ← hu, b2]
  · rw [a3, ← hu, b3]
  · rw [a4, ← hu, b4]
theorem RO.of_own {w : World} {B n : Nat} {v : Value} {l : List St} (h : w.ownsRow B 52 5 v n (cells l)) (hn : 0 < n) : ∃ g c, v = .slice (some ⟨g, 0, none⟩) n c ∧ n = l.length ∧ B ≤ g ∧ RO w g c l := by
  obtain ⟨hl, h⟩ := h
  rw [cells_len] at hl
  rcases h with ⟨_, h⟩ | ⟨g, cap, cur, hv, hB, hb, hnc, hm, hsz, htk⟩
  · omega
  refine ⟨g, cap, hv, by omega, hB, by omega, hm, fun i => (cur[i]?).getD undef, ⟨cur, hb, hsz, fun i hi => by simp [Array.getElem?_eq_getElem (show i < cur.size by omega)]⟩, fun i hi => ?_⟩
  have hc : ∀ j, j < n * 5 → cur[j]? = (cells l)[j]? := fun j hj => by
    rw [← htk, List.getElem?_take, if_pos hj, Array.getElem?_toList]
  obtain ⟨b0, b1, b2, b3, b4⟩ := cells_at l i hi
  refine ⟨?_, ?_, ?_, ?_, ?_⟩ <;> simp only []
  · rw [hc _ (by omega), b0]; rfl
  · rw [hc _ (by omega), b1]; rfl
  · rw [hc _ (by omega), b2]; rfl
  · rw [hc _ (by omega), b3]; rfl
  · rw [hc _ (by omega), b4]; rfl
theorem cs_one (l : List St) : ∀ u ∈ cells l, u.oneCell' = true := by
  intro u hu
  obtain ⟨s, _, hs⟩ := List.mem_flatMap.1 hu
  simp [St.cs] at hs
  rcases hs with rfl | rfl | rfl | rfl | rfl <;> rfl
/-- 'append(s, x...)' of stitches of the call's own. -/
theorem app_st {w : World} {ops : Array Oper} {rest : List Oper} {o : Oper} {a : Act} {Q : Exit → Act → World → Prop}
    (hg : o.guard = none) (s x : Operand) (hop : o.op = Op.call { callee := Callee.builtin Builtin.append, args := #[s, x], argTypes := #[48, 48] })
    (B : Nat) (v : Value) (n : Nat) (xs : List Value) (hs : a.eval s = v) (hown : w.ownsRow B 52 5 v n xs)
    (g c m : Nat) (l : List St) (hx : a.eval x = .slice (some ⟨g, 0, none⟩) m c) (hm : m = l.length) (hR : RO w g c l)
    (hlen : n + m ≤ 1000000) (hB : B ≤ w.heap.size)
    (hK : ∀ v' w', w'.ownsRow B 52 5 v' (n + m) (xs ++ cells l) → Below B w w' → wpList Tryd.prog ops Q rest (a.put o.dst v') w') :
    wpList Tryd.prog ops Q (o :: rest) a w := by
  obtain ⟨i, hi, hzz⟩ := Option.map_eq_some_iff.1 (show (Tryd.prog.info? 52).map (fun i => (i.zero, i.size, i.bytes)) = some (some (.agg z5), 5, 32) by kernel_rfl)
  simp only [Prod.mk.injEq] at hzz
  obtain ⟨hz, hsz, hb⟩ := hzz
  refine wpList_append_own w hg s x 48 hop B 52 i (.agg z5) 5 32 Tryd.underlying48 hi hz hsz hb rfl (by decide) v n xs hs hown ⟨g, 0, none⟩ m c (cells l) hx (by rw [cells_len, hm]) hR.news (cs_one l) (by unfold maxLen; omega) (by omega) hB ?_
  intro v' w' h2 h3 _
  refine hK v' w' h2 ?_
  refine (Below.refl B w).grown h3 hB fun k hk => ?_
  obtain ⟨_, hv | ⟨g', cap, cur, hv, hBg, _⟩⟩ := hown
  · rw [hv.1] at hk; cases hk
  · rw [hv] at hk; injection hk with hk; rw [← hk]; exact hBg
end Go.Proofs.YtinijapkipeamaaDoor
