/- The law WordsFollow: its walk. -/
import Derived.Test.YtbappfeojdehgaaLr
namespace Go.Proofs.Ytbappfeojdehgaa
set_option linter.unusedVariables false
set_option linter.unusedSimpArgs false
open Go Go.RowKit

/-! ### where a strand goes -/
theorem invTo_gi {n : Nat} {a : List Int} (hl : a.length = n) (hi : Inj a) (hb : ∀ i, i < n → 0 ≤ gi a i ∧ gi a i < n) : ∀ k, k ≤ n → ∀ i, i < k → gi (invTo n a k) (gi a i).toNat = (i : Int) + 1 := by
  intro k
  induction k with
  | zero => intro _ i h; omega
  | succ k ih =>
    intro hk i hik
    have h1 := hb i (by omega)
    have h2 := hb k (by omega)
    rw [invTo_succ]; unfold invStep
    rw [gi_set _ _ _ _ (by rw [invTo_len]; omega)]
    by_cases e : i = k
    · subst e; rw [if_pos rfl]
    · have hne : (gi a i).toNat ≠ (gi a k).toNat := fun h => e (hi i k (by omega) (by omega) (by omega))
      rw [if_neg hne]
      exact ih (by omega) i (by omega)

theorem e64 : (#[Value.int .i64 0, Value.int .i64 0, Value.int .i64 0, Value.int .i64 0, Value.int .i64 0, Value.int .i64 0, Value.int .i64 0, Value.int .i64 0, Value.int .i64 0, Value.int .i64 0, Value.int .i64 0, Value.int .i64 0, Value.int .i64 0, Value.int .i64 0, Value.int .i64 0, Value.int .i64 0, Value.int .i64 0, Value.int .i64 0, Value.int .i64 0, Value.int .i64 0, Value.int .i64 0, Value.int .i64 0, Value.int .i64 0, Value.int .i64 0, Value.int .i64 0, Value.int .i64 0, Value.int .i64 0, Value.int .i64 0, Value.int .i64 0, Value.int .i64 0, Value.int .i64 0, Value.int .i64 0, Value.int .i64 0, Value.int .i64 0, Value.int .i64 0, Value.int .i64 0, Value.int .i64 0, Value.int .i64 0, Value.int .i64 0, Value.int .i64 0, Value.int .i64 0, Value.int .i64 0, Value.int .i64 0, Value.int .i64 0, Value.int .i64 0, Value.int .i64 0, Value.int .i64 0, Value.int .i64 0, Value.int .i64 0, Value.int .i64 0, Value.int .i64 0, Value.int .i64 0, Value.int .i64 0, Value.int .i64 0, Value.int .i64 0, Value.int .i64 0, Value.int .i64 0, Value.int .i64 0, Value.int .i64 0, Value.int .i64 0, Value.int .i64 0, Value.int .i64 0, Value.int .i64 0, Value.int .i64 0] : Array Value) = madeCells #[Value.int .i64 0] 64 := by kernel_rfl

set_option maxHeartbeats 1000000 in
set_option maxRecDepth 100000 in
theorem WordsFollow_walk (n : Int) (v : Value) (c : Nat) (xs : List Int) (w : World) (hn : 0 ≤ n ∧ n ≤ 255) (h : IS .u8 w v c xs) (hb : ∀ i, i < xs.length → 0 ≤ gi xs i ∧ gi xs i ≤ 255) :
    Calls Try.prog 5 #[.int .u8 n, v] w fun e w' => e = .returned (.bool true) ∧ Ext w w' := by
  obtain ⟨m, hm⟩ : ∃ m : Nat, (m : Int) = 1 + n % 6 := ⟨(1 + n % 6).toNat, by omega⟩
  have m1 : 1 ≤ m := by omega
  have m6 : m ≤ 6 := by omega
  have hStr := fun w => Strands_m n m w hn hm
  obtain ⟨W, hW⟩ : ∃ W, W = wordOf m xs := ⟨_, rfl⟩
  have hOf := Of_calls m v c xs w h hb ⟨by omega, by omega⟩
  have hmem := wordOf_mem (n := m) (by omega) hb
  have hlen := wordOf_len m xs
  rw [← hW] at hOf hmem hlen
  have hwc : wcheck m W = 0 := wcheck_mem (by omega) (by omega) (by omega) fun k hk => (hmem k hk).1
  have hgood : ∀ i, i < W.length → wbad m (gi W i) = false := fun i hi => (hmem _ (gi_mem hi)).1
  obtain ⟨L, hL⟩ : ∃ L, L = W.length := ⟨_, rfl⟩
  rw [← hL] at hlen hgood
  have hsl := ssum_bd W
  rw [← hL] at hsl
  obtain ⟨hs1, hs2⟩ := hsl
  have HOf := Lib.hid hOf; have HL := Lib.hid hL; have Hwc := Lib.hid hwc; have HS := Lib.hid hStr; have Hgood := Lib.hid hgood
  have hpl : (permOf m W).length = m := by unfold permOf; exact inv_len _ _
  have hll : (linksOf m W).length = m := by unfold linksOf; simp
  have Hpl := Lib.hid hpl; have Hll := Lib.hid hll
  clear hOf hL hwc hStr hmem hW hm hb h hpl hll hgood
  have hmk := run_make_row' (P := Try.prog) 25 3 (.int .i64 0) 8 Try.underlying25 (by kernel_rfl) rfl .i64 .i64 m (by omega) (by omega)
  go_enter Try.func5, Try.ntmps5
  go_wp2_with fail
  refine (HS.out _).mono ?_
  rintro e w1 ⟨rfl, rfl⟩
  go_wp2_with fail
  refine HOf.out.mono ?_
  intro e w1 hh
  obtain ⟨a1, L', c1, rfl, hl, h1, x1⟩ := hh.open
  obtain rfl : L = L' := by rw [hl, HL.out]
  have X1 := Lib.hid x1; have H1 := Lib.hid h1
  clear hh hl h1 x1
  go_wp2_with fail
  refine (Permutation_calls m _ _ W _ H1.out Hwc.out).mono ?_
  intro e w2 hh
  obtain ⟨a2, n2, c2, rfl, hn2, hc2, h2, x2⟩ := hh.open
  obtain rfl : m = n2 := by rw [hn2, Hpl.out]
  obtain rfl : m = c2 := hc2.symm
  have X2 := Lib.hid (X1.out.trans x2); have H2 := Lib.hid h2; replace H1 := Lib.hid (H1.out.ext x2)
  clear hh hn2 hc2 h2 x2
  go_wp2_with fail
  refine (Sum_calls m _ _ W _ H1.out Hwc.out).mono ?_
  rintro e w3 ⟨rfl, x3⟩
  have X3 := Lib.hid (X2.out.trans x3); replace H1 := Lib.hid (H1.out.ext x3); replace H2 := Lib.hid (H2.out.ext x3)
  clear x3
  go_wp2_with fail
  refine (Links_calls m _ _ W _ H1.out Hwc.out).mono ?_
  rintro e w4 ⟨v4, rfl, ⟨vs, h4⟩, x4⟩
  obtain ⟨_, _, a4, rfl, hao⟩ := h4.open
  rw [Hll.out] at hao
  have hao2 : ∃ b o, a4 = some ⟨b, o, none⟩ ∧ ∀ i, i < m → w4.cell? ⟨b, o + i, none⟩ = some (vs i) := by
    rcases hao with ⟨_, h0, _⟩ | hh
    · omega
    · exact hh
  obtain ⟨b4, o4, rfl, hc4⟩ := hao2
  have hr4 : ∀ i, i < m → IS .i64 w4 (vs i) m ((List.range m).map fun j => lnk m W L i j) := by
    intro i hi
    have := h4.2 i (by rw [Hll.out]; exact hi)
    have hr : ri (linksOf m W) i = (List.range m).map fun j => lnk m W W.length i j := by unfold linksOf; rw [ri_range_map _ hi]
    simp only [hr, List.length_map, List.length_range, ← HL.out] at this
    exact this
  have X4 := Lib.hid (X3.out.trans x4); replace H1 := Lib.hid (H1.out.ext x4); replace H2 := Lib.hid (H2.out.ext x4)
  have Hc4 := Lib.hid hc4; have Hr4 := Lib.hid hr4
  rw [Hll.out]
  clear x4 h4 hao hc4 hr4 X1 X2 X3
  go_wp2
  go_loopw [14] (fun i wr => ∃ k : Nat, k ≤ m ∧ i = .int .i64 k ∧ Below w4.heap.size w4 wr ∧ ∃ f, wr.rowIs w4.heap.size 3 m f ∧ Hid (∀ i, i < k → f i = Value.int .i64 (i : Int))) (fun i _ => m - (intOf i).toNat)
  case atStart => exact ⟨0, Nat.zero_le _, rfl, (Below.refl _ _).alloc (Nat.le_refl _) _, _, World.rowIs_made _ _ _ _, fun i h1 => by omega⟩
  case round =>
    obtain ⟨k, hk, rfl, hbel, f, hrow, Hf⟩ := hrel
    by_cases hlt : k < m
    · have hst := hrow.cell (i := k) (by omega)
      have hfz := hrow.frozen k
      go_wp2
      go_roundw
      case rel => exact ⟨k + 1, by omega, by go_num, hbel.setCell (Nat.le_refl _) _, _, hrow.set _ _, fun i h1 => by
        by_cases e : i = k
        · rw [if_pos e, e]
        · rw [if_neg e]; exact Hf.out i (by omega)⟩
      case measure => simp [intOf]; omega
    · have hrow2 : wr.rowIs w4.heap.size 3 m (fun i => .int .i64 (gi (fol m (W.take 0)) i)) := hrow.congr fun i hi => by
        rw [Hf.out i (by omega)]; simp only [List.take_zero, fol, List.foldl_nil]; rw [gi_of_lt (by simpa using hi)]; simp
      obtain ⟨wo, rfl⟩ : ∃ wo : World, wo = wr := ⟨_, rfl⟩
      have Hrow := Lib.hid hrow2; have Hbel := Lib.hid hbel
      clear Hf hrow hrow2 hbel hmk
      go_wp2
      have h64 : ∃ f, (wo.alloc (Obj.cells (madeCells #[Value.int .i64 0] 64) 44)).rowIs wo.heap.size 44 64 f ∧ ∀ i j, i < 8 → j < 8 → f (i * 8 + j) = .int .i64 (lnk m W 0 i j) :=
        ⟨_, World.rowIs_made _ _ _ _, fun i j _ _ => rfl⟩
      obtain ⟨w5, hw5⟩ : ∃ w5, w5 = wo.alloc (Obj.cells (madeCells #[Value.int .i64 0] 64) 44) := ⟨_, rfl⟩
      rw [← hw5] at h64
      rw [e64, ← hw5]
      obtain ⟨A, hA⟩ : ∃ A, A = w4.heap.size := ⟨_, rfl⟩
      obtain ⟨B, hB⟩ : ∃ B, B = wo.heap.size := ⟨_, rfl⟩
      have hAB : A < B := by rw [hA, hB]; exact Hrow.out.lt
      have x5 : Ext w4 w5 := by rw [hw5]; exact Hbel.out.alloc Hbel.out.size _
      have hrow5 : w5.rowIs A 3 m (fun i => .int .i64 (gi (fol m (W.take 0)) i)) := by rw [hw5, hA]; exact Hrow.out.alloc _
      have hA4 : ∀ wr : World, A ≤ w4.heap.size := fun _ => by omega
      rw [← hB] at h64 ⊢
      rw [← hA]
      have Hrow5 := Lib.hid hrow5; have H64 := Lib.hid h64; have X5 := Lib.hid x5; have HA := Lib.hid hA
      clear hB hA hw5 x5 hrow5 h64 Hrow Hbel
      go_wp2
      go_loopw [16, 17, 18, 19] (fun s i _ _ wr => ∃ k : Nat, k ≤ L ∧ s = .int .i64 (ssum (W.take k)) ∧ i = .int .i64 k ∧ Hid (Ext w4 wr) ∧ Hid (wr.rowIs A 3 m (fun i => .int .i64 (gi (fol m (W.take k)) i))) ∧ Hid (∃ f, wr.rowIs B 44 64 f ∧ ∀ i j, i < 8 → j < 8 → f (i * 8 + j) = .int .i64 (lnk m W k i j))) (fun _ i _ _ _ => L - (intOf i).toNat)
      case atStart => exact ⟨0, Nat.zero_le _, rfl, rfl, X5, Hrow5, H64⟩
      case round =>
        clear X5 Hrow5 H64
        obtain ⟨k, hk, rfl, rfl, Hx, Hrow, H64⟩ := hrel
        by_cases hlt : k < L
        · obtain ⟨b1, o1, rfl, hc1⟩ := (H1.out.ext Hx.out).at hlt
          have hcw := hc1 k hlt
          obtain ⟨g1, g2, g3, g4, _, _⟩ := lft_bd (by omega) (by omega) (Hgood.out k hlt)
          obtain ⟨l, hl⟩ : ∃ l, l = lft (gi W k) := ⟨_, rfl⟩
          obtain ⟨p, hp⟩ : ∃ p, p = l + 1 := ⟨_, rfl⟩
          have hfb := fol_bd (by rw [← HL.out]; exact Hgood.out) (by omega) (by omega) k (by rw [← HL.out]; omega)
          have ha1 := hfb l (by omega)
          have hb1 := hfb p (by omega)
          obtain ⟨a, ha⟩ : ∃ a : Nat, a = sA m W k := ⟨_, rfl⟩
          obtain ⟨b, hb⟩ : ∃ b : Nat, b = sB m W k := ⟨_, rfl⟩
          have ea : gi (fol m (W.take k)) l = (a : Int) := by rw [ha, hl]; unfold sA; rw [← hl]; omega
          have eb : gi (fol m (W.take k)) p = (b : Int) := by rw [hb, hp, hl]; unfold sB; rw [← hl, ← hp]; omega
          have hab : a ≠ b := by
            intro he
            have := inj_fol (by rw [← HL.out]; exact Hgood.out) (by omega) (by omega) k (by rw [← HL.out]; omega) l p (by rw [fol_len]; omega) (by rw [fol_len]; omega) (by rw [ea, eb, he])
            omega
          have hsb := lnk_bd m W k
          have hs4 := ssum_bd (W.take k)
          have hsl : (W.take k).length = k := by rw [List.length_take, ← HL.out]; omega
          rw [hsl] at hs4
          obtain ⟨s1, s2⟩ := hs4
          rw [← hl] at g1 g2
          have ca : wr.cell? ⟨A, l, none⟩ = some (.int .i64 (a : Int)) := by rw [← ea]; exact Hrow.out.cell (by omega)
          have cb : wr.cell? ⟨A, p, none⟩ = some (.int .i64 (b : Int)) := by rw [← eb]; exact Hrow.out.cell (by omega)
          obtain ⟨a8, b8⟩ : a < m ∧ b < m := by omega
          obtain ⟨l8, p8⟩ : l < m ∧ p < m := by omega
          have hss : ssum (W.take (k + 1)) = ssum (W.take k) + sgn (gi W k) := by rw [take_succ_gi (by rw [← HL.out]; exact hlt), ssum_snoc]
          have hlk : lnk m W (k + 1) = lnkStep (lnk m W k) a b (sgn (gi W k)) := by rw [ha, hb]; rfl
          have hfs : fol m (W.take (k + 1)) = swp (fol m (W.take k)) l := by rw [take_succ_gi (by rw [← HL.out]; exact hlt), fol_snoc, hl]
          obtain ⟨f, hf64, hf2⟩ := H64.out
          have c1 := hf64.cell (i := a * 8 + b) (by omega)
          have c2 := hf64.cell (i := b * 8 + a) (by omega)
          rw [hf2 a b (by omega) (by omega)] at c1
          rw [hf2 b a (by omega) (by omega)] at c2
          have z1 := hf64.frozen (a * 8 + b)
          have z2 := hf64.frozen (b * 8 + a)
          have z3 := Hrow.out.frozen l
          have z4 := Hrow.out.frozen p
          have q1 := hsb a b
          have q2 := hsb b a
          have Hea := Lib.hid ea; have Heb := Lib.hid eb; have Hss := Lib.hid hss; have Hlk := Lib.hid hlk; have Hfs := Lib.hid hfs; have Hf64 := Lib.hid hf64; have Hf2 := Lib.hid hf2; have Hp := Lib.hid hp; have Hc1 := Lib.hid hc1
          generalize hu1 : lnk m W k a b = u1 at c1 q1
          generalize hu2 : lnk m W k b a = u2 at c2 q2
          have Hu1 := Lib.hid hu1; have Hu2 := Lib.hid hu2
          clear hu1 hu2
          by_cases hx : gi W k < 0
          · have hsg := sgn_neg hx
            rw [hsg] at g1
            generalize hsx : ssum (W.take k) = sx at s1 s2 ⊢
            generalize hgx : gi W k = x at hcw g1 g3 g4 hx
            have hd2 : decide (x < 0) = true := by simp [hx]
            have hxp : -x = (p : Int) := by omega
            have Hsg := Lib.hid hsg; have Hsx := Lib.hid hsx; have Hgx := Lib.hid hgx
            have e5 : IntKind.i64.wrap ((p : Int) - 1) = (l : Int) := by rw [IntWalk.i64_in _ ⟨by omega, by omega⟩]; omega
            clear ea eb hss hlk hfs hf64 hf2 hp hsb hfb ha hb hsg hsx hgx hc1 ha1 hb1 hl hsl H64
            go_wp2
            go_region
            obtain ⟨w6, hw6⟩ : ∃ w6, w6 = (wr.setCell ⟨B, a * 8 + b, none⟩ (.int .i64 (u1 + -1))).drew := ⟨_, rfl⟩
            have r6 : w6.rowIs A 3 m (fun i => .int .i64 (gi (fol m (W.take k)) i)) := by rw [hw6]; exact (Hrow.out.setOther (by simp; omega) _).drew
            have t6 : w6.rowIs B 44 64 (fun q => if q = a * 8 + b then .int .i64 (u1 + -1) else f q) := by rw [hw6]; exact (Hf64.out.set _ _).drew
            have x6 : Ext w4 w6 := by rw [hw6]; exact (Hx.out.setCell (by show _ ≤ B; rw [← HA.out]; omega) _).drew
            clear ca cb c1 z1 z3 z4 z2
            rw [← hw6]
            clear hw6
            have ca : w6.cell? ⟨A, l, none⟩ = some (.int .i64 (a : Int)) := by rw [← Hea.out]; exact r6.cell (by omega)
            have cb : w6.cell? ⟨A, p, none⟩ = some (.int .i64 (b : Int)) := by rw [← Heb.out]; exact r6.cell (by omega)
            clear c2
            have c2 := t6.cell (i := b * 8 + a) (by omega)
            rw [if_neg (by omega), Hf2.out b a (by omega) (by omega), Hu2.out] at c2
            have z2 := t6.frozen (b * 8 + a)
            have R6 := Lib.hid r6; have T6 := Lib.hid t6; have X6 := Lib.hid x6
            clear r6 t6 x6
            go_wp2
            go_region
            obtain ⟨w7, hw7⟩ : ∃ w7, w7 = (w6.setCell ⟨B, b * 8 + a, none⟩ (.int .i64 (u2 + -1))).drew := ⟨_, rfl⟩
            have r7 : w7.rowIs A 3 m (fun i => .int .i64 (gi (fol m (W.take k)) i)) := by rw [hw7]; exact (R6.out.setOther (by simp; omega) _).drew
            have t7 : w7.rowIs B 44 64 (fun q => if q = b * 8 + a then .int .i64 (u2 + -1) else if q = a * 8 + b then .int .i64 (u1 + -1) else f q) := by rw [hw7]; exact (T6.out.set _ _).drew
            have x7 : Ext w4 w7 := by rw [hw7]; exact (X6.out.setCell (by show _ ≤ B; rw [← HA.out]; omega) _).drew
            clear ca cb c2 z2
            rw [← hw7]
            clear hw7
            have ca : w7.cell? ⟨A, l, none⟩ = some (.int .i64 (a : Int)) := by rw [← Hea.out]; exact r7.cell (by omega)
            have cb : w7.cell? ⟨A, p, none⟩ = some (.int .i64 (b : Int)) := by rw [← Heb.out]; exact r7.cell (by omega)
            have z3 := r7.frozen l
            have z4 := r7.frozen p
            have R7 := Lib.hid r7; have T7 := Lib.hid t7; have X7 := Lib.hid x7
            clear r7 t7 x7
            go_wp2
            go_region
            all_goals
              go_wp2
              go_roundw
              case rel => exact ⟨k + 1, by omega, by rw [Hss.out, Hsx.out, Hsg.out], by go_num, ((X7.out.setCell (p := ⟨A, l, none⟩) (by show _ ≤ A; rw [← HA.out]; omega) _).setCell (p := ⟨A, p, none⟩) (by show _ ≤ A; rw [← HA.out]; omega) _).drew, (((R7.out.set _ _).set _ _).drew).congr (fun i hi => by
                rw [Hfs.out, ← Hea.out, ← Heb.out, Hp.out]
                exact swp_set _ _ m l (fol_len _ _) (by omega) (fun _ _ => rfl) i hi), _, ((T7.out.setOther (by simp; omega) _).setOther (by simp; omega) _).drew, fun i j hi hj => by
                  rw [Hlk.out]; unfold lnkStep; rw [Hsg.out]
                  by_cases e1 : i = b ∧ j = a
                  · have e3 : i * 8 + j = b * 8 + a := by omega
                    have e4 : ¬ (i = a ∧ j = b) := by omega
                    rw [if_pos e3, if_neg e4, if_pos e1, e1.1, e1.2, Hu2.out]
                    congr 1; omega
                  · have e3 : ¬ (i * 8 + j = b * 8 + a) := by omega
                    rw [if_neg e3, if_neg e1]
                    by_cases e2 : i = a ∧ j = b
                    · have e4 : i * 8 + j = a * 8 + b := by omega
                      rw [if_pos e4, if_pos e2, e2.1, e2.2, Hu1.out]
                      congr 1; omega
                    · have e4 : ¬ (i * 8 + j = a * 8 + b) := by omega
                      rw [if_neg e4, if_neg e2, Hf2.out i j hi hj]
                      congr 1; omega⟩
              case measure => simp [intOf]; omega
          · have hsg := sgn_pos hx
            rw [hsg] at g1
            generalize hsx : ssum (W.take k) = sx at s1 s2 ⊢
            generalize hgx : gi W k = x at hcw g1 g3 g4 hx
            have hd2 : decide (x < 0) = false := by simp; omega
            have hxp : x = (p : Int) := by omega
            subst hxp
            have Hsg := Lib.hid hsg; have Hsx := Lib.hid hsx; have Hgx := Lib.hid hgx
            have e5 : IntKind.i64.wrap ((p : Int) - 1) = (l : Int) := by rw [IntWalk.i64_in _ ⟨by omega, by omega⟩]; omega
            clear ea eb hss hlk hfs hf64 hf2 hp hsb hfb ha hb hsg hsx hgx hc1 ha1 hb1 hl hsl H64
            go_wp2
            go_region
            obtain ⟨w6, hw6⟩ : ∃ w6, w6 = (wr.setCell ⟨B, a * 8 + b, none⟩ (.int .i64 (u1 + 1))).drew := ⟨_, rfl⟩
            have r6 : w6.rowIs A 3 m (fun i => .int .i64 (gi (fol m (W.take k)) i)) := by rw [hw6]; exact (Hrow.out.setOther (by simp; omega) _).drew
            have t6 : w6.rowIs B 44 64 (fun q => if q = a * 8 + b then .int .i64 (u1 + 1) else f q) := by rw [hw6]; exact (Hf64.out.set _ _).drew
            have x6 : Ext w4 w6 := by rw [hw6]; exact (Hx.out.setCell (by show _ ≤ B; rw [← HA.out]; omega) _).drew
            clear ca cb c1 z1 z3 z4 z2
            rw [← hw6]
            clear hw6
            have ca : w6.cell? ⟨A, l, none⟩ = some (.int .i64 (a : Int)) := by rw [← Hea.out]; exact r6.cell (by omega)
            have cb : w6.cell? ⟨A, p, none⟩ = some (.int .i64 (b : Int)) := by rw [← Heb.out]; exact r6.cell (by omega)
            clear c2
            have c2 := t6.cell (i := b * 8 + a) (by omega)
            rw [if_neg (by omega), Hf2.out b a (by omega) (by omega), Hu2.out] at c2
            have z2 := t6.frozen (b * 8 + a)
            have R6 := Lib.hid r6; have T6 := Lib.hid t6; have X6 := Lib.hid x6
            clear r6 t6 x6
            go_wp2
            go_region
            obtain ⟨w7, hw7⟩ : ∃ w7, w7 = (w6.setCell ⟨B, b * 8 + a, none⟩ (.int .i64 (u2 + 1))).drew := ⟨_, rfl⟩
            have r7 : w7.rowIs A 3 m (fun i => .int .i64 (gi (fol m (W.take k)) i)) := by rw [hw7]; exact (R6.out.setOther (by simp; omega) _).drew
            have t7 : w7.rowIs B 44 64 (fun q => if q = b * 8 + a then .int .i64 (u2 + 1) else if q = a * 8 + b then .int .i64 (u1 + 1) else f q) := by rw [hw7]; exact (T6.out.set _ _).drew
            have x7 : Ext w4 w7 := by rw [hw7]; exact (X6.out.setCell (by show _ ≤ B; rw [← HA.out]; omega) _).drew
            clear ca cb c2 z2
            rw [← hw7]
            clear hw7
            have ca : w7.cell? ⟨A, l, none⟩ = some (.int .i64 (a : Int)) := by rw [← Hea.out]; exact r7.cell (by omega)
            have cb : w7.cell? ⟨A, p, none⟩ = some (.int .i64 (b : Int)) := by rw [← Heb.out]; exact r7.cell (by omega)
            have z3 := r7.frozen l
            have z4 := r7.frozen p
            have R7 := Lib.hid r7; have T7 := Lib.hid t7; have X7 := Lib.hid x7
            clear r7 t7 x7
            go_wp2
            go_region
            all_goals
              go_wp2
              go_roundw
              case rel => exact ⟨k + 1, by omega, by rw [Hss.out, Hsx.out, Hsg.out], by go_num, ((X7.out.setCell (p := ⟨A, l, none⟩) (by show _ ≤ A; rw [← HA.out]; omega) _).setCell (p := ⟨A, p, none⟩) (by show _ ≤ A; rw [← HA.out]; omega) _).drew, (((R7.out.set _ _).set _ _).drew).congr (fun i hi => by
                rw [Hfs.out, ← Hea.out, ← Heb.out, Hp.out]
                exact swp_set _ _ m l (fol_len _ _) (by omega) (fun _ _ => rfl) i hi), _, ((T7.out.setOther (by simp; omega) _).setOther (by simp; omega) _).drew, fun i j hi hj => by
                  rw [Hlk.out]; unfold lnkStep; rw [Hsg.out]
                  by_cases e1 : i = b ∧ j = a
                  · have e3 : i * 8 + j = b * 8 + a := by omega
                    have e4 : ¬ (i = a ∧ j = b) := by omega
                    rw [if_pos e3, if_neg e4, if_pos e1, e1.1, e1.2, Hu2.out]
                    congr 1; omega
                  · have e3 : ¬ (i * 8 + j = b * 8 + a) := by omega
                    rw [if_neg e3, if_neg e1]
                    by_cases e2 : i = a ∧ j = b
                    · have e4 : i * 8 + j = a * 8 + b := by omega
                      rw [if_pos e4, if_pos e2, e2.1, e2.2, Hu1.out]
                      congr 1; omega
                    · have e4 : ¬ (i * 8 + j = a * 8 + b) := by omega
                      rw [if_neg e4, if_neg e2, Hf2.out i j hi hj]
                      congr 1; omega⟩
              case measure => simp [intOf]; omega
        · obtain rfl : k = L := by omega
          have htk : W.take k = W := by rw [HL.out]; exact List.take_length
          rw [htk] at Hrow ⊢
          have h2 := H2.out.ext Hx.out
          have hc4 : ∀ i, i < m → wr.cell? ⟨b4, o4 + i, none⟩ = some (vs i) := fun i hi => Hx.out.cell (Hc4.out i hi)
          have hr4 : ∀ i, i < m → IS .i64 wr (vs i) m ((List.range m).map fun j => lnk m W k i j) := fun i hi => (Hr4.out i hi).ext Hx.out
          have x8 := X4.out.trans Hx.out
          obtain ⟨w8, rfl⟩ : ∃ w8 : World, w8 = wr := ⟨_, rfl⟩
          have hfb := fol_bd (by rw [← HL.out]; exact Hgood.out) (by omega) (by omega) k (by have := HL.out; omega)
          rw [htk] at hfb
          have hinj := inj_fol (by rw [← HL.out]; exact Hgood.out) (by omega) (by omega) k (by have := HL.out; omega)
          rw [htk] at hinj
          have hpm : ∀ i, i < m → gi (permOf m W) (gi (fol m W) i).toNat = (i : Int) + 1 := fun i hi => by
            unfold permOf inv; exact invTo_gi (fol_len _ _) hinj hfb m (Nat.le_refl _) i hi
          have G2 := Lib.hid h2; have G4 := Lib.hid hc4; have K4 := Lib.hid hr4; have X8 := Lib.hid x8; have Hfb := Lib.hid hfb; have Hpm := Lib.hid hpm
          clear h2 hc4 hr4 x8 hfb hpm hinj Hx H1 H2 Hc4 Hr4 X4 htk HOf Hwc
          go_wp2
          go_loopw [20, 21] (fun i _ wr => ∃ k q : Nat, k ≤ m ∧ i = .int .i64 k ∧ wr = w8.drewN q) (fun i _ _ => m - (intOf i).toNat)
          case atStart => exact ⟨0, 0, Nat.zero_le _, rfl, rfl⟩
          case round =>
            obtain ⟨i, q, hi, rfl, rfl⟩ := hrel
            by_cases hlt : i < m
            · obtain ⟨s1, s2⟩ := Hfb.out i hlt
              obtain ⟨sN, hsN⟩ : ∃ sN : Nat, gi (fol m W) i = sN := ⟨(gi (fol m W) i).toNat, by omega⟩
              have hcs : w8.cell? ⟨A, i, none⟩ = some (.int .i64 (gi (fol m W) i)) := Hrow.out.cell hlt
              have hpi := Hpm.out i hlt
              rw [hsN] at hcs s1 s2 hpi
              obtain ⟨b2, o2, rfl, hc2⟩ := G2.out.at (i := sN) (by omega)
              have hcp := hc2 sN (by omega)
              simp only [Int.toNat_natCast] at hpi
              rw [hpi] at hcp
              have hcv := G4.out i hlt
              obtain ⟨ar, nr, cr, hv, hnr, hcr, hr⟩ := (K4.out i hlt).out
              rw [hv] at hcv
              obtain rfl : m = nr := by rw [hnr]; simp
              obtain rfl : m = cr := hcr.symm
              obtain ⟨br, or, rfl, hcr⟩ := hr.at hlt
              have Hsn := Lib.hid hsN; have Hcr := Lib.hid hcr; have Hhr := Lib.hid hr
              clear hsN hcr hr hv hnr hpi hc2
              go_wp2
              go_loopw [21] (fun j wr => ∃ k q : Nat, k ≤ m ∧ j = .int .i64 k ∧ wr = w8.drewN q) (fun j _ => m - (intOf j).toNat)
              case atStart => exact ⟨0, _, Nat.zero_le _, rfl, rfl⟩
              case round =>
                obtain ⟨j, q', hj, rfl, rfl⟩ := hrel
                by_cases hlt' : j < m
                · have hcj := Hcr.out j hlt'
                  obtain ⟨f, hf64, hf2⟩ := H64.out
                  have hct := hf64.cell (i := i * 8 + j) (by omega)
                  rw [hf2 i j (by omega) (by omega)] at hct
                  rw [gi_range_map _ hlt'] at hcj
                  generalize lnk m W k i j = u at hct hcj
                  have e1 : (i : Int) < m := by omega
                  have e2 : (i : Int) < 8 := by omega
                  have e3 : (j : Int) < m := by omega
                  have e4 : (j : Int) < 8 := by omega
                  have e5 : (0 : Int) ≤ (i : Int) := by omega
                  have e6 : (0 : Int) ≤ (j : Int) := by omega
                  have e7 : (w8.drewN q').cell? ⟨B, i * 8 + j, none⟩ = some (.int .i64 u) := hct
                  clear hf64 hf2 H64
                  go_wp2
                  go_quiet (fail)
                  go_wp2
                  go_roundw
                  case rel => exact ⟨j + 1, _, by omega, by go_num, rfl⟩
                  case measure => simp [intOf]; omega
                · go_wp2
                  go_roundw
                  case rel => exact ⟨i + 1, _, by omega, by go_num, rfl⟩
                  case measure => simp [intOf]; omega
            · obtain rfl : i = m := by omega
              go_wp2_with fail
              refine (lives_calls _).mono ?_
              rintro e w11 ⟨rfl, x11⟩
              go_wp2
              go_ret
              exact ⟨rfl, (X8.out.drewN _).trans x11⟩
end Go.Proofs.Ytbappfeojdehgaa
