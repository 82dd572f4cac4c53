/- Texts of this claim in one file: libraries and walks. -/
import Derived.Deep.CutBlock
import Derived.Shelf.Vars
import Derived.Test.YthllbcjglcplhaaDoorL15
import Derived.Test.YthllbcjglcplhaaDoorL16
import Derived.Test.YthllbcjglcplhaaDoorMKnown2
import Derived.Test.YthllbcjglcplhaaDoorMKnown3
/- LacesKnown: the walk. -/
namespace Go.Proofs.YthllbcjglcplhaaDoor
set_option linter.unusedVariables false
set_option linter.unusedSimpArgs false
set_option maxRecDepth 20000
open Go Go.RowKit

set_option maxHeartbeats 16000000 in
theorem LacesKnown_walk (w : World) (hy : Sy w) (hm : Mx w) : Calls Tryd.prog 10 #[] w (RetT w) := by
  have HY := Lib.hid (fun w' (x : Ext w w') => hy.ext x); have HMx := Lib.hid (fun w' (x : Ext w w') => hm.ext x)
  clear hy hm
  go_enter Tryd.func10, Tryd.ntmps10
  go_wp2
  go_loopw [1, 2, 3, 4, 5, 6, 7, 8, 9] (fun kk i _ _ _ _ _ _ _ wr => ∃ (n : Nat) (K : Int), n ≤ 30 ∧ i = .int .i64 n ∧ kk = .int .i64 K ∧ (0 ≤ K ∧ K ≤ 100002) ∧ Hid (Ext w wr)) (fun _ i _ _ _ _ _ _ _ _ => 30 - (intOf i).toNat)
  case atStart => exact ⟨0, 1, by omega, rfl, rfl, by omega, Lib.hid (Ext.refl w)⟩
  case round =>
    obtain ⟨n, K, hn, rfl, rfl, ⟨k0, k1⟩, HX⟩ := hrel
    obtain ⟨wo, hwo⟩ : ∃ wo, wo = wr := ⟨_, rfl⟩
    subst hwo
    by_cases hlt : n < 30
    · have hlt' : (n : Int) < 30 := by omega
      have m1 : IntKind.u8.wrap (n : Int) = n := IntWalk.u8_in _ ⟨by omega, by omega⟩
      have m1' : (n : Int) % 256 = n := by omega
      obtain ⟨m, hm⟩ : ∃ m : Nat, m = n % 6 := ⟨_, rfl⟩
      have hm6 : m < 6 := by omega
      have hmI : (n : Int) % 6 = (m : Int) := by omega
      have HMi := Lib.hid hmI
      have HN := Lib.hid (show (0 : Int) ≤ n ∧ (n : Int) ≤ 255 by omega)
      clear hm hmI
      go_wp2
      obtain ⟨wx, hwx⟩ : ∃ wx, wx = wo.alloc (.cells #[.int .u8 (n : Int), .slice none 0 0] 56) := ⟨_, rfl⟩
      have hax : AX wo wx wo.heap.size n (.slice none 0 0) [] := by
        rw [hwx]
        exact ⟨UC.nil ((Ext.refl wo).alloc _), B2.new _ _ _ _, Nat.le_refl _, fun k hk => by simp at hk⟩
      have HA0 := Lib.hid hax
      rw [← hwx]
      obtain ⟨g, hg⟩ : ∃ g, g = wo.heap.size := ⟨_, rfl⟩
      rw [← hg] at HA0 ⊢
      clear hax hwx hg
      go_loopw [1, 4, 5, 6] (fun kk i _ _ ws => ∃ (j : Nat) (K : Int) (st : List (List Int)) (a : Option Addr) (ln cp : Nat), j ≤ m ∧ i = .int .i64 j ∧ kk = .int .i64 K ∧ (0 ≤ K ∧ K ≤ 100002) ∧ st.length = j ∧ Hid (AX wo ws g n (.slice a ln cp) st)) (fun _ i _ _ _ => m - (intOf i).toNat)
      case atStart => exact ⟨0, K, [], none, 0, 0, by omega, rfl, rfl, ⟨k0, k1⟩, rfl, HA0⟩
      case round =>
        obtain ⟨j, K, st, a, ln, cp, hj, rfl, rfl, ⟨k0, k1⟩, hst, H⟩ := hrel
        by_cases hjl : j < m
        · have hjl' : (j : Int) < (n : Int) % 6 := by rw [HMi.out]; omega
          obtain ⟨ws, hws⟩ : ∃ ws, ws = wr := ⟨_, rfl⟩
          subst hws
          have HSt := Lib.hid hst
          clear hst
          go_wp2
          go_loopw [1, 5, 6] (fun kk l i wq => ∃ (t : Nat) (K : Int) (xs : List Int) (a : Option Addr) (ln cp : Nat), t ≤ 12 ∧ i = .int .i64 t ∧ l = .slice a ln cp ∧ kk = .int .i64 K ∧ (0 ≤ K ∧ K ≤ 100002) ∧ xs.length = t ∧ Hid (Ext ws wq ∧ wq.ownsRow ws.heap.size 5 1 (.slice a ln cp) t (xs.map (Value.int .u8)) ∧ ∀ i, i < xs.length → 0 ≤ gi xs i ∧ gi xs i ≤ 255)) (fun _ _ i _ => 12 - (intOf i).toNat)
          case atStart => exact ⟨0, K, [], none, 0, 0, by omega, rfl, rfl, rfl, ⟨k0, k1⟩, rfl, Lib.hid ⟨Ext.refl _, World.ownsRow_nil _ _ _ _, fun i hi => by simp at hi⟩⟩
          case round =>
            obtain ⟨t, K, xs, al, ll, cl, ht, rfl, rfl, rfl, ⟨k0, k1⟩, hxs, HO⟩ := hrel
            have HXs := Lib.hid hxs
            clear hxs
            by_cases htl : t < 12
            · have htl' : (t : Int) < 12 := by omega
              obtain ⟨kb, hkb⟩ : ∃ kb, kb = IntKind.u8.wrap K := ⟨_, rfl⟩
              have HKd := Lib.hid (show 0 ≤ kb ∧ kb ≤ 255 by rw [hkb]; exact u8w K)
              have hkm : K % 256 = kb := by rw [hkb]; simp [IntKind.wrap, IntKind.bits, IntKind.signed]
              have hkw := hkb.symm
              have w1 : IntKind.i64.wrap (K * 31) = K * 31 := IntWalk.i64_in _ ⟨by omega, by omega⟩
              have w2 : IntKind.i64.wrap (7 * (t : Int)) = 7 * (t : Int) := IntWalk.i64_in _ ⟨by omega, by omega⟩
              have w3 : IntKind.i64.wrap (K * 31 + 7 * (t : Int)) = K * 31 + 7 * (t : Int) := IntWalk.i64_in _ ⟨by omega, by omega⟩
              have w4 : IntKind.i64.wrap (K * 31 + 7 * (t : Int) + 11) = K * 31 + 7 * (t : Int) + 11 := IntWalk.i64_in _ ⟨by omega, by omega⟩
              have w5 : IntKind.i64.wrap ((K * 31 + 7 * (t : Int) + 11) % 100003) = (K * 31 + 7 * (t : Int) + 11) % 100003 := IntWalk.i64_in _ ⟨by omega, by omega⟩
              have hsz : ws.heap.size ≤ wr.heap.size := HO.out.1.size
              clear hkb
              go_wp2_with (at_builtin; refine app_own eiU8 rfl _ _ rfl ws.heap.size _ t _ rfl (HO.out.2.1.alloc _) _ _ _ rfl (VS.one _ _ _) (one1 _) ?d1 ?d2 ?d3 ?_)
              any_goals (first | omega | (simp; done) | (simp only [List.length_cons, List.length_nil]; omega) | (simp; omega))
              intro v' w' hown hbel
              obtain ⟨a6, c6, hvf⟩ := own_form hown
              subst hvf
              have hX : Ext ws w' := Below.trans HO.out.1 (((Below.refl ws.heap.size wr).alloc hsz _).trans hbel)
              have HN2 := Lib.hid (show Ext ws w' ∧ w'.ownsRow ws.heap.size 5 1 (.slice a6 (t + 1) c6) (t + 1) ((xs ++ [kb]).map (Value.int .u8)) ∧ ∀ i, i < (xs ++ [kb]).length → 0 ≤ gi (xs ++ [kb]) i ∧ gi (xs ++ [kb]) i ≤ 255 from by
                refine ⟨hX, by rw [List.map_append]; exact hown, fun i hi => ?_⟩
                rw [List.length_append, List.length_singleton] at hi
                by_cases e : i < xs.length
                · rw [gi_append_left e]; exact HO.out.2.2 i e
                · obtain rfl : i = xs.length := by omega
                  rw [gi_append_right (Nat.le_refl _)]; simpa [gi] using HKd.out)
              clear hown hbel hX
              go_wp2
              go_roundw
              case rel => exact ⟨t + 1, _, xs ++ [kb], a6, t + 1, c6, by omega, by go_num, rfl, rfl, by omega, by rw [List.length_append, HXs.out]; rfl, HN2⟩
              case measure => simp [intOf]; omega
            · obtain rfl : t = 12 := by omega
              have htl' : ¬ ((12 : Nat) : Int) < 12 := by omega
              have hax := H.out.later HO.out.1
              have huv : UV wr (.slice al ll cl) xs := ⟨_, by rw [HXs.out]; exact HO.out.2.1⟩
              have HAx := Lib.hid hax; have HUv := Lib.hid huv
              have c0 := hax.2.1.c0; have c1 := hax.2.1.c1; have hgs : g < wr.heap.size := hax.2.1.lt
              have hsl : st.length ≤ 100000 := by have := HSt.out; omega
              clear hax huv
              go_wp2_with (at_builtin; go_loud (refine app_u8s rfl _ _ rfl wo _ st rfl HAx.out.1 _ _ HUv.out wr.heap.size rfl rfl hsl ?_))
              intro v' w' hco' hkeep
              have hn2 : B2 w' g (.int .u8 (n : Int)) (.slice a ln cp) 56 := by first | exact hkeep _ _ _ _ HAx.out.2.1 (by decide) | exact hkeep _ _ _ _ _ HAx.out.2.1 (by decide)
              have hn1 := AX.next HAx.out.2.2.1 HAx.out.2.2.2 HO.out.2.2 hco' hn2
              obtain ⟨a2, c2', hv⟩ := hco'.form
              rw [List.length_append, List.length_singleton] at hv
              subst hv
              have HN := Lib.hid hn1
              have g1 := hn2.c1; have g2 := hn2.f1
              clear hco' hkeep hn1 hn2 c0 c1 hgs hsl
              go_wp2
              go_roundw
              case rel => exact ⟨j + 1, K, st ++ [xs], a2, _, c2', by omega, by go_num, rfl, ⟨k0, k1⟩, by rw [List.length_append, HSt.out]; rfl, HN⟩
              case measure => simp [intOf]; omega
        · obtain rfl : m = j := by omega
          have hjl' : ¬ (m : Int) < (n : Int) % 6 := by rw [HMi.out]; omega
          have HK := Lib.hid (And.intro k0 k1)
          obtain ⟨cI, hI⟩ := H.out.1.iss
          have HBy := Lib.hid H.out.2.2.2
          have X0 := Lib.hid (HX.out.trans H.out.1.1)
          have c0 := H.out.2.1.c0; have c1 := H.out.2.1.c1
          have HB := Lib.hid (fun w' (x : Ext wr w') => H.out.2.1.ext x)
          obtain ⟨vs, caps, hV⟩ := id hI
          obtain ⟨ax, nx, hxe, j1, j2, j3, j4⟩ := hV.outs2
          clear j1 j2 j3 j4
          simp only [Value.slice.injEq] at hxe
          obtain ⟨rfl, rfl, rfl⟩ := hxe
          have HI := Lib.hid (fun w' (x : Ext wr w') => hI.ext x)
          have hof := AOf_calls n _ _ st wr hI HN.out HBy.out
          have HOf := Lib.hid hof
          clear hI hV hof hst hjl hj k0 k1
          go_wp2_with fail
          refine HOf.out.mono ?_
          rintro e w1 ⟨V, v1, c1', rows, rfl, hr, hk, hr9, x1⟩
          obtain ⟨⟨hV2, hV16⟩, hrl, hbl, hbp⟩ := lace_bd hk
          obtain ⟨hcE, hcR⟩ := lcE_ok hk (y := 2) (by omega)
          obtain ⟨a1, N, rfl, hN, o1, o2, o3⟩ := hr.open
          obtain ⟨W1, hW1⟩ : ∃ W1, W1 = w1.alloc (.cells #[.int .i64 (V : Int), .slice a1 N c1'] 24) := ⟨_, rfl⟩
          have xW1 : Ext w1 W1 := by rw [hW1]; exact (Ext.refl w1).alloc _
          have hb3 : B2 W1 w1.heap.size (.int .i64 (V : Int)) (.slice a1 N c1') 24 := by rw [hW1]; exact B2.new _ _ _ _
          have hct := LChart_calls V 2 _ _ rows W1 (hr.ext xW1) (by omega)
          rw [hcE, hcR] at hct
          have HCt := Lib.hid hct; have HW1 := Lib.hid hW1; have HB3 := Lib.hid (fun w' (x : Ext W1 w') => hb3.ext x); have X1 := Lib.hid (x1.trans xW1)
          have HR1 := Lib.hid (fun w' (x : Ext W1 w') => hr.ext (xW1.trans x))
          have f0 := hb3.c0; have f1 := hb3.c1
          rw [hW1] at f0 f1
          clear hr hk x1 xW1 hb3 hW1 hbl hbp hr9 hrl o1 o2 o3 hN hct hcE hcR HOf hV2 hV16 c0 c1
          go_wp2_with fail
          rw [← HW1.out]
          refine HCt.out.mono ?_
          rintro e w2 ⟨v2, rfl, hr2, x2⟩
          obtain ⟨c2, hc2⟩ : ∃ c2, c2 = (lch V 2 rows).length := ⟨_, rfl⟩
          rw [← hc2] at hr2
          obtain ⟨a2, n2, rfl, o1, o2, o3, o4⟩ := hr2.open
          obtain ⟨W2, hW2⟩ : ∃ W2, W2 = w2.alloc (.cells #[.slice a2 n2 c2] 28) := ⟨_, rfl⟩
          have xW2 : Ext w2 W2 := by rw [hW2]; exact (Ext.refl w2).alloc _
          have hb4 : W2.cell? ⟨w2.heap.size, 0, none⟩ = some (.slice a2 n2 c2) := by rw [hW2, World.cell?_alloc_at (hn := rfl)]; rfl
          have HW2 := Lib.hid hW2; have Y2 := Lib.hid (x2.trans xW2); have X2 := Lib.hid (X1.out.trans (x2.trans xW2))
          have HR2 := Lib.hid (fun w' (x : Ext W2 w') => hr2.ext (xW2.trans x))
          have q0_1 := (HB.out _ X2.out).c0; have q0_2 := (HB.out _ X2.out).c1
          have q0_3 := (HB3.out _ Y2.out).c0; have q0_4 := (HB3.out _ Y2.out).c1
          have q0_5 := hb4
          obtain ⟨e5, he5⟩ : ∃ e : Int, (n : Int) % 5 = e := ⟨_, rfl⟩
          obtain ⟨e8, he8⟩ : ∃ e : Int, (n : Int) % 8 = e := ⟨_, rfl⟩
          have m5 : IntKind.i64.wrap e5 = e5 := IntWalk.i64_in _ ⟨by omega, by omega⟩
          have m5' : IntKind.i64.wrap (e5 - 2) = e5 - 2 := IntWalk.i64_in _ ⟨by omega, by omega⟩
          have m8 : IntKind.i64.wrap e8 = e8 := IntWalk.i64_in _ ⟨by omega, by omega⟩
          have m8' : IntKind.u8.wrap e8 = e8 := IntWalk.u8_in _ ⟨by omega, by omega⟩
          have m8'' : e8 % 256 = e8 := by omega
          have m9 : IntKind.i64.wrap ((n : Int) - 9) = (n : Int) - 9 := IntWalk.i64_in _ ⟨by omega, by omega⟩
          have u5 : (n : Int).tmod 5 = e5 := by rw [Int.tmod_eq_emod_of_nonneg (by omega)]; exact he5
          have u8' : (n : Int).tmod 8 = e8 := by rw [Int.tmod_eq_emod_of_nonneg (by omega)]; exact he8
          have u6 : (n : Int).tmod 6 = (m : Int) := by rw [Int.tmod_eq_emod_of_nonneg (by omega)]; exact HMi.out
          have u6' := HMi.out
          have m6 : IntKind.i64.wrap (m : Int) = m := IntWalk.i64_in _ ⟨by omega, by omega⟩
          have t6 : (0 : Int) ≤ m := by omega
          have t6' : (m : Int) < 6 := by omega
          have HE5 := Lib.hid (show -9223372036854775808 ≤ e5 - 2 ∧ e5 - 2 ≤ 9223372036854775807 by omega); have HE8 := Lib.hid (show 0 ≤ e8 ∧ e8 ≤ 255 by omega)
          have HM6 := Lib.hid hm6
          have HYY := Lib.hid (fun w' (x : Ext W2 w') => HY.out w' (X0.out.trans (X2.out.trans x))); have HMM := Lib.hid (fun w' (x : Ext W2 w') => HMx.out w' (X0.out.trans (X2.out.trans x)))
          have HIs := Lib.hid (fun w' (x : Ext W2 w') => HI.out w' (X2.out.trans x)); have HRl := Lib.hid (fun w' (x : Ext W2 w') => HR1.out w' (Y2.out.trans x))
          have f0 := q0_1; have f1 := q0_2; have f2 := q0_3; have f3 := q0_4; have f4 := q0_5
          rw [hW2] at f0 f1 f2 f3 f4
          clear hr2 hc2 x2 xW2 hb4 hW2 HCt o1 o2 o3 o4
          go_wp2_with fail
          rw [← HW2.out]
          clear f0 f1 f2 f3 f4
          refine wp_region_held_drew (S := fun w' => w'.cell? ⟨g, 0, Option.none⟩ = some (.int .u8 (n : Int)) ∧ w'.cell? ⟨g, 1, Option.none⟩ = some (.slice a ln cp) ∧ w'.cell? ⟨w1.heap.size, 0, Option.none⟩ = some (.int .i64 (V : Int)) ∧ w'.cell? ⟨w1.heap.size, 1, Option.none⟩ = some (.slice a1 N c1') ∧ w'.cell? ⟨w2.heap.size, 0, Option.none⟩ = some (.slice a2 n2 c2)) (by kernel_rfl) ?_ (fun hHeld => ?_)
          · exact ⟨q0_1, q0_2, q0_3, q0_4, q0_5⟩
          refine wpAnyH_take (i := 0) (v := ?va186_0) rfl (by kernel_rfl) (by kernel_rfl) (by kernel_rfl) (fun _ _ _ h => h) (Or.inl ⟨by rfl, fun w hSw => ?ti186_0⟩) (by assumption) ?rest186_0
          case ti186_0 => ((try dsimp only at hSw); go_simp; (first | done | with_reducible rfl))
          try simp only [Act.put, List.getElem_toArray, List.getElem_cons_zero, List.getElem_cons_succ, List.setIfInBounds_toArray, List.set_cons_zero, List.set_cons_succ]
          refine wpAnyH_take (i := 1) (v := ?va189_1) rfl (by kernel_rfl) (by kernel_rfl) (by kernel_rfl) (fun _ _ _ h => h) (Or.inl ⟨by rfl, fun w hSw => ?ti189_1⟩) (by assumption) ?rest189_1
          case ti189_1 => ((try dsimp only at hSw); go_simp; (first | done | with_reducible rfl))
          try simp only [Act.put, List.getElem_toArray, List.getElem_cons_zero, List.getElem_cons_succ, List.setIfInBounds_toArray, List.set_cons_zero, List.set_cons_succ]
          refine wpAnyH_take (i := 2) (v := ?va192_2) rfl (by kernel_rfl) (by kernel_rfl) (by kernel_rfl) (fun _ _ _ h => h) (Or.inl ⟨by rfl, fun w hSw => ?ti192_2⟩) (by assumption) ?rest192_2
          case ti192_2 => ((try dsimp only at hSw); go_simp; (first | done | with_reducible rfl))
          try simp only [Act.put, List.getElem_toArray, List.getElem_cons_zero, List.getElem_cons_succ, List.setIfInBounds_toArray, List.set_cons_zero, List.set_cons_succ]
          refine wpAnyH_ready (rs := [3]) (by kernel_rfl) (by simp) ?_
          refine AllReadyH.cons rfl (fun K hK => ?_) AllReadyH.nil
          go_simp
          refine (LacesChart_walk n n _ _ st _ (HIs.out _ ?_) HN.out HBy.out HN.out (HYY.out _ ?_)).mono ?_
          · (repeat (first | (with_reducible exact Ext.refl _) | (with_reducible apply Ext.drew) | (with_reducible apply Ext.drewN) | (with_reducible apply Ext.alloc)))
          · (repeat (first | (with_reducible exact Ext.refl _) | (with_reducible apply Ext.drew) | (with_reducible apply Ext.drewN) | (with_reducible apply Ext.alloc)))
          intro e y1 hh
          obtain ⟨rfl, x⟩ := hh
          have Y1 : Hid (Ext W2 y1) := Lib.hid (Ext.trans (by ((repeat (first | (with_reducible exact Ext.refl _) | (with_reducible apply Ext.drew) | (with_reducible apply Ext.drewN) | (with_reducible apply Ext.alloc))); done)) x)
          have q1_1 := Y1.out.cell q0_1
          have q1_2 := Y1.out.cell q0_2
          have q1_3 := Y1.out.cell q0_3
          have q1_4 := Y1.out.cell q0_4
          have q1_5 := Y1.out.cell q0_5
          go_simp
          refine hK.out _ _ ?_ (fun hHeld => ?_)
          · exact ⟨q1_1, q1_2, q1_3, q1_4, q1_5⟩
          clear hK K x
          try simp only [Act.put, List.getElem_toArray, List.getElem_cons_zero, List.getElem_cons_succ, List.setIfInBounds_toArray, List.set_cons_zero, List.set_cons_succ]
          refine wpAnyH_take (i := 4) (v := ?va214_4) rfl (by kernel_rfl) (by kernel_rfl) (by kernel_rfl) (fun _ _ _ h => h) (Or.inl ⟨by rfl, fun w hSw => ?ti214_4⟩) (by assumption) ?rest214_4
          case ti214_4 => ((try dsimp only at hSw); go_simp; (first | done | with_reducible rfl))
          try simp only [Act.put, List.getElem_toArray, List.getElem_cons_zero, List.getElem_cons_succ, List.setIfInBounds_toArray, List.set_cons_zero, List.set_cons_succ]
          refine wpAnyH_take (i := 5) (v := ?va217_5) rfl (by kernel_rfl) (by kernel_rfl) (by kernel_rfl) (fun _ _ _ h => h) (Or.inl ⟨by rfl, fun w hSw => ?ti217_5⟩) (by assumption) ?rest217_5
          case ti217_5 => ((try dsimp only at hSw); go_simp; (first | done | with_reducible rfl))
          try simp only [Act.put, List.getElem_toArray, List.getElem_cons_zero, List.getElem_cons_succ, List.setIfInBounds_toArray, List.set_cons_zero, List.set_cons_succ]
          refine wpAnyH_take (i := 6) (v := ?va220_6) rfl (by kernel_rfl) (by kernel_rfl) (by kernel_rfl) (fun _ _ _ h => h) (Or.inl ⟨by rfl, fun w hSw => ?ti220_6⟩) (by assumption) ?rest220_6
          case ti220_6 => ((try dsimp only at hSw); go_simp; (first | done | with_reducible rfl))
          try simp only [Act.put, List.getElem_toArray, List.getElem_cons_zero, List.getElem_cons_succ, List.setIfInBounds_toArray, List.set_cons_zero, List.set_cons_succ]
          refine wpAnyH_ready (rs := [7]) (by kernel_rfl) (by simp) ?_
          refine AllReadyH.cons rfl (fun K hK => ?_) AllReadyH.nil
          go_simp
          refine (LacesMirror_walk n _ _ st _ (HIs.out _ ?_) HN.out HBy.out (HYY.out _ ?_)).mono ?_
          · (refine Ext.trans Y1.out ?_; (repeat (first | (with_reducible exact Ext.refl _) | (with_reducible apply Ext.drew) | (with_reducible apply Ext.drewN) | (with_reducible apply Ext.alloc))))
          · (refine Ext.trans Y1.out ?_; (repeat (first | (with_reducible exact Ext.refl _) | (with_reducible apply Ext.drew) | (with_reducible apply Ext.drewN) | (with_reducible apply Ext.alloc))))
          intro e y2 hh
          obtain ⟨rfl, x⟩ := hh
          have Z2 : Hid (Ext W2 y2) := Lib.hid (Ext.trans Y1.out (Ext.trans (by ((repeat (first | (with_reducible exact Ext.refl _) | (with_reducible apply Ext.drew) | (with_reducible apply Ext.drewN) | (with_reducible apply Ext.alloc))); done)) x))
          have q2_1 := Z2.out.cell q0_1
          have q2_2 := Z2.out.cell q0_2
          have q2_3 := Z2.out.cell q0_3
          have q2_4 := Z2.out.cell q0_4
          have q2_5 := Z2.out.cell q0_5
          go_simp
          refine hK.out _ _ ?_ (fun hHeld => ?_)
          · exact ⟨q2_1, q2_2, q2_3, q2_4, q2_5⟩
          clear hK K x
          try simp only [Act.put, List.getElem_toArray, List.getElem_cons_zero, List.getElem_cons_succ, List.setIfInBounds_toArray, List.set_cons_zero, List.set_cons_succ]
          refine wpAnyH_take (i := 8) (v := ?va242_8) rfl (by kernel_rfl) (by kernel_rfl) (by kernel_rfl) (fun _ _ _ h => h) (Or.inl ⟨by rfl, fun w hSw => ?ti242_8⟩) (by assumption) ?rest242_8
          case ti242_8 => ((try dsimp only at hSw); go_simp; (first | done | with_reducible rfl))
          try simp only [Act.put, List.getElem_toArray, List.getElem_cons_zero, List.getElem_cons_succ, List.setIfInBounds_toArray, List.set_cons_zero, List.set_cons_succ]
          refine wpAnyH_take (i := 9) (v := ?va245_9) rfl (by kernel_rfl) (by kernel_rfl) (by kernel_rfl) (fun _ _ _ h => h) (Or.inl ⟨by rfl, fun w hSw => ?ti245_9⟩) (by assumption) ?rest245_9
          case ti245_9 => ((try dsimp only at hSw); go_simp; (first | done | with_reducible rfl))
          try simp only [Act.put, List.getElem_toArray, List.getElem_cons_zero, List.getElem_cons_succ, List.setIfInBounds_toArray, List.set_cons_zero, List.set_cons_succ]
          refine wpAnyH_take (i := 10) (v := ?va248_10) rfl (by kernel_rfl) (by kernel_rfl) (by kernel_rfl) (fun _ _ _ h => h) (Or.inl ⟨by rfl, fun w hSw => ?ti248_10⟩) (by assumption) ?rest248_10
          case ti248_10 => ((try dsimp only at hSw); go_simp; (first | done | with_reducible rfl))
          try simp only [Act.put, List.getElem_toArray, List.getElem_cons_zero, List.getElem_cons_succ, List.setIfInBounds_toArray, List.set_cons_zero, List.set_cons_succ]
          refine wpAnyH_take (i := 11) (v := ?va251_11) rfl (by kernel_rfl) (by kernel_rfl) (by kernel_rfl) (fun _ _ _ h => h) (Or.inl ⟨by rfl, fun w hSw => ?ti251_11⟩) (by assumption) ?rest251_11
          case ti251_11 => ((try dsimp only at hSw); go_simp; (first | done | with_reducible rfl))
          try simp only [Act.put, List.getElem_toArray, List.getElem_cons_zero, List.getElem_cons_succ, List.setIfInBounds_toArray, List.set_cons_zero, List.set_cons_succ]
          refine wpAnyH_take (i := 12) (v := ?va254_12) rfl (by kernel_rfl) (by kernel_rfl) (by kernel_rfl) (fun _ _ _ h => h) (Or.inl ⟨by rfl, fun w hSw => ?ti254_12⟩) (by assumption) ?rest254_12
          case ti254_12 => ((try dsimp only at hSw); go_simp; (first | done | with_reducible rfl))
          try simp only [Act.put, List.getElem_toArray, List.getElem_cons_zero, List.getElem_cons_succ, List.setIfInBounds_toArray, List.set_cons_zero, List.set_cons_succ]
          refine wpAnyH_take (i := 13) (v := ?va257_13) rfl (by kernel_rfl) (by kernel_rfl) (by kernel_rfl) (fun _ _ _ h => h) (Or.inl ⟨by rfl, fun w hSw => ?ti257_13⟩) (by assumption) ?rest257_13
          case ti257_13 => ((try dsimp only at hSw); go_simp; (first | done | with_reducible rfl))
          try simp only [Act.put, List.getElem_toArray, List.getElem_cons_zero, List.getElem_cons_succ, List.setIfInBounds_toArray, List.set_cons_zero, List.set_cons_succ]
          refine wpAnyH_take (i := 14) (v := ?va260_14) rfl (by kernel_rfl) (by kernel_rfl) (by kernel_rfl) (fun _ _ _ h => h) (Or.inl ⟨by rfl, fun w hSw => ?ti260_14⟩) (by assumption) ?rest260_14
          case ti260_14 => ((try dsimp only at hSw); go_simp; (first | done | with_reducible rfl))
          try simp only [Act.put, List.getElem_toArray, List.getElem_cons_zero, List.getElem_cons_succ, List.setIfInBounds_toArray, List.set_cons_zero, List.set_cons_succ]
          refine wpAnyH_ready (rs := [15]) (by kernel_rfl) (by simp) ?_
          refine AllReadyH.cons rfl (fun K hK => ?_) AllReadyH.nil
          go_simp
          refine (LacesShift_walk n (e5 - 2) _ _ st _ (HIs.out _ ?_) HN.out HBy.out HE5.out (HYY.out _ ?_)).mono ?_
          · (refine Ext.trans Z2.out ?_; (repeat (first | (with_reducible exact Ext.refl _) | (with_reducible apply Ext.drew) | (with_reducible apply Ext.drewN) | (with_reducible apply Ext.alloc))))
          · (refine Ext.trans Z2.out ?_; (repeat (first | (with_reducible exact Ext.refl _) | (with_reducible apply Ext.drew) | (with_reducible apply Ext.drewN) | (with_reducible apply Ext.alloc))))
          intro e y3 hh
          obtain ⟨rfl, x⟩ := hh
          have Y3 : Hid (Ext W2 y3) := Lib.hid (Ext.trans Z2.out (Ext.trans (by ((repeat (first | (with_reducible exact Ext.refl _) | (with_reducible apply Ext.drew) | (with_reducible apply Ext.drewN) | (with_reducible apply Ext.alloc))); done)) x))
          have q3_1 := Y3.out.cell q0_1
          have q3_2 := Y3.out.cell q0_2
          have q3_3 := Y3.out.cell q0_3
          have q3_4 := Y3.out.cell q0_4
          have q3_5 := Y3.out.cell q0_5
          go_simp
          refine hK.out _ _ ?_ (fun hHeld => ?_)
          · exact ⟨q3_1, q3_2, q3_3, q3_4, q3_5⟩
          clear hK K x
          try simp only [Act.put, List.getElem_toArray, List.getElem_cons_zero, List.getElem_cons_succ, List.setIfInBounds_toArray, List.set_cons_zero, List.set_cons_succ]
          refine wpAnyH_take (i := 16) (v := ?va282_16) rfl (by kernel_rfl) (by kernel_rfl) (by kernel_rfl) (fun _ _ _ h => h) (Or.inl ⟨by rfl, fun w hSw => ?ti282_16⟩) (by assumption) ?rest282_16
          case ti282_16 => ((try dsimp only at hSw); go_simp; (first | done | with_reducible rfl))
          try simp only [Act.put, List.getElem_toArray, List.getElem_cons_zero, List.getElem_cons_succ, List.setIfInBounds_toArray, List.set_cons_zero, List.set_cons_succ]
          refine wpAnyH_take (i := 17) (v := ?va285_17) rfl (by kernel_rfl) (by kernel_rfl) (by kernel_rfl) (fun _ _ _ h => h) (Or.inl ⟨by rfl, fun w hSw => ?ti285_17⟩) (by assumption) ?rest285_17
          case ti285_17 => ((try dsimp only at hSw); go_simp; (first | done | with_reducible rfl))
          try simp only [Act.put, List.getElem_toArray, List.getElem_cons_zero, List.getElem_cons_succ, List.setIfInBounds_toArray, List.set_cons_zero, List.set_cons_succ]
          refine wpAnyH_take (i := 18) (v := ?va288_18) rfl (by kernel_rfl) (by kernel_rfl) (by kernel_rfl) (fun _ _ _ h => h) (Or.inl ⟨by rfl, fun w hSw => ?ti288_18⟩) (by assumption) ?rest288_18
          case ti288_18 => ((try dsimp only at hSw); go_simp; (first | done | with_reducible rfl))
          try simp only [Act.put, List.getElem_toArray, List.getElem_cons_zero, List.getElem_cons_succ, List.setIfInBounds_toArray, List.set_cons_zero, List.set_cons_succ]
          refine wpAnyH_take (i := 19) (v := ?va291_19) rfl (by kernel_rfl) (by kernel_rfl) (by kernel_rfl) (fun _ _ _ h => h) (Or.inl ⟨by rfl, fun w hSw => ?ti291_19⟩) (by assumption) ?rest291_19
          case ti291_19 => ((try dsimp only at hSw); go_simp; (first | done | with_reducible rfl))
          try simp only [Act.put, List.getElem_toArray, List.getElem_cons_zero, List.getElem_cons_succ, List.setIfInBounds_toArray, List.set_cons_zero, List.set_cons_succ]
          refine wpAnyH_take (i := 20) (v := ?va294_20) rfl (by kernel_rfl) (by kernel_rfl) (by kernel_rfl) (fun _ _ _ h => h) (Or.inl ⟨by rfl, fun w hSw => ?ti294_20⟩) (by assumption) ?rest294_20
          case ti294_20 => ((try dsimp only at hSw); go_simp; (first | done | with_reducible rfl))
          try simp only [Act.put, List.getElem_toArray, List.getElem_cons_zero, List.getElem_cons_succ, List.setIfInBounds_toArray, List.set_cons_zero, List.set_cons_succ]
          refine wpAnyH_take (i := 21) (v := ?va297_21) rfl (by kernel_rfl) (by kernel_rfl) (by kernel_rfl) (fun _ _ _ h => h) (Or.inl ⟨by rfl, fun w hSw => ?ti297_21⟩) (by assumption) ?rest297_21
          case ti297_21 => ((try dsimp only at hSw); go_simp; (first | done | with_reducible rfl))
          try simp only [Act.put, List.getElem_toArray, List.getElem_cons_zero, List.getElem_cons_succ, List.setIfInBounds_toArray, List.set_cons_zero, List.set_cons_succ]
          refine wpAnyH_take (i := 22) (v := ?va300_22) rfl (by kernel_rfl) (by kernel_rfl) (by kernel_rfl) (fun _ _ _ h => h) (Or.inl ⟨by rfl, fun w hSw => ?ti300_22⟩) (by assumption) ?rest300_22
          case ti300_22 => ((try dsimp only at hSw); go_simp; (first | done | with_reducible rfl))
          try simp only [Act.put, List.getElem_toArray, List.getElem_cons_zero, List.getElem_cons_succ, List.setIfInBounds_toArray, List.set_cons_zero, List.set_cons_succ]
          refine wpAnyH_take (i := 23) (v := ?va303_23) rfl (by kernel_rfl) (by kernel_rfl) (by kernel_rfl) (fun _ _ _ h => h) (Or.inl ⟨by rfl, fun w hSw => ?ti303_23⟩) (by assumption) ?rest303_23
          case ti303_23 => ((try dsimp only at hSw); go_simp; (first | done | with_reducible rfl))
          try simp only [Act.put, List.getElem_toArray, List.getElem_cons_zero, List.getElem_cons_succ, List.setIfInBounds_toArray, List.set_cons_zero, List.set_cons_succ]
          refine wpAnyH_take (i := 24) (v := ?va306_24) rfl (by kernel_rfl) (by kernel_rfl) (by kernel_rfl) (fun _ _ _ h => h) (Or.inl ⟨by rfl, fun w hSw => ?ti306_24⟩) (by assumption) ?rest306_24
          case ti306_24 => ((try dsimp only at hSw); go_simp; (first | done | with_reducible rfl))
          try simp only [Act.put, List.getElem_toArray, List.getElem_cons_zero, List.getElem_cons_succ, List.setIfInBounds_toArray, List.set_cons_zero, List.set_cons_succ]
          refine wpAnyH_ready (rs := [25]) (by kernel_rfl) (by simp) ?_
          refine AllReadyH.cons rfl (fun K hK => ?_) AllReadyH.nil
          go_simp
          refine (LacesCheck_walk V e8 ((n : Int) - 9) _ _ rows _ (HRl.out _ ?_) HE8.out (HYY.out _ ?_)).mono ?_
          · (refine Ext.trans Y3.out ?_; (repeat (first | (with_reducible exact Ext.refl _) | (with_reducible apply Ext.drew) | (with_reducible apply Ext.drewN) | (with_reducible apply Ext.alloc))))
          · (refine Ext.trans Y3.out ?_; (repeat (first | (with_reducible exact Ext.refl _) | (with_reducible apply Ext.drew) | (with_reducible apply Ext.drewN) | (with_reducible apply Ext.alloc))))
          intro e y4 hh
          obtain ⟨rfl, x⟩ := hh
          have Y4 : Hid (Ext W2 y4) := Lib.hid (Ext.trans Y3.out (Ext.trans (by ((repeat (first | (with_reducible exact Ext.refl _) | (with_reducible apply Ext.drew) | (with_reducible apply Ext.drewN) | (with_reducible apply Ext.alloc))); done)) x))
          have q4_1 := Y4.out.cell q0_1
          have q4_2 := Y4.out.cell q0_2
          have q4_3 := Y4.out.cell q0_3
          have q4_4 := Y4.out.cell q0_4
          have q4_5 := Y4.out.cell q0_5
          go_simp
          refine hK.out _ _ ?_ (fun hHeld => ?_)
          · exact ⟨q4_1, q4_2, q4_3, q4_4, q4_5⟩
          clear hK K x
          try simp only [Act.put, List.getElem_toArray, List.getElem_cons_zero, List.getElem_cons_succ, List.setIfInBounds_toArray, List.set_cons_zero, List.set_cons_succ]
          refine wpAnyH_take (i := 26) (v := ?va328_26) rfl (by kernel_rfl) (by kernel_rfl) (by kernel_rfl) (fun _ _ _ h => h) (Or.inl ⟨by rfl, fun w hSw => ?ti328_26⟩) (by assumption) ?rest328_26
          case ti328_26 => ((try dsimp only at hSw); go_simp; (first | done | with_reducible rfl))
          try simp only [Act.put, List.getElem_toArray, List.getElem_cons_zero, List.getElem_cons_succ, List.setIfInBounds_toArray, List.set_cons_zero, List.set_cons_succ]
          refine wpAnyH_take (i := 27) (v := ?va331_27) rfl (by kernel_rfl) (by kernel_rfl) (by kernel_rfl) (fun _ _ _ h => h) (Or.inl ⟨by rfl, fun w hSw => ?ti331_27⟩) (by assumption) ?rest331_27
          case ti331_27 => ((try dsimp only at hSw); go_simp; (first | done | with_reducible rfl))
          try simp only [Act.put, List.getElem_toArray, List.getElem_cons_zero, List.getElem_cons_succ, List.setIfInBounds_toArray, List.set_cons_zero, List.set_cons_succ]
          refine wpAnyH_take (i := 28) (v := ?va334_28) rfl (by kernel_rfl) (by kernel_rfl) (by kernel_rfl) (fun _ _ _ h => h) (Or.inl ⟨by rfl, fun w hSw => ?ti334_28⟩) (by assumption) ?rest334_28
          case ti334_28 => ((try dsimp only at hSw); go_simp; (first | done | with_reducible rfl))
          try simp only [Act.put, List.getElem_toArray, List.getElem_cons_zero, List.getElem_cons_succ, List.setIfInBounds_toArray, List.set_cons_zero, List.set_cons_succ]
          refine wpAnyH_take (i := 29) (v := ?va337_29) rfl (by kernel_rfl) (by kernel_rfl) (by kernel_rfl) (fun _ _ _ h => h) (Or.inl ⟨by rfl, fun w hSw => ?ti337_29⟩) (by assumption) ?rest337_29
          case ti337_29 => ((try dsimp only at hSw); go_simp; (first | done | with_reducible rfl))
          try simp only [Act.put, List.getElem_toArray, List.getElem_cons_zero, List.getElem_cons_succ, List.setIfInBounds_toArray, List.set_cons_zero, List.set_cons_succ]
          refine wpAnyH_ready (rs := [30]) (by kernel_rfl) (by simp) ?_
          refine AllReadyH.cons rfl (fun K hK => ?_) AllReadyH.nil
          go_simp
          refine (LacesOf_walk _ _ (lch V 2 rows) _ (HR2.out _ ?_) (lch_in (by omega)) (HYY.out _ ?_)).mono ?_
          · (refine Ext.trans Y4.out ?_; (repeat (first | (with_reducible exact Ext.refl _) | (with_reducible apply Ext.drew) | (with_reducible apply Ext.drewN) | (with_reducible apply Ext.alloc))))
          · (refine Ext.trans Y4.out ?_; (repeat (first | (with_reducible exact Ext.refl _) | (with_reducible apply Ext.drew) | (with_reducible apply Ext.drewN) | (with_reducible apply Ext.alloc))))
          intro e y5 hh
          obtain ⟨rfl, x⟩ := hh
          have Y5 : Hid (Ext W2 y5) := Lib.hid (Ext.trans Y4.out (Ext.trans (by ((repeat (first | (with_reducible exact Ext.refl _) | (with_reducible apply Ext.drew) | (with_reducible apply Ext.drewN) | (with_reducible apply Ext.alloc))); done)) x))
          have q5_1 := Y5.out.cell q0_1
          have q5_2 := Y5.out.cell q0_2
          have q5_3 := Y5.out.cell q0_3
          have q5_4 := Y5.out.cell q0_4
          have q5_5 := Y5.out.cell q0_5
          obtain ⟨SK, hSK⟩ := lit6 y5 HM6.out
          go_simp
          refine hK.out _ _ ?_ (fun hHeld => ?_)
          · exact ⟨q5_1, q5_2, q5_3, q5_4, q5_5⟩
          clear hK K x
          try simp only [Act.put, List.getElem_toArray, List.getElem_cons_zero, List.getElem_cons_succ, List.setIfInBounds_toArray, List.set_cons_zero, List.set_cons_succ]
          refine wpAnyH_take (i := 31) (v := ?va360_31) rfl (by kernel_rfl) (by kernel_rfl) (by kernel_rfl) (fun _ _ _ h => h) (Or.inl ⟨by rfl, fun w hSw => ?ti360_31⟩) (by assumption) ?rest360_31
          case ti360_31 => ((try dsimp only at hSw); go_simp; (first | done | with_reducible rfl))
          try simp only [Act.put, List.getElem_toArray, List.getElem_cons_zero, List.getElem_cons_succ, List.setIfInBounds_toArray, List.set_cons_zero, List.set_cons_succ]
          refine wpAnyH_take (i := 32) (v := ?va363_32) rfl (by kernel_rfl) (by kernel_rfl) (by kernel_rfl) (fun _ _ _ h => h) (Or.inl ⟨by rfl, fun w hSw => ?ti363_32⟩) (by assumption) ?rest363_32
          case ti363_32 => ((try dsimp only at hSw); go_simp; (first | done | with_reducible rfl))
          try simp only [Act.put, List.getElem_toArray, List.getElem_cons_zero, List.getElem_cons_succ, List.setIfInBounds_toArray, List.set_cons_zero, List.set_cons_succ]
          refine wpAnyH_take (i := 33) (v := ?va366_33) rfl (by kernel_rfl) (by kernel_rfl) (by kernel_rfl) (fun _ _ _ h => h) (Or.inl ⟨by rfl, fun w hSw => ?ti366_33⟩) (by assumption) ?rest366_33
          case ti366_33 => ((try dsimp only at hSw); go_simp; (first | done | with_reducible rfl))
          try simp only [Act.put, List.getElem_toArray, List.getElem_cons_zero, List.getElem_cons_succ, List.setIfInBounds_toArray, List.set_cons_zero, List.set_cons_succ]
          refine wpAnyH_take (i := 34) (v := ?va369_34) rfl (by kernel_rfl) (by kernel_rfl) (by kernel_rfl) (fun _ _ _ h => h) (Or.inl ⟨by rfl, fun w hSw => ?ti369_34⟩) (by assumption) ?rest369_34
          case ti369_34 => ((try dsimp only at hSw); go_simp; (first | done | with_reducible rfl))
          try simp only [Act.put, List.getElem_toArray, List.getElem_cons_zero, List.getElem_cons_succ, List.setIfInBounds_toArray, List.set_cons_zero, List.set_cons_succ]
          refine wpAnyH_take (i := 36) (v := ?va372_36) rfl (by kernel_rfl) (by kernel_rfl) (by kernel_rfl) (fun _ _ _ h => h) (Or.inl ⟨by rfl, fun w hSw => ?ti372_36⟩) (by assumption) ?rest372_36
          case ti372_36 => ((try dsimp only at hSw); go_simp; (first | done | with_reducible rfl))
          try simp only [Act.put, List.getElem_toArray, List.getElem_cons_zero, List.getElem_cons_succ, List.setIfInBounds_toArray, List.set_cons_zero, List.set_cons_succ]
          refine wpAnyH_take (i := 37) (v := ?va375_37) rfl (by kernel_rfl) (by kernel_rfl) (by kernel_rfl) (fun _ _ _ h => h) (Or.inl ⟨by rfl, fun w hSw => ?ti375_37⟩) (by assumption) ?rest375_37
          case ti375_37 => ((try dsimp only at hSw); go_simp; (first | done | with_reducible rfl))
          try simp only [Act.put, List.getElem_toArray, List.getElem_cons_zero, List.getElem_cons_succ, List.setIfInBounds_toArray, List.set_cons_zero, List.set_cons_succ]
          refine wpAnyH_ready (rs := [35]) (by kernel_rfl) (by simp) ?_
          refine AllReadyH.cons rfl (fun K hK => ?_) AllReadyH.nil
          go_simp
          refine hK.out _ _ ?_ (fun hHeld => ?_)
          · exact ⟨(cell_alloc q5_1 _), (cell_alloc q5_2 _), (cell_alloc q5_3 _), (cell_alloc q5_4 _), (cell_alloc q5_5 _)⟩
          clear hK K
          try simp only [Act.put, List.getElem_toArray, List.getElem_cons_zero, List.getElem_cons_succ, List.setIfInBounds_toArray, List.set_cons_zero, List.set_cons_succ]
          refine wpAnyH_take (i := 38) (v := ?va385_38) rfl (by kernel_rfl) (by kernel_rfl) (by kernel_rfl) (fun _ _ _ h => h) (Or.inl ⟨by rfl, fun w hSw => ?ti385_38⟩) (by assumption) ?rest385_38
          case ti385_38 => ((try dsimp only at hSw); go_simp; (first | done | with_reducible rfl))
          try simp only [Act.put, List.getElem_toArray, List.getElem_cons_zero, List.getElem_cons_succ, List.setIfInBounds_toArray, List.set_cons_zero, List.set_cons_succ]
          refine wpAnyH_ready (rs := [39]) (by kernel_rfl) (by simp) ?_
          refine AllReadyH.cons rfl (fun K hK => ?_) AllReadyH.nil
          go_simp
          refine hK.out _ _ ?_ (fun hHeld => ?_)
          · exact ⟨(cell_alloc q5_1 _), (cell_alloc q5_2 _), (cell_alloc q5_3 _), (cell_alloc q5_4 _), (cell_alloc q5_5 _)⟩
          clear hK K
          try simp only [Act.put, List.getElem_toArray, List.getElem_cons_zero, List.getElem_cons_succ, List.setIfInBounds_toArray, List.set_cons_zero, List.set_cons_succ]
          refine wpAnyH_ready (rs := [40]) (by kernel_rfl) (by simp) ?_
          refine AllReadyH.cons rfl (fun K hK => ?_) AllReadyH.nil
          go_simp
          refine (LacesText_walk n _ _ st SK _ (HIs.out _ ?_) HN.out HBy.out (HYY.out _ ?_) (HMM.out _ ?_)).mono ?_
          · (refine Ext.trans Y5.out ?_; (repeat (first | (with_reducible exact Ext.refl _) | (with_reducible apply Ext.drew) | (with_reducible apply Ext.drewN) | (with_reducible apply Ext.alloc))))
          · (refine Ext.trans Y5.out ?_; (repeat (first | (with_reducible exact Ext.refl _) | (with_reducible apply Ext.drew) | (with_reducible apply Ext.drewN) | (with_reducible apply Ext.alloc))))
          · (refine Ext.trans Y5.out ?_; (repeat (first | (with_reducible exact Ext.refl _) | (with_reducible apply Ext.drew) | (with_reducible apply Ext.drewN) | (with_reducible apply Ext.alloc))))
          intro e y6 hh
          obtain ⟨rfl, x⟩ := hh
          have Y6 : Hid (Ext W2 y6) := Lib.hid (Ext.trans Y5.out (Ext.trans (by ((repeat (first | (with_reducible exact Ext.refl _) | (with_reducible apply Ext.drew) | (with_reducible apply Ext.drewN) | (with_reducible apply Ext.alloc))); done)) x))
          have q6_1 := Y6.out.cell q0_1
          have q6_2 := Y6.out.cell q0_2
          have q6_3 := Y6.out.cell q0_3
          have q6_4 := Y6.out.cell q0_4
          have q6_5 := Y6.out.cell q0_5
          go_simp
          refine hK.out _ _ ?_ (fun hHeld => ?_)
          · exact ⟨q6_1, q6_2, q6_3, q6_4, q6_5⟩
          clear hK K x
          try simp only [Act.put, List.getElem_toArray, List.getElem_cons_zero, List.getElem_cons_succ, List.setIfInBounds_toArray, List.set_cons_zero, List.set_cons_succ]
          refine wpAnyH_take (i := 41) (v := ?va415_41) rfl (by kernel_rfl) (by kernel_rfl) (by kernel_rfl) (fun _ _ _ h => h) (Or.inl ⟨by rfl, fun w hSw => ?ti415_41⟩) (by assumption) ?rest415_41
          case ti415_41 => ((try dsimp only at hSw); go_simp; (first | done | with_reducible rfl))
          try simp only [Act.put, List.getElem_toArray, List.getElem_cons_zero, List.getElem_cons_succ, List.setIfInBounds_toArray, List.set_cons_zero, List.set_cons_succ]
          refine wpAnyH_take (i := 42) (v := ?va418_42) rfl (by kernel_rfl) (by kernel_rfl) (by kernel_rfl) (fun _ _ _ h => h) (Or.inl ⟨by rfl, fun w hSw => ?ti418_42⟩) (by assumption) ?rest418_42
          case ti418_42 => ((try dsimp only at hSw); go_simp; (first | done | with_reducible rfl))
          try simp only [Act.put, List.getElem_toArray, List.getElem_cons_zero, List.getElem_cons_succ, List.setIfInBounds_toArray, List.set_cons_zero, List.set_cons_succ]
          refine wpAnyH_done (by kernel_rfl) ?_ _
          have XE := Lib.hid (X0.out.trans (X2.out.trans Y6.out))
          go_wp2
          go_roundw
          case rel => exact ⟨n + 1, K, by omega, by go_num, rfl, HK.out, XE⟩
          case measure => simp [intOf]; omega
    · obtain rfl : n = 30 := by omega
      have hlt' : ¬ ((30 : Nat) : Int) < 30 := by omega
      obtain ⟨W1, hW1⟩ : ∃ W1, W1 = wo.alloc (.cells #[.int .u8 3, .int .u8 1, .int .i64 0, .int .i64 0, .bool false, .int .u8 5, .int .u8 1, .int .i64 0, .int .i64 0, .bool false, .int .u8 3, .int .u8 0, .int .i64 0, .int .i64 0, .bool false] 49) := ⟨_, rfl⟩
      have xW1 : Ext wo W1 := by rw [hW1]; exact (Ext.refl wo).alloc _
      have HB := Lib.hid (fun w' (x : Ext W1 w') => rs3 (w := w') (g := wo.heap.size) (x.block (by rw [hW1]; exact blk_at rfl)))
      have X1 := Lib.hid (HX.out.trans xW1); have HW1 := Lib.hid hW1
      have hmk : ∀ w' : World, (Instr.makeSlice 22 (.int .i64 3) (.int .i64 3)).run Tryd.prog w' = .ok (.slice (some ⟨w'.heap.size, 0, none⟩) 3 3) (w'.alloc (.cells (madeCells #[.slice none 0 0] 3) 37)) := fun w' => run_make_lc (P := Tryd.prog) eiHows .i64 .i64 3 3 (by omega) (by omega) (by omega) w'
      clear hW1 xW1 k0 k1 hn
      go_wp2_with fail
      rw [← HW1.out]
      refine (LacesPairs_walk _ _ s3 _ (HB.out _ (Ext.refl _)).1 s3_in (HY.out _ X1.out)).mono ?_
      rintro e w2 ⟨rfl, x2⟩
      have X2 := Lib.hid (X1.out.trans x2)
      have hp2 := (HB.out _ x2).2
      have HP2 := Lib.hid hp2
      clear x2 hp2
      go_wp2_with fail
      refine (LacesPairs_walk _ _ (s3.take 2) _ HP2.out (fun s hs => s3_in s (List.mem_of_mem_take hs)) (HY.out _ X2.out)).mono ?_
      rintro e w3 ⟨rfl, x3⟩
      have X3 := Lib.hid (X2.out.trans x3)
      clear x3
      go_wp2_with fail
      refine (LacesCheck_walk 17 1 1 _ 0 [] _ (HR.nil _) (by omega) (HY.out _ X3.out)).mono ?_
      rintro e w4 ⟨rfl, x4⟩
      have X4 := Lib.hid (X3.out.trans x4)
      have X4b := Lib.hid (X4.out.alloc (.cells (madeCells #[.slice none 0 0] 3) 37))
      clear x4
      go_wp2_with fail
      refine (LacesCheck_walk 2 1 4611686018427387904 _ 3 [[], [], []] _ (hr3 w4) (by omega) (HY.out _ X4b.out)).mono ?_
      rintro e w5 ⟨rfl, x5⟩
      have X5 := Lib.hid (X4b.out.trans x5)
      clear x5 hmk
      go_wp2_with fail
      refine (LacesOf_walk _ 0 [] _ (RR.nil _) (fun k hk => by simp at hk) (HY.out _ X5.out)).mono ?_
      rintro e w6 ⟨rfl, x6⟩
      have X6 := Lib.hid (X5.out.trans x6)
      clear x6
      go_wp2_with fail
      refine (lives20_calls _ (HY.out _ X6.out)).mono ?_
      rintro e w7 ⟨rfl, x7⟩
      have X7 := Lib.hid (X6.out.trans x7)
      clear x7
      go_wp2
      go_ret
      exact ⟨rfl, X7.out⟩
end Go.Proofs.YthllbcjglcplhaaDoor
/- What the shape of the world gives: the cell of internal/bytealg.MaxLen. -/
namespace Go.Proofs.YthllbcjglcplhaaDoor
set_option linter.unusedVariables false
set_option linter.unusedSimpArgs false
open Go Go.RowKit
theorem mx_of {w : World} (h : w.ShapedOpen Tryd.prog) : Mx w :=
  Go.Proofs.cell_of_shapedOpen_int (zero := #[.int .i64 0]) (t := 3) h (of_decide_eq_true (by kernel_rfl)) (by kernel_rfl) rfl (by kernel_rfl) (by kernel_rfl) Tryd.underlying3
end Go.Proofs.YthllbcjglcplhaaDoor
