/- The law ShapesArea, walked. -/
import Derived.Test.YtinijapkipeamaaDoorTx
namespace Go.Proofs.YtinijapkipeamaaDoor
set_option linter.unusedVariables false
set_option linter.unusedSimpArgs false
set_option maxRecDepth 8000
open Go Go.RowKit

set_option maxHeartbeats 8000000 in
theorem ShapesArea_walk (f : Int) (v : Value) (c : Nat) (st : List Int) (s0 s1 : Int) (w : World) (h : IS .u8 w v c st) (hf : 0 ≤ f ∧ f ≤ 255) (hs : ∀ i, i < st.length → 0 ≤ gi st i ∧ gi st i ≤ 255) (hs0 : 0 ≤ s0 ∧ s0 ≤ 255) (hs1 : 0 ≤ s1 ∧ s1 ≤ 255) (hy : Sy w) :
    Calls Tryd.prog 6 #[.agg #[.int .u8 f, v], .agg #[.int .u8 s0, .int .u8 s1]] w fun e w' => e = .returned (.bool true) ∧ Ext w w' := by
  have hof := fun w' (x : Ext w w') => O_calls f v c st w' (h.ext x) hf hs
  obtain ⟨ao, n, c', rfl, hn, rfl, hIS⟩ := h.out
  have hol := oof_len f st
  obtain ⟨l, hl⟩ : ∃ l, l = oof f st := ⟨_, rfl⟩
  have hok : oerr l = 0 := by rw [hl]; exact oof_ok f st
  rw [← hl] at hof hol
  obtain ⟨o1, o2, o3⟩ := hol
  have hsm := small_of hok
  obtain ⟨C, hC⟩ : ∃ C, C = chartOf l 1 := ⟨_, rfl⟩
  have h2 := fun w' v c (hi : IS .i64 w' v c l) => RChart_calls v c l 1 w' hi hok
  rw [← hC] at h2
  have hCl : C.length = l.length - 1 := by rw [hC]; exact chartOf_len l 1
  have hmk := fun k (hk : k + 1 ≤ l.length) => mks_area hok (show (1 : Int) ≤ 1 ∧ (1 : Int) ≤ 6 by omega) k hk
  rw [← hC] at hmk
  have hab := fun (m : List Int) (hm : small m) k (hk : k ≤ m.length) => area_bd (l := m) (fun i hi => by have := hm.1 i hi; omega) k hk
  have h3 := fun w' v c (m : List Int) (hm : small m) (hl : m.length ≤ 100) (hi : IS .i64 w' v c m) => Area_calls v c m w' hi (fun i hi => by have := hm.1 i hi; omega) (by omega)
  obtain ⟨m, hm⟩ : ∃ m, m = add1 (add1 l s0) s1 := ⟨_, rfl⟩
  have hsm1 := small_add hsm (by omega) s0
  have hl1 := add1_len l s0
  have hsm2 := small_add hsm1 (by omega) s1
  have hml : m.length = l.length + 2 := by rw [hm, add1_len, hl1]
  rw [← hm] at hsm2
  have hmok := small_ok hsm2 (by omega) (by omega) (by omega)
  have h4 := fun w' v c (hi : IS .i64 w' v c l) => Centre_calls v c l w' hi
  have h5 := fun w' v c (hi : IS .i64 w' v c m) => Centre_calls v c m w' hi
  rw [hok] at h4; rw [hmok] at h5
  simp only [if_true] at h4 h5
  have h6 := fun w' v c (hi : IS .i64 w' v c l) => RCentre_calls v c l w' hi hok
  have h7 := fun w' v c (hi : IS .i64 w' v c m) => RCentre_calls v c m w' hi hmok
  obtain ⟨N, hN⟩ : ∃ N, N = C.length := ⟨_, rfl⟩
  have hN1 : N + 1 = l.length := by omega
  have hfc := chartOf_facts hok (show (1 : Int) ≤ 1 ∧ (1 : Int) ≤ 6 by omega)
  rw [← hC] at hfc
  have hrl : ∀ k, k < N → (sw C k).length ≤ 16 := fun k hk => by have := (hfc k (by omega)).1; have := hsm.1 (k + 1) (by omega); omega
  have hmb : ∀ k, k ≤ N → 0 ≤ mks C k ∧ mks C k ≤ 17000 := fun k hk => by rw [hmk k (by omega)]; have := hab l hsm (k + 1) (by omega); omega
  have hms : ∀ k, mks C (k + 1) = mks C k + rmake (sw C k) := fun k => rfl
  have har : area l l.length = mks C N := by rw [hmk N (by omega), hN1]
  have hnx0 : nxt l s0 = clm (gi l (l.length - 1) + s0 % 5 - 2) := rfl
  have hArea : area m m.length = mks C N + gi m (m.length - 1) + gi m (m.length - 2) := by
    have a1 := area_add (l := l) s0 (by omega)
    have a2 := area_add (l := add1 l s0) s1 (by omega)
    have g1 : gi m (m.length - 1) = nxt (add1 l s0) s1 := by rw [hm]; have := add1_last (add1 l s0) s1; rw [show (add1 (add1 l s0) s1).length - 1 = (add1 l s0).length by rw [add1_len]; omega]; exact this
    have g2 : gi m (m.length - 2) = nxt l s0 := by
      rw [hm, show (add1 (add1 l s0) s1).length - 2 = l.length by rw [add1_len, hl1]; omega, add1_gi (by omega), add1_last]
    rw [g1, g2, ← har]
    rw [hl1] at a2
    rw [show m.length = l.length + 1 + 1 by omega, hm, a2, a1]; omega
  obtain ⟨L, hL⟩ : ∃ L, L = l.length := ⟨_, rfl⟩
  rw [← hL] at o1 o2 o3 hml hN1 hl1
  have h3l := fun w' v c (hi : IS .i64 w' v c l) => h3 w' v c l hsm (by omega) hi
  have h3m := fun w' v c (hi : IS .i64 w' v c m) => h3 w' v c m hsm2 (by omega) hi
  rw [har] at h3l
  rw [hArea] at h3m
  have hb2 : ∀ i, i < L + 2 → 2 ≤ gi m i ∧ gi m i ≤ 16 := fun i hi => hsm2.1 i (by omega)
  have hg1 : gi m (m.length - 1) = gi m (L + 1) := by rw [hml]; rfl
  have hg2 : gi m (m.length - 2) = gi m L := by rw [hml]; rfl
  rw [hg1, hg2] at h3m
  have HOo := Lib.hid hof; have K2 := Lib.hid h2; have K3l := Lib.hid h3l; have K3m := Lib.hid h3m; have K4 := Lib.hid h4; have K5 := Lib.hid h5; have K6 := Lib.hid h6; have K7 := Lib.hid h7
  have HRl := Lib.hid hrl; have HMb := Lib.hid hmb; have HMs := Lib.hid hms; have HB2 := Lib.hid hb2; have HNn := Lib.hid hN; have HSm := Lib.hid hsm; have HSm1 := Lib.hid hsm1; have HL1 := Lib.hid hl1; have HLl := Lib.hid hL; have HM := Lib.hid hm; have HMl := Lib.hid hml
  have HL := Lib.hid (fun w' (x : Ext w w') => lives_calls w' (hy.ext x))
  obtain ⟨W, hW⟩ : ∃ W, W = (w.alloc (.cells #[.int .u8 f, .slice ao n c'] 44)).alloc (.cells #[.int .u8 s0, .int .u8 s1] 45) := ⟨_, rfl⟩
  have xW : Ext w W := by rw [hW]; exact ((Ext.refl w).alloc _).alloc _
  have hB := (B2.new w (.int .u8 f) (.slice ao n c') 44).alloc (.cells #[.int .u8 s0, .int .u8 s1] 45)
  have hB5 : B2 W (w.heap.size + 1) (.int .u8 s0) (.int .u8 s1) 45 := by rw [hW]; simpa using B2.new (w.alloc (.cells #[.int .u8 f, .slice ao n c'] 44)) (.int .u8 s0) (.int .u8 s1) 45
  have HB5 := Lib.hid hB5
  have c0 := hB.c0; have c1 := hB.c1
  have XW := Lib.hid xW; have HW := Lib.hid hW
  clear hof h2 h3 h3l h3m h4 h5 h6 h7 hCl hfc hmk hab hl hok hC h hIS hn hs hf xW hW hB hy hB5 hsm hsm1 hsm2 hl1 hml hm hmok hN hrl hmb hms har hnx0 hArea hL hb2 hg1 hg2
  go_enter Tryd.func6, Tryd.ntmps6
  go_wp2_with fail
  rw [← HW.out]
  refine (HOo.out _ XW.out).mono ?_
  rintro e w3 ⟨v3, k3, rfl, i3, x3⟩
  have X3 := Lib.hid x3; have I3 := Lib.hid i3
  clear x3 i3 HOo c0 c1
  go_wp2_with fail
  refine (K2.out _ _ _ I3.out).mono ?_
  rintro e w4 ⟨v4, c4, rfl, r4, x4⟩
  obtain ⟨a4, n4, rfl, hn4, _, _, q4⟩ := r4.open
  have hn4' : n4 = N := by rw [hn4, HNn.out]
  clear hn4
  subst hn4'
  obtain ⟨wc, hwc⟩ : ∃ wc, wc = w4.alloc (.cells #[.slice a4 n4 c4] 26) := ⟨_, rfl⟩
  have xc : Ext w4 wc := by rw [hwc]; exact (Ext.refl w4).alloc _
  have p1 : wc.cell? ⟨w4.heap.size, 0, none⟩ = some (.slice a4 n4 c4) := by rw [hwc, World.cell?_alloc_at (hn := rfl)]; rfl
  have Xc := Lib.hid (X3.out.trans (x4.trans xc)); have HQ := Lib.hid q4; have Ic := Lib.hid (I3.out.ext (x4.trans xc)); have X4c := Lib.hid xc
  have HP1 := Lib.hid (fun w' (x : Ext wc w') => x.cell p1)
  have HWc := Lib.hid hwc
  clear x4 xc r4 hwc K2 q4 p1
  go_wp2
  rw [← HWc.out]
  clear HWc
  go_loopw [7, 8, 9] (fun t i _ wr => ∃ k : Nat, k ≤ n4 ∧ i = .int .i64 k ∧ t = .int .i64 (mks C k) ∧ Hid (Ext wc wr)) (fun _ i _ _ => n4 - (intOf i).toNat)
  case atStart => exact ⟨0, Nat.zero_le _, rfl, rfl, Lib.hid (Ext.refl _)⟩
  case round =>
    obtain ⟨k, hk, rfl, rfl, HX⟩ := hrel
    have b1 := HP1.out _ HX.out
    by_cases hlt : k < n4
    · obtain ⟨b, o, a, p, d, rfl, hc0, hr0⟩ := HQ.out k hlt
      have HC0 := Lib.hid (fun w' (x : Ext wc w') => (X4c.out.trans x).cell hc0)
      obtain ⟨_, _, e1, e2, e3, e4, e5⟩ := hr0.open
      simp only [Value.slice.injEq] at e1
      obtain ⟨rfl, rfl, _⟩ := e1
      have hp16 := HRl.out k hlt
      have hmbk := HMb.out k hk
      have hmsk := HMs.out k
      have htk : ∀ j, j < p → rmake ((sw C k).take (j + 1)) = rmake ((sw C k).take j) + St.make (si (sw C k) j) := fun j hj => by rw [take_succ_si (by omega), rmake_snoc]
      have htb : ∀ j, j ≤ p → 0 ≤ rmake ((sw C k).take j) ∧ rmake ((sw C k).take j) ≤ 64 := fun j hj => by have := rmake_bd ((sw C k).take j); rw [List.length_take] at this; omega
      have hta : rmake ((sw C k).take p) = rmake (sw C k) := by rw [e2, List.take_length]
      have ht0 : rmake ((sw C k).take 0) = 0 := by simp [rmake]
      rw [← e2] at hp16
      have HE5 := Lib.hid e5; have HTk := Lib.hid htk; have HTb := Lib.hid htb; have HTa := Lib.hid hta; have HMsk := Lib.hid hmsk
      have HT0 := Lib.hid ht0
      generalize mks C k = T at *
      clear e2 e5 htk htb hta hmsk hr0 hc0 ht0
      go_wp2
      go_loopw [7, 9] (fun t i ws => ∃ j : Nat, j ≤ p ∧ i = .int .i64 j ∧ t = .int .i64 (T + rmake ((sw C k).take j)) ∧ Hid (Ext wc ws)) (fun _ i _ => p - (intOf i).toNat)
      case atStart => exact ⟨0, Nat.zero_le _, rfl, by rw [HT0.out, Int.add_zero], HX⟩
      case round =>
        obtain ⟨j, hj, rfl, rfl, HY⟩ := hrel
        have b1 := HP1.out _ HY.out
        have hc0 := HC0.out _ HY.out
        by_cases hjl : j < p
        · obtain ⟨bb, oo, rfl, e8⟩ := HE5.out j hjl
          obtain ⟨u0, u1, u2, u3, u4⟩ := e8.ext (X4c.out.trans HY.out)
          have hcl := fun w' => SMakes_calls (si (sw C k) j) w'
          have htk := HTk.out j hjl
          have htb := HTb.out j hj
          have hmk := St.make_bd (si (sw C k) j)
          obtain ⟨S, hS⟩ : ∃ S, S = si (sw C k) j := ⟨_, rfl⟩
          rw [← hS] at u0 u1 u2 u3 u4 hcl htk hmk
          unfold St.val at hcl
          generalize S.make = M at *
          obtain ⟨Q, hQ⟩ : ∃ Q, Q = rmake ((sw C k).take j) := ⟨_, rfl⟩
          rw [← hQ] at htk htb ⊢
          have HCl := Lib.hid hcl; have HTj := Lib.hid htk
          have wz : IntKind.i64.wrap (T + Q + M) = T + Q + M := IntWalk.i64_in _ ⟨by omega, by omega⟩
          have j1 : (0 : Int) ≤ (j : Int) := by omega
          clear hcl htk hS hQ e8
          go_wp2_with fail
          refine (HCl.out _).mono ?_
          rintro e w5 ⟨rfl, x5⟩
          have HY2 := Lib.hid (HY.out.trans x5)
          clear x5 u0 u1 u2 u3 u4 hc0 b1 HCl
          go_wp2
          go_roundw
          case rel => exact ⟨j + 1, by omega, by go_num, by rw [HTj.out, Int.add_assoc], HY2⟩
          case measure => simp [intOf]; omega
        · obtain rfl : p = j := by omega
          have htn := HTa.out
          go_wp2
          go_roundw
          case rel => exact ⟨k + 1, by omega, by go_num, by rw [HMsk.out, htn], HY⟩
          case measure => simp [intOf]; omega
    · obtain rfl : n4 = k := by omega
      have hTb := HMb.out n4 hk
      generalize mks C n4 = T at *
      have Iw := Lib.hid (Ic.out.ext HX.out)
      clear hlt
      go_wp2_with fail
      refine (K3l.out _ _ _ Iw.out).mono ?_
      rintro e w5 ⟨rfl, x5⟩
      have X5 := Lib.hid (Xc.out.trans (HX.out.trans x5)); have I5 := Lib.hid (Iw.out.ext x5)
      clear x5 b1 K3l
      go_wp2_with (at_builtin; go_loud (refine app_own eiInt rfl _ _ rfl w5.heap.size _ 0 [] rfl (own0 (blk_at rfl) (Nat.le_refl _)) _ _ (l.map (Value.int .i64)) rfl (I5.out.ext ((Ext.refl w5).alloc _)) (onesI _) ?d1 ?d2 ?d3 ?_))
      case d1 => rw [List.length_map, ← HLl.out]; omega
      case d2 => rw [List.length_map, ← HLl.out]; omega
      case d3 => exact (World.alloc_le _ _)
      intro v6 w6 hown6 hbel6
      obtain ⟨Mo, hMo⟩ : ∃ Mo : Nat → List Int, Mo = fun k => if k = 0 then l else if k = 1 then add1 l s0 else m := ⟨_, rfl⟩
      have hm0 : Mo 0 = l := by rw [hMo]; rfl
      have hm1 : Mo 1 = add1 l s0 := by rw [hMo]; rfl
      have hm2 : Mo 2 = m := by rw [hMo]; rfl
      have HStep := Lib.hid (show ∀ k, k < 2 → ∃ s x : Int, (0 ≤ s ∧ s ≤ 255) ∧ (∀ w', Ext W w' → w'.cell? ⟨w.heap.size + 1, k, none⟩ = some (.int .u8 s)) ∧ gi (Mo k) (L + k - 1) = x ∧ (2 ≤ x ∧ x ≤ 16) ∧ Mo (k + 1) = Mo k ++ [clm (x + s % 5 - 2)] from fun k hk => by
        match k, hk with
        | 0, _ => exact ⟨s0, _, hs0, fun w' x => (HB5.out.ext x).c0, rfl, by rw [hm0]; exact HSm.out.1 _ (by have := HLl.out; omega), by rw [hm0, hm1]; unfold add1 nxt; rw [← HLl.out]; try rfl⟩
        | 1, _ => exact ⟨s1, _, hs1, fun w' x => (HB5.out.ext x).c1, rfl, by rw [hm1]; exact HSm1.out.1 _ (by have := HL1.out; omega), by rw [hm1, hm2, HM.out]; show add1 (add1 l s0) s1 = _; rw [add1]; unfold nxt; rw [HL1.out]; try rfl⟩)
      have H6 := Lib.hid (show w6.ownsRow w5.heap.size 3 1 v6 L ((Mo 0).map (Value.int .i64)) ∧ Ext w5 w6 from ⟨by rw [hm0]; have := hown6; simp only [Nat.zero_add, List.nil_append, List.length_map, ← HLl.out] at this; exact this, Below.trans ((Ext.refl w5).alloc _) hbel6⟩)
      have HM2 := Lib.hid hm2
      clear hown6 hbel6 hMo hm0 hm1 hm2 HB5 HSm HSm1 HL1 HM
      go_wp2
      go_loopw [10, 11, 12] (fun u i _ wr => ∃ k q : Nat, k ≤ 2 ∧ q = L + k ∧ i = .int .i64 k ∧ Hid (wr.ownsRow w5.heap.size 3 1 u q ((Mo k).map (Value.int .i64)) ∧ Ext w5 wr)) (fun _ i _ _ => 2 - (intOf i).toNat)
      case atStart => exact ⟨0, L, by omega, rfl, rfl, H6⟩
      case round =>
        obtain ⟨k, q, hk, hqL, rfl, H⟩ := hrel
        obtain ⟨cI, hI⟩ := IS.of_own (k := .i64) H.out.1
        obtain ⟨aI, nI, cI', hvI, hnI, hcI, hI2⟩ := hI.out
        have hnq : nI = q := by
          have := H.out.1.1
          rw [List.length_map] at this; omega
        rw [hnq] at hvI hI2
        subst hvI
        by_cases hlt : k < 2
        · obtain ⟨s, x, hs, hcell, hx, hxb, hnx⟩ := HStep.out k hlt
          have e0 := hcell wr (X5.out.trans H.out.2)
          obtain ⟨bb, oo, rfl, hc⟩ := hI2.at (show q - 1 < q by omega)
          have e1 := hc (q - 1) (by omega)
          rw [show q - 1 = L + k - 1 by omega, hx] at e1
          rw [show L + k - 1 = q - 1 by omega] at e1
          have HNx := Lib.hid hnx
          have hsz := H.out.2.size
          obtain ⟨z, hz⟩ : ∃ z, z = x + s % 5 - 2 := ⟨_, rfl⟩
          rw [← hz] at HNx
          have q1 : (0 : Int) ≤ (q : Int) - 1 := by omega
          have q2 : ((q : Int) - 1).toNat = q - 1 := by omega
          have q3 : (q : Int) - 1 < q := by omega
          have q4 : IntKind.i64.wrap ((q : Int) - 1) = (q : Int) - 1 := IntWalk.i64_in _ ⟨by omega, by omega⟩
          have q5 : (1 : Int) ≤ q := by omega
          have v1 : IntKind.u8.wrap (s % 5) = s % 5 := IntWalk.u8_in _ ⟨by omega, by omega⟩
          have v2 : IntKind.i64.wrap (s % 5) = s % 5 := IntWalk.i64_in _ ⟨by omega, by omega⟩
          have v3' : IntKind.i64.wrap (x + s % 5) = x + s % 5 := IntWalk.i64_in _ ⟨by omega, by omega⟩
          have v4 : IntKind.i64.wrap (x + s % 5 - 2) = z := by rw [hz]; exact IntWalk.i64_in _ ⟨by omega, by omega⟩
          have k1 : (k : Int) < 2 := by omega
          have k2 : (0 : Int) ≤ k := by omega
          have k3 : k < 2 := hlt
          have HQL := Lib.hid hqL
          have hq18 : q ≤ 18 := by omega
          have zb : -100 ≤ z ∧ z ≤ 100 := by omega
          clear hI hI2 hcell hx hnx hz hc hqL hnI hcI hnq hxb
          go_wp2
          go_quiet (fail)
          have H := Lib.hid (show World.ownsRow (wr.drewN nq) w5.heap.size 3 1 _ q ((Mo k).map (Value.int .i64)) ∧ Ext w5 (wr.drewN nq) from ⟨own_ext H.out.1 ((Ext.refl wr).drewN nq), H.out.2.drewN nq⟩)
          have hqL := HQL.out
          clear e0 e1 q1 q2 q3 q4 q5 v1 v2 v3' v4
          rcases (show z < 2 ∨ (¬ z < 2 ∧ 16 < z) ∨ (¬ z < 2 ∧ ¬ 16 < z) by omega) with z1 | ⟨z1, z2⟩ | ⟨z1, z2⟩
          · have hcl : clm z = 2 := by unfold clm; rw [if_pos z1]
            rw [hcl] at HNx
            have z3 : ¬ 2 < z := by omega
            clear hcl hqL
            go_wp2_with (at_builtin; go_loud (refine app_own eiInt rfl _ _ rfl w5.heap.size _ q _ rfl (own_ext H.out.1 ((Ext.refl _).alloc _)) _ _ _ rfl (VS.one _ _ _) (one1 _) ?f11 ?f12 ?f13 ?_))
            any_goals (first | omega | (simp; done) | (simp only [List.length_cons, List.length_nil]; omega) | (simp; omega))
            intro v' w' hown hbel
            rw [show min (max z 2) 16 = 2 by omega] at hown
            have HO := Lib.hid (show w'.ownsRow w5.heap.size 3 1 v' (q + 1) ((Mo (k + 1)).map (Value.int .i64)) ∧ Ext w5 w' from ⟨by rw [HNx.out, List.map_append]; exact hown, Below.trans (H.out.2.alloc _) hbel⟩)
            have hqL := HQL.out
            clear hown hbel
            go_wp2
            go_roundw
            case rel => exact ⟨k + 1, q + 1, by omega, by omega, by go_num, HO⟩
            case measure => simp [intOf]; omega
          · have hcl : clm z = 16 := by unfold clm; rw [if_neg z1, if_pos z2]
            rw [hcl] at HNx
            have z3 : 2 < z := by omega
            clear hcl hqL
            go_wp2_with (at_builtin; go_loud (refine app_own eiInt rfl _ _ rfl w5.heap.size _ q _ rfl (own_ext H.out.1 ((Ext.refl _).alloc _)) _ _ _ rfl (VS.one _ _ _) (one1 _) ?f21 ?f22 ?f23 ?_))
            any_goals (first | omega | (simp; done) | (simp only [List.length_cons, List.length_nil]; omega) | (simp; omega))
            intro v' w' hown hbel
            rw [show min (max z 2) 16 = 16 by omega] at hown
            have HO := Lib.hid (show w'.ownsRow w5.heap.size 3 1 v' (q + 1) ((Mo (k + 1)).map (Value.int .i64)) ∧ Ext w5 w' from ⟨by rw [HNx.out, List.map_append]; exact hown, Below.trans (H.out.2.alloc _) hbel⟩)
            have hqL := HQL.out
            clear hown hbel
            go_wp2
            go_roundw
            case rel => exact ⟨k + 1, q + 1, by omega, by omega, by go_num, HO⟩
            case measure => simp [intOf]; omega
          · have hcl : clm z = z := by unfold clm; rw [if_neg z1, if_neg z2]
            rw [hcl] at HNx
            have z3 : z ≤ 16 := by omega
            have z4 : 2 ≤ z := by omega
            clear hcl hqL
            go_wp2_with (at_builtin; go_loud (refine app_own eiInt rfl _ _ rfl w5.heap.size _ q _ rfl (own_ext H.out.1 ((Ext.refl _).alloc _)) _ _ _ rfl (VS.one _ _ _) (one1 _) ?f31 ?f32 ?f33 ?_))
            any_goals (first | omega | (simp; done) | (simp only [List.length_cons, List.length_nil]; omega) | (simp; omega))
            intro v' w' hown hbel
            rw [show min (max z 2) 16 = z by omega] at hown
            have HO := Lib.hid (show w'.ownsRow w5.heap.size 3 1 v' (q + 1) ((Mo (k + 1)).map (Value.int .i64)) ∧ Ext w5 w' from ⟨by rw [HNx.out, List.map_append]; exact hown, Below.trans (H.out.2.alloc _) hbel⟩)
            have hqL := HQL.out
            clear hown hbel
            go_wp2
            go_roundw
            case rel => exact ⟨k + 1, q + 1, by omega, by omega, by go_num, HO⟩
            case measure => simp [intOf]; omega
        · skip
          have tk : ¬ ((k : Int) < 2) := by omega
          have hk2 : k = 2 := by omega
          have hq2 : q = L + 2 := by omega
          have IM := Lib.hid (show IS .i64 wr (.slice aI q cI') cI' m from by rw [← HM2.out, ← hk2]; exact hI2)
          obtain ⟨bb, oo, rfl, hc⟩ := IM.out.at (show q - 1 < q by omega)
          have e1 := hc (q - 1) (by omega)
          have e2 := hc (q - 2) (by omega)
          have Il := Lib.hid (I5.out.ext H.out.2)
          have Xr := Lib.hid (X5.out.trans H.out.2)
          have m1 := HB2.out (L + 1) (by omega)
          have m2 := HB2.out L (by omega)
          rw [show q - 1 = L + 1 by omega] at e1
          rw [show q - 2 = L by omega] at e2
          rw [show L + 1 = q - 1 by omega] at e1 m1
          rw [show L = q - 2 by omega] at e2 m2
          have hK3m := K3m.out
          rw [show L + 1 = q - 1 by omega, show L = q - 2 by omega] at hK3m
          obtain ⟨g1, hg1⟩ : ∃ x, x = gi m (q - 1) := ⟨_, rfl⟩
          obtain ⟨g2, hg2⟩ : ∃ x, x = gi m (q - 2) := ⟨_, rfl⟩
          rw [← hg1] at e1 m1 hK3m
          rw [← hg2] at e2 m2 hK3m
          have HK3 := Lib.hid hK3m
          have hq18 : q ≤ 18 ∧ 4 ≤ q := by omega
          obtain ⟨q18, q4'⟩ := hq18
          generalize cent l = cl at K4 K6
          generalize cent m = cm at K5 K7
          clear hI hI2 hnI hcI hnq hqL hk2 hq2 hlt hk hg1 hg2 hK3m hc H HStep H6 K3m HB2 HQ
          go_wp2_with fail
          refine (K4.out _ _ _ Il.out).mono ?_
          rintro e w7 ⟨rfl, x7⟩
          have I7 := Lib.hid (IM.out.ext x7); have X7 := Lib.hid (Xr.out.trans x7); have Il7 := Lib.hid (Il.out.ext x7)
          have d1 := x7.cell e1
          have d2 := x7.cell e2
          clear x7 e1 e2 K4
          go_wp2_with fail
          refine (K5.out _ _ _ I7.out).mono ?_
          rintro e w8 ⟨rfl, x8⟩
          have I8 := Lib.hid (I7.out.ext x8); have X8 := Lib.hid (X7.out.trans x8); have Il8 := Lib.hid (Il7.out.ext x8)
          have e1 := x8.cell d1
          have e2 := x8.cell d2
          clear x8 d1 d2 K5
          have r1 : IntKind.i64.wrap ((q : Int) - 1) = (q : Int) - 1 := IntWalk.i64_in _ ⟨by omega, by omega⟩
          have r2 : IntKind.i64.wrap ((q : Int) - 2) = (q : Int) - 2 := IntWalk.i64_in _ ⟨by omega, by omega⟩
          have r3 : (0 : Int) ≤ (q : Int) - 1 := by omega
          have r4 : (0 : Int) ≤ (q : Int) - 2 := by omega
          have r5 : ((q : Int) - 1).toNat = q - 1 := by omega
          have r6 : ((q : Int) - 2).toNat = q - 2 := by omega
          have r7 : (q : Int) - 1 < q := by omega
          have r8 : (q : Int) - 2 < q := by omega
          have r9 : (1 : Int) ≤ q := by omega
          have ra : (2 : Int) ≤ q := by omega
          have rb : ¬ (32 : Int) < q := by omega
          have rc : IntKind.i64.wrap (T + g1) = T + g1 := IntWalk.i64_in _ ⟨by omega, by omega⟩
          have rd : IntKind.i64.wrap (T + g1 + g2) = T + g1 + g2 := IntWalk.i64_in _ ⟨by omega, by omega⟩
          go_wp2
          go_region_held3 (fun w' => w'.cell? ⟨bb, oo + (q - 1), Option.none⟩ = some (.int .i64 g1) ∧ w'.cell? ⟨bb, oo + (q - 2), Option.none⟩ = some (.int .i64 g2))
            (first | exact ⟨e1, e2⟩ | exact ⟨y1, y2⟩ | exact ⟨y3, y4⟩ | exact ⟨y5, y6⟩ | exact ⟨y7, y8⟩ | go_keep) (first
            | (go_at_call_of 16 v3; (refine (K6.out _ _ _ (Il8.out.ext ?_)).mono ?_); (focus (repeat (first | (with_reducible exact Ext.refl _) | (with_reducible apply Ext.drew) | (with_reducible apply Ext.drewN)))); intro e wa hh; obtain ⟨rfl, xa⟩ := hh; have Xa : Hid (Ext w8 wa) := Lib.hid (Ext.trans (by (repeat (first | (with_reducible exact Ext.refl _) | (with_reducible apply Ext.drew) | (with_reducible apply Ext.drewN)))) xa); have y1 := Xa.out.cell e1; have y2 := Xa.out.cell e2; clear xa)
            | (go_at_call 16; (refine (K7.out _ _ _ (I8.out.ext ?_)).mono ?_); (focus (refine Xa.out.trans ?_; (repeat (first | (with_reducible exact Ext.refl _) | (with_reducible apply Ext.drew) | (with_reducible apply Ext.drewN))))); intro e wb hh; obtain ⟨rfl, xb⟩ := hh; have Xb : Hid (Ext w8 wb) := Lib.hid (Xa.out.trans (Ext.trans (by (repeat (first | (with_reducible exact Ext.refl _) | (with_reducible apply Ext.drew) | (with_reducible apply Ext.drewN)))) xb)); have y3 := Xb.out.cell e1; have y4 := Xb.out.cell e2; clear xb)
            | (go_at_call 23; (refine (HK3.out _ _ _ (I8.out.ext ?_)).mono ?_); (focus (refine Xb.out.trans ?_; (repeat (first | (with_reducible exact Ext.refl _) | (with_reducible apply Ext.drew) | (with_reducible apply Ext.drewN))))); intro e wd hh; obtain ⟨rfl, xd⟩ := hh; have Xd : Hid (Ext w8 wd) := Lib.hid (Xb.out.trans (Ext.trans (by (repeat (first | (with_reducible exact Ext.refl _) | (with_reducible apply Ext.drew) | (with_reducible apply Ext.drewN)))) xd)); have y5 := Xd.out.cell e1; have y6 := Xd.out.cell e2; clear xd)
            | (go_at_call 15; (refine (HL.out _ (XW.out.trans (X8.out.trans (Xd.out.trans ?_)))).mono ?_); (focus (repeat (first | (with_reducible exact Ext.refl _) | (with_reducible apply Ext.drew) | (with_reducible apply Ext.drewN)))); intro e we hh; obtain ⟨rfl, xe⟩ := hh; have Xe : Hid (Ext w8 we) := Lib.hid (Xd.out.trans (Ext.trans (by (repeat (first | (with_reducible exact Ext.refl _) | (with_reducible apply Ext.drew) | (with_reducible apply Ext.drewN)))) xe)); have y7 := Xe.out.cell e1; have y8 := Xe.out.cell e2; clear xe))
          have XF := Lib.hid (XW.out.trans (X8.out.trans Xe.out))
          go_wp2
          go_ret
          exact ⟨rfl, XF.out⟩
end Go.Proofs.YtinijapkipeamaaDoor
