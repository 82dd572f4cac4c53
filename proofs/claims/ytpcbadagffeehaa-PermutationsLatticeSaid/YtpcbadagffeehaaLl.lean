/- The law PermutationsLattice, walked. -/
import Derived.Test.YtpcbadagffeehaaSf
namespace Go.Proofs.Ytpcbadagffeehaa
set_option linter.unusedVariables false
set_option linter.unusedSimpArgs false
open Go Go.RowKit


set_option maxRecDepth 100000 in
set_option maxHeartbeats 16000000 in
theorem PermutationsLattice_walk (v1 : Value) (c1 : Nat) (xs : List Int) (v2 : Value) (c2 : Nat) (ys : List Int) (v3 : Value) (c3 : Nat) (zs : List Int) (w : World) (h : IS .u8 w v1 c1 xs) (hb : U8L xs) (h' : IS .u8 w v2 c2 ys) (hb' : U8L ys) (hs' : ys.length ≤ 140737488351232) (h3 : IS .u8 w v3 c3 zs) (hb3 : U8L zs) (hs3 : zs.length ≤ 140737488351232) :
    Calls Try.prog 5 #[v1, v2, v3] w fun e w' => e = .returned (.bool true) ∧ Below w.heap.size w w' := by
  have hof := Of_calls v1 c1 xs w h hb
  have hp := PM.ofM hb
  obtain ⟨N, hN⟩ : ∃ N, N = mN xs := ⟨_, rfl⟩
  rw [← hN] at hp
  have hq := PM.asM (n := N) hb' hp.pos hp.le
  have hr := PM.asM (n := N) hb3 hp.pos hp.le
  have has := fun W (hx : Ext w W) => As_calls v2 c2 ys N W (h'.ext hx) hb' hs' hp.pos hp.le
  have ha3 := fun W (hx : Ext w W) => As_calls v3 c3 zs N W (h3.ext hx) hb3 hs3 hp.pos hp.le
  obtain ⟨p, hpp⟩ : ∃ p, p = mof xs := ⟨_, rfl⟩
  obtain ⟨q, hqq⟩ : ∃ q, q = mof (masL ys N) := ⟨_, rfl⟩
  obtain ⟨r, hrr⟩ : ∃ r, r = mof (masL zs N) := ⟨_, rfl⟩
  rw [← hpp] at hof hp
  rw [← hqq] at hq has
  rw [← hrr] at hr ha3
  obtain ⟨_, _, ao, rfl, _⟩ := h.open
  obtain ⟨_, _, bo, rfl, _⟩ := h'.open
  obtain ⟨_, _, co, rfl, _⟩ := h3.open
  obtain ⟨l1, hl1⟩ : ∃ l, l = xs.length := ⟨_, rfl⟩
  obtain ⟨l2, hl2⟩ : ∃ l, l = ys.length := ⟨_, rfl⟩
  obtain ⟨l3, hl3⟩ : ∃ l, l = zs.length := ⟨_, rfl⟩
  rw [← hl1] at hof ⊢
  rw [← hl2] at has ⊢
  rw [← hl3] at ha3 ⊢
  have n1 := hp.pos
  have n8 := hp.le
  obtain ⟨m, hm⟩ : ∃ m, m = meetL p q := ⟨_, rfl⟩
  obtain ⟨j, hj⟩ : ∃ j, j = joinL p q := ⟨_, rfl⟩
  have hmp : PM N m := by rw [hm]; exact hp.meet q
  have hjp : PM N j := by rw [hj]; exact hp.join q
  obtain ⟨o, ho⟩ : ∃ o, o = meetL r q := ⟨_, rfl⟩
  have hop : PM N o := by rw [ho]; exact hr.meet q
  have hmP : leP N m p := by rw [hm]; exact meetL_left hp.ok hp.len
  have hmQ : leP N m q := by rw [hm]; exact meetL_right hq.ok hp.len hq.len
  have hPj : leP N p j := by rw [hj]; exact joinL_left hp.len
  have hQj : leP N q j := by rw [hj]; exact joinL_right hp.len
  have hG : ∀ z, pok z → z.length = N → leP N z p → leP N z q → leP N z m := fun z z1 z2 z3 z4 => by rw [hm]; exact meetL_greatest hp.ok hq.ok z1 hp.len hq.len z2 z3 z4
  have hL : ∀ z, leP N p z → leP N q z → leP N j z := fun z z1 z2 => by rw [hj]; exact joinL_least hp.len z1 z2
  have hoQ : leP N o q := by rw [ho]; exact meetL_right hq.ok hr.len hq.len
  have A1 := Lib.hid (leB_iff.2 hmP); have A2 := Lib.hid (leB_iff.2 hmQ); have A3 := Lib.hid (leB_iff.2 hPj); have A4 := Lib.hid (leB_iff.2 hQj)
  have B1 : Hid (leB N r p = true → leB N r q = true → leB N r m = true) := Lib.hid fun x y => leB_iff.2 (hG r hr.ok hr.len (leB_iff.1 x) (leB_iff.1 y))
  have B2 : Hid (leB N p r = true → leB N q r = true → leB N j r = true) := Lib.hid fun x y => leB_iff.2 (hL r (leB_iff.1 x) (leB_iff.1 y))
  have B3 : Hid (leB N o p = true → leB N o m = true) := Lib.hid fun x => leB_iff.2 (hG o hop.ok hop.len (leB_iff.1 x) hoQ)
  have D1 : Hid (leB N (meetL m r) m = true) := Lib.hid (leB_iff.2 (meetL_left hmp.ok hmp.len))
  have D2 : Hid (leB N j (joinL j r) = true) := Lib.hid (leB_iff.2 (joinL_left hjp.len))
  have E1 : Hid (meetL q p = m) := Lib.hid (leP.anti (hq.meet p).ok hmp.ok ((hq.meet p).len.trans hmp.len.symm) (by rw [(hq.meet p).len]; exact hG _ (hq.meet p).ok (hq.meet p).len (meetL_right hp.ok hq.len hp.len) (meetL_left hq.ok hq.len)) (by rw [(hq.meet p).len]; exact meetL_greatest hq.ok hp.ok hmp.ok hq.len hp.len hmp.len hmQ hmP))
  have E2 : Hid (joinL q p = j) := Lib.hid (leP.anti (hq.join p).ok hjp.ok ((hq.join p).len.trans hjp.len.symm) (by rw [(hq.join p).len]; exact joinL_least hq.len hQj hPj) (by rw [(hq.join p).len]; exact hL _ (joinL_right hq.len) (joinL_left hq.len)))
  have E3 : Hid (joinL p m = p) := Lib.hid (leP.anti (hp.join m).ok hp.ok ((hp.join m).len.trans hp.len.symm) (by rw [(hp.join m).len]; exact joinL_least hp.len (leP.refl _ _) hmP) (by rw [(hp.join m).len]; exact joinL_left hp.len))
  have E4 : Hid (meetL p j = p) := Lib.hid (leP.anti (hp.meet j).ok hp.ok ((hp.meet j).len.trans hp.len.symm) (by rw [(hp.meet j).len]; exact meetL_left hp.ok hp.len) (by rw [(hp.meet j).len]; exact meetL_greatest hp.ok hjp.ok hp.ok hp.len hjp.len hp.len (leP.refl _ _) hPj))
  have hN2 : ((N : Int) + (N : Int) != 2 * (N : Int)) = false := by simp; omega
  have HOF := Lib.hid hof; have HAS := Lib.hid has; have HA3 := Lib.hid ha3; have HP := Lib.hid hp; have HQ := Lib.hid hq; have HR := Lib.hid hr
  have HM := Lib.hid hmp; have HME := Lib.hid hm; have HJ := Lib.hid hjp; have HJE := Lib.hid hj; have HO := Lib.hid hop; have HOE := Lib.hid ho
  clear hof has ha3 hp hq hr hN hpp hqq hrr h h' h3 hb hb' hb3 hs' hs3 hl1 hl2 hl3 hm hj ho hmp hjp hop hmP hmQ hPj hQj hG hL hoQ
  go_enter Try.func5, Try.ntmps5
  have HX := Lib.hid (Ext.refl w)
  have HC := Lib.hid (HOF.out)
  go_wp2_with fail
  refine HC.out.mono ?_
  clear HC
  rintro e w1 hret
  obtain ⟨aI7, cI7, rfl, r, x⟩ := hret.lit (n := N) HP.out.len
  replace HX := Lib.hid (HX.out.trans x)
  have I7 := Lib.hid r
  clear r x
  have HC := Lib.hid (HAS.out _ HX.out)
  go_wp2_with fail
  refine HC.out.mono ?_
  clear HC
  rintro e w2 hret
  obtain ⟨aI8, cI8, rfl, r, x⟩ := hret.lit (n := N) HQ.out.len
  replace I7 := Lib.hid (I7.out.ext x)
  replace HX := Lib.hid (HX.out.trans x)
  have I8 := Lib.hid r
  clear r x
  have HC := Lib.hid (HA3.out _ HX.out)
  go_wp2_with fail
  refine HC.out.mono ?_
  clear HC
  rintro e w3 hret
  obtain ⟨aI9, cI9, rfl, r, x⟩ := hret.lit (n := N) HR.out.len
  replace I7 := Lib.hid (I7.out.ext x)
  replace I8 := Lib.hid (I8.out.ext x)
  replace HX := Lib.hid (HX.out.trans x)
  have I9 := Lib.hid r
  clear r x
  have HC := Lib.hid (ok_meet HP.out HQ.out I7.out I8.out)
  go_wp2_with fail
  refine HC.out.mono ?_
  clear HC
  rintro e w4 hret
  rw [← HME.out] at hret
  obtain ⟨aI10, rfl, r, x⟩ := hret.lit (n := N) HM.out.len
  replace I7 := Lib.hid (I7.out.ext x)
  replace I8 := Lib.hid (I8.out.ext x)
  replace I9 := Lib.hid (I9.out.ext x)
  replace HX := Lib.hid (HX.out.trans x)
  have I10 := Lib.hid r
  clear r x
  have HC := Lib.hid (ok_join HP.out HQ.out I7.out I8.out)
  go_wp2_with fail
  refine HC.out.mono ?_
  clear HC
  rintro e w5 hret
  rw [← HJE.out] at hret
  obtain ⟨aI12, rfl, r, x⟩ := hret.lit (n := N) HJ.out.len
  replace I7 := Lib.hid (I7.out.ext x)
  replace I8 := Lib.hid (I8.out.ext x)
  replace I9 := Lib.hid (I9.out.ext x)
  replace I10 := Lib.hid (I10.out.ext x)
  replace HX := Lib.hid (HX.out.trans x)
  have I12 := Lib.hid r
  clear r x
  as_aux_lemma =>
    have HC := Lib.hid (ok_check HM.out I10.out)
    go_wp2_with fail
    refine HC.out.mono ?_
    clear HC
    rintro e w6 ⟨rfl, x⟩
    replace I7 := Lib.hid (I7.out.ext x)
    replace I8 := Lib.hid (I8.out.ext x)
    replace I9 := Lib.hid (I9.out.ext x)
    replace I10 := Lib.hid (I10.out.ext x)
    replace I12 := Lib.hid (I12.out.ext x)
    replace HX := Lib.hid (HX.out.trans x)
    clear x
    have HC := Lib.hid (ok_check HJ.out I12.out)
    go_wp2_with fail
    refine HC.out.mono ?_
    clear HC
    rintro e w7 ⟨rfl, x⟩
    replace I7 := Lib.hid (I7.out.ext x)
    replace I8 := Lib.hid (I8.out.ext x)
    replace I9 := Lib.hid (I9.out.ext x)
    replace I10 := Lib.hid (I10.out.ext x)
    replace I12 := Lib.hid (I12.out.ext x)
    replace HX := Lib.hid (HX.out.trans x)
    clear x
    have HC := Lib.hid ((show Calls _ _ _ _ (fun e w' => e = .returned (.bool true) ∧ Ext _ w') from by have := ok_within HM.out HP.out I10.out I7.out; rw [A1.out] at this; exact this))
    go_wp2_with fail
    refine HC.out.mono ?_
    clear HC
    rintro e w8 ⟨rfl, x⟩
    replace I7 := Lib.hid (I7.out.ext x)
    replace I8 := Lib.hid (I8.out.ext x)
    replace I9 := Lib.hid (I9.out.ext x)
    replace I10 := Lib.hid (I10.out.ext x)
    replace I12 := Lib.hid (I12.out.ext x)
    replace HX := Lib.hid (HX.out.trans x)
    clear x
    have HC := Lib.hid ((show Calls _ _ _ _ (fun e w' => e = .returned (.bool true) ∧ Ext _ w') from by have := ok_within HM.out HQ.out I10.out I8.out; rw [A2.out] at this; exact this))
    go_wp2_with fail
    refine HC.out.mono ?_
    clear HC
    rintro e w9 ⟨rfl, x⟩
    replace I7 := Lib.hid (I7.out.ext x)
    replace I8 := Lib.hid (I8.out.ext x)
    replace I9 := Lib.hid (I9.out.ext x)
    replace I10 := Lib.hid (I10.out.ext x)
    replace I12 := Lib.hid (I12.out.ext x)
    replace HX := Lib.hid (HX.out.trans x)
    clear x
    have HC := Lib.hid ((show Calls _ _ _ _ (fun e w' => e = .returned (.bool true) ∧ Ext _ w') from by have := ok_within HP.out HJ.out I7.out I12.out; rw [A3.out] at this; exact this))
    go_wp2_with fail
    refine HC.out.mono ?_
    clear HC
    rintro e w10 ⟨rfl, x⟩
    replace I7 := Lib.hid (I7.out.ext x)
    replace I8 := Lib.hid (I8.out.ext x)
    replace I9 := Lib.hid (I9.out.ext x)
    replace I10 := Lib.hid (I10.out.ext x)
    replace I12 := Lib.hid (I12.out.ext x)
    replace HX := Lib.hid (HX.out.trans x)
    clear x
    have HC := Lib.hid ((show Calls _ _ _ _ (fun e w' => e = .returned (.bool true) ∧ Ext _ w') from by have := ok_within HQ.out HJ.out I8.out I12.out; rw [A4.out] at this; exact this))
    go_wp2_with fail
    refine HC.out.mono ?_
    clear HC
    rintro e w11 ⟨rfl, x⟩
    replace I7 := Lib.hid (I7.out.ext x)
    replace I8 := Lib.hid (I8.out.ext x)
    replace I9 := Lib.hid (I9.out.ext x)
    replace I10 := Lib.hid (I10.out.ext x)
    replace I12 := Lib.hid (I12.out.ext x)
    replace HX := Lib.hid (HX.out.trans x)
    clear x
    as_aux_lemma =>
      have HC := Lib.hid (ok_meet HM.out HR.out I10.out I9.out)
      go_wp2_with fail
      refine HC.out.mono ?_
      clear HC
      rintro e w12 hret
      obtain ⟨aI14, rfl, r, x⟩ := hret.lit (n := N) (HM.out.meet r).len
      replace I7 := Lib.hid (I7.out.ext x)
      replace I8 := Lib.hid (I8.out.ext x)
      replace I9 := Lib.hid (I9.out.ext x)
      replace I10 := Lib.hid (I10.out.ext x)
      replace I12 := Lib.hid (I12.out.ext x)
      replace HX := Lib.hid (HX.out.trans x)
      have I14 := Lib.hid r
      clear r x
      have HC := Lib.hid (ok_join HJ.out HR.out I12.out I9.out)
      go_wp2_with fail
      refine HC.out.mono ?_
      clear HC
      rintro e w13 hret
      obtain ⟨aI16, rfl, r, x⟩ := hret.lit (n := N) (HJ.out.join r).len
      replace I7 := Lib.hid (I7.out.ext x)
      replace I8 := Lib.hid (I8.out.ext x)
      replace I9 := Lib.hid (I9.out.ext x)
      replace I10 := Lib.hid (I10.out.ext x)
      replace I12 := Lib.hid (I12.out.ext x)
      replace I14 := Lib.hid (I14.out.ext x)
      replace HX := Lib.hid (HX.out.trans x)
      have I16 := Lib.hid r
      clear r x
      have HC := Lib.hid (ok_meet HR.out HQ.out I9.out I8.out)
      go_wp2_with fail
      refine HC.out.mono ?_
      clear HC
      rintro e w14 hret
      rw [← HOE.out] at hret
      obtain ⟨aI18, rfl, r, x⟩ := hret.lit (n := N) HO.out.len
      replace I7 := Lib.hid (I7.out.ext x)
      replace I8 := Lib.hid (I8.out.ext x)
      replace I9 := Lib.hid (I9.out.ext x)
      replace I10 := Lib.hid (I10.out.ext x)
      replace I12 := Lib.hid (I12.out.ext x)
      replace I14 := Lib.hid (I14.out.ext x)
      replace I16 := Lib.hid (I16.out.ext x)
      replace HX := Lib.hid (HX.out.trans x)
      have I18 := Lib.hid r
      clear r x
      go_upto_region 14 with (fail)
      go_cut [188] (fun s wx => s = .bool false ∧ Ext w14 wx)
      case first =>
        as_aux_lemma =>
          have HY := Lib.hid (Ext.refl w14)
          cases t00 : leB N r p with
          | false =>
            have T00 := Lib.hid t00; clear t00
            have HC := Lib.hid ((show Calls _ _ _ _ (fun e w' => e = .returned (.bool false) ∧ Ext _ w') from by have := ok_within HR.out HP.out I9.out I7.out; rw [T00.out] at this; exact this))
            go_wp2_with fail
            refine HC.out.mono ?_
            clear HC
            rintro e w15 ⟨rfl, x⟩
            replace I7 := Lib.hid (I7.out.ext x)
            replace I8 := Lib.hid (I8.out.ext x)
            replace I9 := Lib.hid (I9.out.ext x)
            replace I10 := Lib.hid (I10.out.ext x)
            replace I12 := Lib.hid (I12.out.ext x)
            replace I14 := Lib.hid (I14.out.ext x)
            replace I16 := Lib.hid (I16.out.ext x)
            replace I18 := Lib.hid (I18.out.ext x)
            replace HY := Lib.hid (HY.out.trans x)
            clear x
            as_aux_lemma =>
              cases t10 : leB N p r with
              | false =>
                have T10 := Lib.hid t10; clear t10
                have HC := Lib.hid ((show Calls _ _ _ _ (fun e w' => e = .returned (.bool false) ∧ Ext _ w') from by have := ok_within HP.out HR.out I7.out I9.out; rw [T10.out] at this; exact this))
                go_wp2_with fail
                refine HC.out.mono ?_
                clear HC
                rintro e w16 ⟨rfl, x⟩
                replace I7 := Lib.hid (I7.out.ext x)
                replace I8 := Lib.hid (I8.out.ext x)
                replace I9 := Lib.hid (I9.out.ext x)
                replace I10 := Lib.hid (I10.out.ext x)
                replace I12 := Lib.hid (I12.out.ext x)
                replace I14 := Lib.hid (I14.out.ext x)
                replace I16 := Lib.hid (I16.out.ext x)
                replace I18 := Lib.hid (I18.out.ext x)
                replace HY := Lib.hid (HY.out.trans x)
                clear x
                as_aux_lemma =>
                  cases t20 : leB N o p with
                  | false =>
                    have T20 := Lib.hid t20; clear t20
                    have HC := Lib.hid ((show Calls _ _ _ _ (fun e w' => e = .returned (.bool false) ∧ Ext _ w') from by have := ok_within HO.out HP.out I18.out I7.out; rw [T20.out] at this; exact this))
                    go_wp2_with fail
                    refine HC.out.mono ?_
                    clear HC
                    rintro e w17 ⟨rfl, x⟩
                    replace I7 := Lib.hid (I7.out.ext x)
                    replace I8 := Lib.hid (I8.out.ext x)
                    replace I9 := Lib.hid (I9.out.ext x)
                    replace I10 := Lib.hid (I10.out.ext x)
                    replace I12 := Lib.hid (I12.out.ext x)
                    replace I14 := Lib.hid (I14.out.ext x)
                    replace I16 := Lib.hid (I16.out.ext x)
                    replace I18 := Lib.hid (I18.out.ext x)
                    replace HY := Lib.hid (HY.out.trans x)
                    clear x
                    go_wp2
                    go_meet
                    case rel => exact ⟨rfl, HY.out⟩
                  | true =>
                    have T20 := Lib.hid t20; clear t20
                    have HC := Lib.hid ((show Calls _ _ _ _ (fun e w' => e = .returned (.bool true) ∧ Ext _ w') from by have := ok_within HO.out HP.out I18.out I7.out; rw [T20.out] at this; exact this))
                    go_wp2_with fail
                    refine HC.out.mono ?_
                    clear HC
                    rintro e w18 ⟨rfl, x⟩
                    replace I7 := Lib.hid (I7.out.ext x)
                    replace I8 := Lib.hid (I8.out.ext x)
                    replace I9 := Lib.hid (I9.out.ext x)
                    replace I10 := Lib.hid (I10.out.ext x)
                    replace I12 := Lib.hid (I12.out.ext x)
                    replace I14 := Lib.hid (I14.out.ext x)
                    replace I16 := Lib.hid (I16.out.ext x)
                    replace I18 := Lib.hid (I18.out.ext x)
                    replace HY := Lib.hid (HY.out.trans x)
                    clear x
                    have T21 : Hid (leB N o m = true) := Lib.hid (B3.out T20.out)
                    have HC := Lib.hid ((show Calls _ _ _ _ (fun e w' => e = .returned (.bool true) ∧ Ext _ w') from by have := ok_within HO.out HM.out I18.out I10.out; rw [T21.out] at this; exact this))
                    go_wp2_with fail
                    refine HC.out.mono ?_
                    clear HC
                    rintro e w19 ⟨rfl, x⟩
                    replace I7 := Lib.hid (I7.out.ext x)
                    replace I8 := Lib.hid (I8.out.ext x)
                    replace I9 := Lib.hid (I9.out.ext x)
                    replace I10 := Lib.hid (I10.out.ext x)
                    replace I12 := Lib.hid (I12.out.ext x)
                    replace I14 := Lib.hid (I14.out.ext x)
                    replace I16 := Lib.hid (I16.out.ext x)
                    replace I18 := Lib.hid (I18.out.ext x)
                    replace HY := Lib.hid (HY.out.trans x)
                    clear x
                    go_wp2
                    go_meet
                    case rel => exact ⟨rfl, HY.out⟩
              | true =>
                have T10 := Lib.hid t10; clear t10
                have HC := Lib.hid ((show Calls _ _ _ _ (fun e w' => e = .returned (.bool true) ∧ Ext _ w') from by have := ok_within HP.out HR.out I7.out I9.out; rw [T10.out] at this; exact this))
                go_wp2_with fail
                refine HC.out.mono ?_
                clear HC
                rintro e w20 ⟨rfl, x⟩
                replace I7 := Lib.hid (I7.out.ext x)
                replace I8 := Lib.hid (I8.out.ext x)
                replace I9 := Lib.hid (I9.out.ext x)
                replace I10 := Lib.hid (I10.out.ext x)
                replace I12 := Lib.hid (I12.out.ext x)
                replace I14 := Lib.hid (I14.out.ext x)
                replace I16 := Lib.hid (I16.out.ext x)
                replace I18 := Lib.hid (I18.out.ext x)
                replace HY := Lib.hid (HY.out.trans x)
                clear x
                cases t11 : leB N q r with
                | false =>
                  have T11 := Lib.hid t11; clear t11
                  have HC := Lib.hid ((show Calls _ _ _ _ (fun e w' => e = .returned (.bool false) ∧ Ext _ w') from by have := ok_within HQ.out HR.out I8.out I9.out; rw [T11.out] at this; exact this))
                  go_wp2_with fail
                  refine HC.out.mono ?_
                  clear HC
                  rintro e w21 ⟨rfl, x⟩
                  replace I7 := Lib.hid (I7.out.ext x)
                  replace I8 := Lib.hid (I8.out.ext x)
                  replace I9 := Lib.hid (I9.out.ext x)
                  replace I10 := Lib.hid (I10.out.ext x)
                  replace I12 := Lib.hid (I12.out.ext x)
                  replace I14 := Lib.hid (I14.out.ext x)
                  replace I16 := Lib.hid (I16.out.ext x)
                  replace I18 := Lib.hid (I18.out.ext x)
                  replace HY := Lib.hid (HY.out.trans x)
                  clear x
                  as_aux_lemma =>
                    cases t20 : leB N o p with
                    | false =>
                      have T20 := Lib.hid t20; clear t20
                      have HC := Lib.hid ((show Calls _ _ _ _ (fun e w' => e = .returned (.bool false) ∧ Ext _ w') from by have := ok_within HO.out HP.out I18.out I7.out; rw [T20.out] at this; exact this))
                      go_wp2_with fail
                      refine HC.out.mono ?_
                      clear HC
                      rintro e w22 ⟨rfl, x⟩
                      replace I7 := Lib.hid (I7.out.ext x)
                      replace I8 := Lib.hid (I8.out.ext x)
                      replace I9 := Lib.hid (I9.out.ext x)
                      replace I10 := Lib.hid (I10.out.ext x)
                      replace I12 := Lib.hid (I12.out.ext x)
                      replace I14 := Lib.hid (I14.out.ext x)
                      replace I16 := Lib.hid (I16.out.ext x)
                      replace I18 := Lib.hid (I18.out.ext x)
                      replace HY := Lib.hid (HY.out.trans x)
                      clear x
                      go_wp2
                      go_meet
                      case rel => exact ⟨rfl, HY.out⟩
                    | true =>
                      have T20 := Lib.hid t20; clear t20
                      have HC := Lib.hid ((show Calls _ _ _ _ (fun e w' => e = .returned (.bool true) ∧ Ext _ w') from by have := ok_within HO.out HP.out I18.out I7.out; rw [T20.out] at this; exact this))
                      go_wp2_with fail
                      refine HC.out.mono ?_
                      clear HC
                      rintro e w23 ⟨rfl, x⟩
                      replace I7 := Lib.hid (I7.out.ext x)
                      replace I8 := Lib.hid (I8.out.ext x)
                      replace I9 := Lib.hid (I9.out.ext x)
                      replace I10 := Lib.hid (I10.out.ext x)
                      replace I12 := Lib.hid (I12.out.ext x)
                      replace I14 := Lib.hid (I14.out.ext x)
                      replace I16 := Lib.hid (I16.out.ext x)
                      replace I18 := Lib.hid (I18.out.ext x)
                      replace HY := Lib.hid (HY.out.trans x)
                      clear x
                      have T21 : Hid (leB N o m = true) := Lib.hid (B3.out T20.out)
                      have HC := Lib.hid ((show Calls _ _ _ _ (fun e w' => e = .returned (.bool true) ∧ Ext _ w') from by have := ok_within HO.out HM.out I18.out I10.out; rw [T21.out] at this; exact this))
                      go_wp2_with fail
                      refine HC.out.mono ?_
                      clear HC
                      rintro e w24 ⟨rfl, x⟩
                      replace I7 := Lib.hid (I7.out.ext x)
                      replace I8 := Lib.hid (I8.out.ext x)
                      replace I9 := Lib.hid (I9.out.ext x)
                      replace I10 := Lib.hid (I10.out.ext x)
                      replace I12 := Lib.hid (I12.out.ext x)
                      replace I14 := Lib.hid (I14.out.ext x)
                      replace I16 := Lib.hid (I16.out.ext x)
                      replace I18 := Lib.hid (I18.out.ext x)
                      replace HY := Lib.hid (HY.out.trans x)
                      clear x
                      go_wp2
                      go_meet
                      case rel => exact ⟨rfl, HY.out⟩
                | true =>
                  have T11 := Lib.hid t11; clear t11
                  have HC := Lib.hid ((show Calls _ _ _ _ (fun e w' => e = .returned (.bool true) ∧ Ext _ w') from by have := ok_within HQ.out HR.out I8.out I9.out; rw [T11.out] at this; exact this))
                  go_wp2_with fail
                  refine HC.out.mono ?_
                  clear HC
                  rintro e w25 ⟨rfl, x⟩
                  replace I7 := Lib.hid (I7.out.ext x)
                  replace I8 := Lib.hid (I8.out.ext x)
                  replace I9 := Lib.hid (I9.out.ext x)
                  replace I10 := Lib.hid (I10.out.ext x)
                  replace I12 := Lib.hid (I12.out.ext x)
                  replace I14 := Lib.hid (I14.out.ext x)
                  replace I16 := Lib.hid (I16.out.ext x)
                  replace I18 := Lib.hid (I18.out.ext x)
                  replace HY := Lib.hid (HY.out.trans x)
                  clear x
                  have T12 : Hid (leB N j r = true) := Lib.hid (B2.out T10.out T11.out)
                  have HC := Lib.hid ((show Calls _ _ _ _ (fun e w' => e = .returned (.bool true) ∧ Ext _ w') from by have := ok_within HJ.out HR.out I12.out I9.out; rw [T12.out] at this; exact this))
                  go_wp2_with fail
                  refine HC.out.mono ?_
                  clear HC
                  rintro e w26 ⟨rfl, x⟩
                  replace I7 := Lib.hid (I7.out.ext x)
                  replace I8 := Lib.hid (I8.out.ext x)
                  replace I9 := Lib.hid (I9.out.ext x)
                  replace I10 := Lib.hid (I10.out.ext x)
                  replace I12 := Lib.hid (I12.out.ext x)
                  replace I14 := Lib.hid (I14.out.ext x)
                  replace I16 := Lib.hid (I16.out.ext x)
                  replace I18 := Lib.hid (I18.out.ext x)
                  replace HY := Lib.hid (HY.out.trans x)
                  clear x
                  cases t20 : leB N o p with
                  | false =>
                    have T20 := Lib.hid t20; clear t20
                    have HC := Lib.hid ((show Calls _ _ _ _ (fun e w' => e = .returned (.bool false) ∧ Ext _ w') from by have := ok_within HO.out HP.out I18.out I7.out; rw [T20.out] at this; exact this))
                    go_wp2_with fail
                    refine HC.out.mono ?_
                    clear HC
                    rintro e w27 ⟨rfl, x⟩
                    replace I7 := Lib.hid (I7.out.ext x)
                    replace I8 := Lib.hid (I8.out.ext x)
                    replace I9 := Lib.hid (I9.out.ext x)
                    replace I10 := Lib.hid (I10.out.ext x)
                    replace I12 := Lib.hid (I12.out.ext x)
                    replace I14 := Lib.hid (I14.out.ext x)
                    replace I16 := Lib.hid (I16.out.ext x)
                    replace I18 := Lib.hid (I18.out.ext x)
                    replace HY := Lib.hid (HY.out.trans x)
                    clear x
                    go_wp2
                    go_meet
                    case rel => exact ⟨rfl, HY.out⟩
                  | true =>
                    have T20 := Lib.hid t20; clear t20
                    have HC := Lib.hid ((show Calls _ _ _ _ (fun e w' => e = .returned (.bool true) ∧ Ext _ w') from by have := ok_within HO.out HP.out I18.out I7.out; rw [T20.out] at this; exact this))
                    go_wp2_with fail
                    refine HC.out.mono ?_
                    clear HC
                    rintro e w28 ⟨rfl, x⟩
                    replace I7 := Lib.hid (I7.out.ext x)
                    replace I8 := Lib.hid (I8.out.ext x)
                    replace I9 := Lib.hid (I9.out.ext x)
                    replace I10 := Lib.hid (I10.out.ext x)
                    replace I12 := Lib.hid (I12.out.ext x)
                    replace I14 := Lib.hid (I14.out.ext x)
                    replace I16 := Lib.hid (I16.out.ext x)
                    replace I18 := Lib.hid (I18.out.ext x)
                    replace HY := Lib.hid (HY.out.trans x)
                    clear x
                    have T21 : Hid (leB N o m = true) := Lib.hid (B3.out T20.out)
                    have HC := Lib.hid ((show Calls _ _ _ _ (fun e w' => e = .returned (.bool true) ∧ Ext _ w') from by have := ok_within HO.out HM.out I18.out I10.out; rw [T21.out] at this; exact this))
                    go_wp2_with fail
                    refine HC.out.mono ?_
                    clear HC
                    rintro e w29 ⟨rfl, x⟩
                    replace I7 := Lib.hid (I7.out.ext x)
                    replace I8 := Lib.hid (I8.out.ext x)
                    replace I9 := Lib.hid (I9.out.ext x)
                    replace I10 := Lib.hid (I10.out.ext x)
                    replace I12 := Lib.hid (I12.out.ext x)
                    replace I14 := Lib.hid (I14.out.ext x)
                    replace I16 := Lib.hid (I16.out.ext x)
                    replace I18 := Lib.hid (I18.out.ext x)
                    replace HY := Lib.hid (HY.out.trans x)
                    clear x
                    go_wp2
                    go_meet
                    case rel => exact ⟨rfl, HY.out⟩
          | true =>
            have T00 := Lib.hid t00; clear t00
            have HC := Lib.hid ((show Calls _ _ _ _ (fun e w' => e = .returned (.bool true) ∧ Ext _ w') from by have := ok_within HR.out HP.out I9.out I7.out; rw [T00.out] at this; exact this))
            go_wp2_with fail
            refine HC.out.mono ?_
            clear HC
            rintro e w30 ⟨rfl, x⟩
            replace I7 := Lib.hid (I7.out.ext x)
            replace I8 := Lib.hid (I8.out.ext x)
            replace I9 := Lib.hid (I9.out.ext x)
            replace I10 := Lib.hid (I10.out.ext x)
            replace I12 := Lib.hid (I12.out.ext x)
            replace I14 := Lib.hid (I14.out.ext x)
            replace I16 := Lib.hid (I16.out.ext x)
            replace I18 := Lib.hid (I18.out.ext x)
            replace HY := Lib.hid (HY.out.trans x)
            clear x
            cases t01 : leB N r q with
            | false =>
              have T01 := Lib.hid t01; clear t01
              have HC := Lib.hid ((show Calls _ _ _ _ (fun e w' => e = .returned (.bool false) ∧ Ext _ w') from by have := ok_within HR.out HQ.out I9.out I8.out; rw [T01.out] at this; exact this))
              go_wp2_with fail
              refine HC.out.mono ?_
              clear HC
              rintro e w31 ⟨rfl, x⟩
              replace I7 := Lib.hid (I7.out.ext x)
              replace I8 := Lib.hid (I8.out.ext x)
              replace I9 := Lib.hid (I9.out.ext x)
              replace I10 := Lib.hid (I10.out.ext x)
              replace I12 := Lib.hid (I12.out.ext x)
              replace I14 := Lib.hid (I14.out.ext x)
              replace I16 := Lib.hid (I16.out.ext x)
              replace I18 := Lib.hid (I18.out.ext x)
              replace HY := Lib.hid (HY.out.trans x)
              clear x
              as_aux_lemma =>
                cases t10 : leB N p r with
                | false =>
                  have T10 := Lib.hid t10; clear t10
                  have HC := Lib.hid ((show Calls _ _ _ _ (fun e w' => e = .returned (.bool false) ∧ Ext _ w') from by have := ok_within HP.out HR.out I7.out I9.out; rw [T10.out] at this; exact this))
                  go_wp2_with fail
                  refine HC.out.mono ?_
                  clear HC
                  rintro e w32 ⟨rfl, x⟩
                  replace I7 := Lib.hid (I7.out.ext x)
                  replace I8 := Lib.hid (I8.out.ext x)
                  replace I9 := Lib.hid (I9.out.ext x)
                  replace I10 := Lib.hid (I10.out.ext x)
                  replace I12 := Lib.hid (I12.out.ext x)
                  replace I14 := Lib.hid (I14.out.ext x)
                  replace I16 := Lib.hid (I16.out.ext x)
                  replace I18 := Lib.hid (I18.out.ext x)
                  replace HY := Lib.hid (HY.out.trans x)
                  clear x
                  as_aux_lemma =>
                    cases t20 : leB N o p with
                    | false =>
                      have T20 := Lib.hid t20; clear t20
                      have HC := Lib.hid ((show Calls _ _ _ _ (fun e w' => e = .returned (.bool false) ∧ Ext _ w') from by have := ok_within HO.out HP.out I18.out I7.out; rw [T20.out] at this; exact this))
                      go_wp2_with fail
                      refine HC.out.mono ?_
                      clear HC
                      rintro e w33 ⟨rfl, x⟩
                      replace I7 := Lib.hid (I7.out.ext x)
                      replace I8 := Lib.hid (I8.out.ext x)
                      replace I9 := Lib.hid (I9.out.ext x)
                      replace I10 := Lib.hid (I10.out.ext x)
                      replace I12 := Lib.hid (I12.out.ext x)
                      replace I14 := Lib.hid (I14.out.ext x)
                      replace I16 := Lib.hid (I16.out.ext x)
                      replace I18 := Lib.hid (I18.out.ext x)
                      replace HY := Lib.hid (HY.out.trans x)
                      clear x
                      go_wp2
                      go_meet
                      case rel => exact ⟨rfl, HY.out⟩
                    | true =>
                      have T20 := Lib.hid t20; clear t20
                      have HC := Lib.hid ((show Calls _ _ _ _ (fun e w' => e = .returned (.bool true) ∧ Ext _ w') from by have := ok_within HO.out HP.out I18.out I7.out; rw [T20.out] at this; exact this))
                      go_wp2_with fail
                      refine HC.out.mono ?_
                      clear HC
                      rintro e w34 ⟨rfl, x⟩
                      replace I7 := Lib.hid (I7.out.ext x)
                      replace I8 := Lib.hid (I8.out.ext x)
                      replace I9 := Lib.hid (I9.out.ext x)
                      replace I10 := Lib.hid (I10.out.ext x)
                      replace I12 := Lib.hid (I12.out.ext x)
                      replace I14 := Lib.hid (I14.out.ext x)
                      replace I16 := Lib.hid (I16.out.ext x)
                      replace I18 := Lib.hid (I18.out.ext x)
                      replace HY := Lib.hid (HY.out.trans x)
                      clear x
                      have T21 : Hid (leB N o m = true) := Lib.hid (B3.out T20.out)
                      have HC := Lib.hid ((show Calls _ _ _ _ (fun e w' => e = .returned (.bool true) ∧ Ext _ w') from by have := ok_within HO.out HM.out I18.out I10.out; rw [T21.out] at this; exact this))
                      go_wp2_with fail
                      refine HC.out.mono ?_
                      clear HC
                      rintro e w35 ⟨rfl, x⟩
                      replace I7 := Lib.hid (I7.out.ext x)
                      replace I8 := Lib.hid (I8.out.ext x)
                      replace I9 := Lib.hid (I9.out.ext x)
                      replace I10 := Lib.hid (I10.out.ext x)
                      replace I12 := Lib.hid (I12.out.ext x)
                      replace I14 := Lib.hid (I14.out.ext x)
                      replace I16 := Lib.hid (I16.out.ext x)
                      replace I18 := Lib.hid (I18.out.ext x)
                      replace HY := Lib.hid (HY.out.trans x)
                      clear x
                      go_wp2
                      go_meet
                      case rel => exact ⟨rfl, HY.out⟩
                | true =>
                  have T10 := Lib.hid t10; clear t10
                  have HC := Lib.hid ((show Calls _ _ _ _ (fun e w' => e = .returned (.bool true) ∧ Ext _ w') from by have := ok_within HP.out HR.out I7.out I9.out; rw [T10.out] at this; exact this))
                  go_wp2_with fail
                  refine HC.out.mono ?_
                  clear HC
                  rintro e w36 ⟨rfl, x⟩
                  replace I7 := Lib.hid (I7.out.ext x)
                  replace I8 := Lib.hid (I8.out.ext x)
                  replace I9 := Lib.hid (I9.out.ext x)
                  replace I10 := Lib.hid (I10.out.ext x)
                  replace I12 := Lib.hid (I12.out.ext x)
                  replace I14 := Lib.hid (I14.out.ext x)
                  replace I16 := Lib.hid (I16.out.ext x)
                  replace I18 := Lib.hid (I18.out.ext x)
                  replace HY := Lib.hid (HY.out.trans x)
                  clear x
                  cases t11 : leB N q r with
                  | false =>
                    have T11 := Lib.hid t11; clear t11
                    have HC := Lib.hid ((show Calls _ _ _ _ (fun e w' => e = .returned (.bool false) ∧ Ext _ w') from by have := ok_within HQ.out HR.out I8.out I9.out; rw [T11.out] at this; exact this))
                    go_wp2_with fail
                    refine HC.out.mono ?_
                    clear HC
                    rintro e w37 ⟨rfl, x⟩
                    replace I7 := Lib.hid (I7.out.ext x)
                    replace I8 := Lib.hid (I8.out.ext x)
                    replace I9 := Lib.hid (I9.out.ext x)
                    replace I10 := Lib.hid (I10.out.ext x)
                    replace I12 := Lib.hid (I12.out.ext x)
                    replace I14 := Lib.hid (I14.out.ext x)
                    replace I16 := Lib.hid (I16.out.ext x)
                    replace I18 := Lib.hid (I18.out.ext x)
                    replace HY := Lib.hid (HY.out.trans x)
                    clear x
                    as_aux_lemma =>
                      cases t20 : leB N o p with
                      | false =>
                        have T20 := Lib.hid t20; clear t20
                        have HC := Lib.hid ((show Calls _ _ _ _ (fun e w' => e = .returned (.bool false) ∧ Ext _ w') from by have := ok_within HO.out HP.out I18.out I7.out; rw [T20.out] at this; exact this))
                        go_wp2_with fail
                        refine HC.out.mono ?_
                        clear HC
                        rintro e w38 ⟨rfl, x⟩
                        replace I7 := Lib.hid (I7.out.ext x)
                        replace I8 := Lib.hid (I8.out.ext x)
                        replace I9 := Lib.hid (I9.out.ext x)
                        replace I10 := Lib.hid (I10.out.ext x)
                        replace I12 := Lib.hid (I12.out.ext x)
                        replace I14 := Lib.hid (I14.out.ext x)
                        replace I16 := Lib.hid (I16.out.ext x)
                        replace I18 := Lib.hid (I18.out.ext x)
                        replace HY := Lib.hid (HY.out.trans x)
                        clear x
                        go_wp2
                        go_meet
                        case rel => exact ⟨rfl, HY.out⟩
                      | true =>
                        have T20 := Lib.hid t20; clear t20
                        have HC := Lib.hid ((show Calls _ _ _ _ (fun e w' => e = .returned (.bool true) ∧ Ext _ w') from by have := ok_within HO.out HP.out I18.out I7.out; rw [T20.out] at this; exact this))
                        go_wp2_with fail
                        refine HC.out.mono ?_
                        clear HC
                        rintro e w39 ⟨rfl, x⟩
                        replace I7 := Lib.hid (I7.out.ext x)
                        replace I8 := Lib.hid (I8.out.ext x)
                        replace I9 := Lib.hid (I9.out.ext x)
                        replace I10 := Lib.hid (I10.out.ext x)
                        replace I12 := Lib.hid (I12.out.ext x)
                        replace I14 := Lib.hid (I14.out.ext x)
                        replace I16 := Lib.hid (I16.out.ext x)
                        replace I18 := Lib.hid (I18.out.ext x)
                        replace HY := Lib.hid (HY.out.trans x)
                        clear x
                        have T21 : Hid (leB N o m = true) := Lib.hid (B3.out T20.out)
                        have HC := Lib.hid ((show Calls _ _ _ _ (fun e w' => e = .returned (.bool true) ∧ Ext _ w') from by have := ok_within HO.out HM.out I18.out I10.out; rw [T21.out] at this; exact this))
                        go_wp2_with fail
                        refine HC.out.mono ?_
                        clear HC
                        rintro e w40 ⟨rfl, x⟩
                        replace I7 := Lib.hid (I7.out.ext x)
                        replace I8 := Lib.hid (I8.out.ext x)
                        replace I9 := Lib.hid (I9.out.ext x)
                        replace I10 := Lib.hid (I10.out.ext x)
                        replace I12 := Lib.hid (I12.out.ext x)
                        replace I14 := Lib.hid (I14.out.ext x)
                        replace I16 := Lib.hid (I16.out.ext x)
                        replace I18 := Lib.hid (I18.out.ext x)
                        replace HY := Lib.hid (HY.out.trans x)
                        clear x
                        go_wp2
                        go_meet
                        case rel => exact ⟨rfl, HY.out⟩
                  | true =>
                    have T11 := Lib.hid t11; clear t11
                    have HC := Lib.hid ((show Calls _ _ _ _ (fun e w' => e = .returned (.bool true) ∧ Ext _ w') from by have := ok_within HQ.out HR.out I8.out I9.out; rw [T11.out] at this; exact this))
                    go_wp2_with fail
                    refine HC.out.mono ?_
                    clear HC
                    rintro e w41 ⟨rfl, x⟩
                    replace I7 := Lib.hid (I7.out.ext x)
                    replace I8 := Lib.hid (I8.out.ext x)
                    replace I9 := Lib.hid (I9.out.ext x)
                    replace I10 := Lib.hid (I10.out.ext x)
                    replace I12 := Lib.hid (I12.out.ext x)
                    replace I14 := Lib.hid (I14.out.ext x)
                    replace I16 := Lib.hid (I16.out.ext x)
                    replace I18 := Lib.hid (I18.out.ext x)
                    replace HY := Lib.hid (HY.out.trans x)
                    clear x
                    have T12 : Hid (leB N j r = true) := Lib.hid (B2.out T10.out T11.out)
                    have HC := Lib.hid ((show Calls _ _ _ _ (fun e w' => e = .returned (.bool true) ∧ Ext _ w') from by have := ok_within HJ.out HR.out I12.out I9.out; rw [T12.out] at this; exact this))
                    go_wp2_with fail
                    refine HC.out.mono ?_
                    clear HC
                    rintro e w42 ⟨rfl, x⟩
                    replace I7 := Lib.hid (I7.out.ext x)
                    replace I8 := Lib.hid (I8.out.ext x)
                    replace I9 := Lib.hid (I9.out.ext x)
                    replace I10 := Lib.hid (I10.out.ext x)
                    replace I12 := Lib.hid (I12.out.ext x)
                    replace I14 := Lib.hid (I14.out.ext x)
                    replace I16 := Lib.hid (I16.out.ext x)
                    replace I18 := Lib.hid (I18.out.ext x)
                    replace HY := Lib.hid (HY.out.trans x)
                    clear x
                    cases t20 : leB N o p with
                    | false =>
                      have T20 := Lib.hid t20; clear t20
                      have HC := Lib.hid ((show Calls _ _ _ _ (fun e w' => e = .returned (.bool false) ∧ Ext _ w') from by have := ok_within HO.out HP.out I18.out I7.out; rw [T20.out] at this; exact this))
                      go_wp2_with fail
                      refine HC.out.mono ?_
                      clear HC
                      rintro e w43 ⟨rfl, x⟩
                      replace I7 := Lib.hid (I7.out.ext x)
                      replace I8 := Lib.hid (I8.out.ext x)
                      replace I9 := Lib.hid (I9.out.ext x)
                      replace I10 := Lib.hid (I10.out.ext x)
                      replace I12 := Lib.hid (I12.out.ext x)
                      replace I14 := Lib.hid (I14.out.ext x)
                      replace I16 := Lib.hid (I16.out.ext x)
                      replace I18 := Lib.hid (I18.out.ext x)
                      replace HY := Lib.hid (HY.out.trans x)
                      clear x
                      go_wp2
                      go_meet
                      case rel => exact ⟨rfl, HY.out⟩
                    | true =>
                      have T20 := Lib.hid t20; clear t20
                      have HC := Lib.hid ((show Calls _ _ _ _ (fun e w' => e = .returned (.bool true) ∧ Ext _ w') from by have := ok_within HO.out HP.out I18.out I7.out; rw [T20.out] at this; exact this))
                      go_wp2_with fail
                      refine HC.out.mono ?_
                      clear HC
                      rintro e w44 ⟨rfl, x⟩
                      replace I7 := Lib.hid (I7.out.ext x)
                      replace I8 := Lib.hid (I8.out.ext x)
                      replace I9 := Lib.hid (I9.out.ext x)
                      replace I10 := Lib.hid (I10.out.ext x)
                      replace I12 := Lib.hid (I12.out.ext x)
                      replace I14 := Lib.hid (I14.out.ext x)
                      replace I16 := Lib.hid (I16.out.ext x)
                      replace I18 := Lib.hid (I18.out.ext x)
                      replace HY := Lib.hid (HY.out.trans x)
                      clear x
                      have T21 : Hid (leB N o m = true) := Lib.hid (B3.out T20.out)
                      have HC := Lib.hid ((show Calls _ _ _ _ (fun e w' => e = .returned (.bool true) ∧ Ext _ w') from by have := ok_within HO.out HM.out I18.out I10.out; rw [T21.out] at this; exact this))
                      go_wp2_with fail
                      refine HC.out.mono ?_
                      clear HC
                      rintro e w45 ⟨rfl, x⟩
                      replace I7 := Lib.hid (I7.out.ext x)
                      replace I8 := Lib.hid (I8.out.ext x)
                      replace I9 := Lib.hid (I9.out.ext x)
                      replace I10 := Lib.hid (I10.out.ext x)
                      replace I12 := Lib.hid (I12.out.ext x)
                      replace I14 := Lib.hid (I14.out.ext x)
                      replace I16 := Lib.hid (I16.out.ext x)
                      replace I18 := Lib.hid (I18.out.ext x)
                      replace HY := Lib.hid (HY.out.trans x)
                      clear x
                      go_wp2
                      go_meet
                      case rel => exact ⟨rfl, HY.out⟩
            | true =>
              have T01 := Lib.hid t01; clear t01
              have HC := Lib.hid ((show Calls _ _ _ _ (fun e w' => e = .returned (.bool true) ∧ Ext _ w') from by have := ok_within HR.out HQ.out I9.out I8.out; rw [T01.out] at this; exact this))
              go_wp2_with fail
              refine HC.out.mono ?_
              clear HC
              rintro e w46 ⟨rfl, x⟩
              replace I7 := Lib.hid (I7.out.ext x)
              replace I8 := Lib.hid (I8.out.ext x)
              replace I9 := Lib.hid (I9.out.ext x)
              replace I10 := Lib.hid (I10.out.ext x)
              replace I12 := Lib.hid (I12.out.ext x)
              replace I14 := Lib.hid (I14.out.ext x)
              replace I16 := Lib.hid (I16.out.ext x)
              replace I18 := Lib.hid (I18.out.ext x)
              replace HY := Lib.hid (HY.out.trans x)
              clear x
              have T02 : Hid (leB N r m = true) := Lib.hid (B1.out T00.out T01.out)
              have HC := Lib.hid ((show Calls _ _ _ _ (fun e w' => e = .returned (.bool true) ∧ Ext _ w') from by have := ok_within HR.out HM.out I9.out I10.out; rw [T02.out] at this; exact this))
              go_wp2_with fail
              refine HC.out.mono ?_
              clear HC
              rintro e w47 ⟨rfl, x⟩
              replace I7 := Lib.hid (I7.out.ext x)
              replace I8 := Lib.hid (I8.out.ext x)
              replace I9 := Lib.hid (I9.out.ext x)
              replace I10 := Lib.hid (I10.out.ext x)
              replace I12 := Lib.hid (I12.out.ext x)
              replace I14 := Lib.hid (I14.out.ext x)
              replace I16 := Lib.hid (I16.out.ext x)
              replace I18 := Lib.hid (I18.out.ext x)
              replace HY := Lib.hid (HY.out.trans x)
              clear x
              cases t10 : leB N p r with
              | false =>
                have T10 := Lib.hid t10; clear t10
                have HC := Lib.hid ((show Calls _ _ _ _ (fun e w' => e = .returned (.bool false) ∧ Ext _ w') from by have := ok_within HP.out HR.out I7.out I9.out; rw [T10.out] at this; exact this))
                go_wp2_with fail
                refine HC.out.mono ?_
                clear HC
                rintro e w48 ⟨rfl, x⟩
                replace I7 := Lib.hid (I7.out.ext x)
                replace I8 := Lib.hid (I8.out.ext x)
                replace I9 := Lib.hid (I9.out.ext x)
                replace I10 := Lib.hid (I10.out.ext x)
                replace I12 := Lib.hid (I12.out.ext x)
                replace I14 := Lib.hid (I14.out.ext x)
                replace I16 := Lib.hid (I16.out.ext x)
                replace I18 := Lib.hid (I18.out.ext x)
                replace HY := Lib.hid (HY.out.trans x)
                clear x
                as_aux_lemma =>
                  cases t20 : leB N o p with
                  | false =>
                    have T20 := Lib.hid t20; clear t20
                    have HC := Lib.hid ((show Calls _ _ _ _ (fun e w' => e = .returned (.bool false) ∧ Ext _ w') from by have := ok_within HO.out HP.out I18.out I7.out; rw [T20.out] at this; exact this))
                    go_wp2_with fail
                    refine HC.out.mono ?_
                    clear HC
                    rintro e w49 ⟨rfl, x⟩
                    replace I7 := Lib.hid (I7.out.ext x)
                    replace I8 := Lib.hid (I8.out.ext x)
                    replace I9 := Lib.hid (I9.out.ext x)
                    replace I10 := Lib.hid (I10.out.ext x)
                    replace I12 := Lib.hid (I12.out.ext x)
                    replace I14 := Lib.hid (I14.out.ext x)
                    replace I16 := Lib.hid (I16.out.ext x)
                    replace I18 := Lib.hid (I18.out.ext x)
                    replace HY := Lib.hid (HY.out.trans x)
                    clear x
                    go_wp2
                    go_meet
                    case rel => exact ⟨rfl, HY.out⟩
                  | true =>
                    have T20 := Lib.hid t20; clear t20
                    have HC := Lib.hid ((show Calls _ _ _ _ (fun e w' => e = .returned (.bool true) ∧ Ext _ w') from by have := ok_within HO.out HP.out I18.out I7.out; rw [T20.out] at this; exact this))
                    go_wp2_with fail
                    refine HC.out.mono ?_
                    clear HC
                    rintro e w50 ⟨rfl, x⟩
                    replace I7 := Lib.hid (I7.out.ext x)
                    replace I8 := Lib.hid (I8.out.ext x)
                    replace I9 := Lib.hid (I9.out.ext x)
                    replace I10 := Lib.hid (I10.out.ext x)
                    replace I12 := Lib.hid (I12.out.ext x)
                    replace I14 := Lib.hid (I14.out.ext x)
                    replace I16 := Lib.hid (I16.out.ext x)
                    replace I18 := Lib.hid (I18.out.ext x)
                    replace HY := Lib.hid (HY.out.trans x)
                    clear x
                    have T21 : Hid (leB N o m = true) := Lib.hid (B3.out T20.out)
                    have HC := Lib.hid ((show Calls _ _ _ _ (fun e w' => e = .returned (.bool true) ∧ Ext _ w') from by have := ok_within HO.out HM.out I18.out I10.out; rw [T21.out] at this; exact this))
                    go_wp2_with fail
                    refine HC.out.mono ?_
                    clear HC
                    rintro e w51 ⟨rfl, x⟩
                    replace I7 := Lib.hid (I7.out.ext x)
                    replace I8 := Lib.hid (I8.out.ext x)
                    replace I9 := Lib.hid (I9.out.ext x)
                    replace I10 := Lib.hid (I10.out.ext x)
                    replace I12 := Lib.hid (I12.out.ext x)
                    replace I14 := Lib.hid (I14.out.ext x)
                    replace I16 := Lib.hid (I16.out.ext x)
                    replace I18 := Lib.hid (I18.out.ext x)
                    replace HY := Lib.hid (HY.out.trans x)
                    clear x
                    go_wp2
                    go_meet
                    case rel => exact ⟨rfl, HY.out⟩
              | true =>
                have T10 := Lib.hid t10; clear t10
                have HC := Lib.hid ((show Calls _ _ _ _ (fun e w' => e = .returned (.bool true) ∧ Ext _ w') from by have := ok_within HP.out HR.out I7.out I9.out; rw [T10.out] at this; exact this))
                go_wp2_with fail
                refine HC.out.mono ?_
                clear HC
                rintro e w52 ⟨rfl, x⟩
                replace I7 := Lib.hid (I7.out.ext x)
                replace I8 := Lib.hid (I8.out.ext x)
                replace I9 := Lib.hid (I9.out.ext x)
                replace I10 := Lib.hid (I10.out.ext x)
                replace I12 := Lib.hid (I12.out.ext x)
                replace I14 := Lib.hid (I14.out.ext x)
                replace I16 := Lib.hid (I16.out.ext x)
                replace I18 := Lib.hid (I18.out.ext x)
                replace HY := Lib.hid (HY.out.trans x)
                clear x
                cases t11 : leB N q r with
                | false =>
                  have T11 := Lib.hid t11; clear t11
                  have HC := Lib.hid ((show Calls _ _ _ _ (fun e w' => e = .returned (.bool false) ∧ Ext _ w') from by have := ok_within HQ.out HR.out I8.out I9.out; rw [T11.out] at this; exact this))
                  go_wp2_with fail
                  refine HC.out.mono ?_
                  clear HC
                  rintro e w53 ⟨rfl, x⟩
                  replace I7 := Lib.hid (I7.out.ext x)
                  replace I8 := Lib.hid (I8.out.ext x)
                  replace I9 := Lib.hid (I9.out.ext x)
                  replace I10 := Lib.hid (I10.out.ext x)
                  replace I12 := Lib.hid (I12.out.ext x)
                  replace I14 := Lib.hid (I14.out.ext x)
                  replace I16 := Lib.hid (I16.out.ext x)
                  replace I18 := Lib.hid (I18.out.ext x)
                  replace HY := Lib.hid (HY.out.trans x)
                  clear x
                  as_aux_lemma =>
                    cases t20 : leB N o p with
                    | false =>
                      have T20 := Lib.hid t20; clear t20
                      have HC := Lib.hid ((show Calls _ _ _ _ (fun e w' => e = .returned (.bool false) ∧ Ext _ w') from by have := ok_within HO.out HP.out I18.out I7.out; rw [T20.out] at this; exact this))
                      go_wp2_with fail
                      refine HC.out.mono ?_
                      clear HC
                      rintro e w54 ⟨rfl, x⟩
                      replace I7 := Lib.hid (I7.out.ext x)
                      replace I8 := Lib.hid (I8.out.ext x)
                      replace I9 := Lib.hid (I9.out.ext x)
                      replace I10 := Lib.hid (I10.out.ext x)
                      replace I12 := Lib.hid (I12.out.ext x)
                      replace I14 := Lib.hid (I14.out.ext x)
                      replace I16 := Lib.hid (I16.out.ext x)
                      replace I18 := Lib.hid (I18.out.ext x)
                      replace HY := Lib.hid (HY.out.trans x)
                      clear x
                      go_wp2
                      go_meet
                      case rel => exact ⟨rfl, HY.out⟩
                    | true =>
                      have T20 := Lib.hid t20; clear t20
                      have HC := Lib.hid ((show Calls _ _ _ _ (fun e w' => e = .returned (.bool true) ∧ Ext _ w') from by have := ok_within HO.out HP.out I18.out I7.out; rw [T20.out] at this; exact this))
                      go_wp2_with fail
                      refine HC.out.mono ?_
                      clear HC
                      rintro e w55 ⟨rfl, x⟩
                      replace I7 := Lib.hid (I7.out.ext x)
                      replace I8 := Lib.hid (I8.out.ext x)
                      replace I9 := Lib.hid (I9.out.ext x)
                      replace I10 := Lib.hid (I10.out.ext x)
                      replace I12 := Lib.hid (I12.out.ext x)
                      replace I14 := Lib.hid (I14.out.ext x)
                      replace I16 := Lib.hid (I16.out.ext x)
                      replace I18 := Lib.hid (I18.out.ext x)
                      replace HY := Lib.hid (HY.out.trans x)
                      clear x
                      have T21 : Hid (leB N o m = true) := Lib.hid (B3.out T20.out)
                      have HC := Lib.hid ((show Calls _ _ _ _ (fun e w' => e = .returned (.bool true) ∧ Ext _ w') from by have := ok_within HO.out HM.out I18.out I10.out; rw [T21.out] at this; exact this))
                      go_wp2_with fail
                      refine HC.out.mono ?_
                      clear HC
                      rintro e w56 ⟨rfl, x⟩
                      replace I7 := Lib.hid (I7.out.ext x)
                      replace I8 := Lib.hid (I8.out.ext x)
                      replace I9 := Lib.hid (I9.out.ext x)
                      replace I10 := Lib.hid (I10.out.ext x)
                      replace I12 := Lib.hid (I12.out.ext x)
                      replace I14 := Lib.hid (I14.out.ext x)
                      replace I16 := Lib.hid (I16.out.ext x)
                      replace I18 := Lib.hid (I18.out.ext x)
                      replace HY := Lib.hid (HY.out.trans x)
                      clear x
                      go_wp2
                      go_meet
                      case rel => exact ⟨rfl, HY.out⟩
                | true =>
                  have T11 := Lib.hid t11; clear t11
                  have HC := Lib.hid ((show Calls _ _ _ _ (fun e w' => e = .returned (.bool true) ∧ Ext _ w') from by have := ok_within HQ.out HR.out I8.out I9.out; rw [T11.out] at this; exact this))
                  go_wp2_with fail
                  refine HC.out.mono ?_
                  clear HC
                  rintro e w57 ⟨rfl, x⟩
                  replace I7 := Lib.hid (I7.out.ext x)
                  replace I8 := Lib.hid (I8.out.ext x)
                  replace I9 := Lib.hid (I9.out.ext x)
                  replace I10 := Lib.hid (I10.out.ext x)
                  replace I12 := Lib.hid (I12.out.ext x)
                  replace I14 := Lib.hid (I14.out.ext x)
                  replace I16 := Lib.hid (I16.out.ext x)
                  replace I18 := Lib.hid (I18.out.ext x)
                  replace HY := Lib.hid (HY.out.trans x)
                  clear x
                  have T12 : Hid (leB N j r = true) := Lib.hid (B2.out T10.out T11.out)
                  have HC := Lib.hid ((show Calls _ _ _ _ (fun e w' => e = .returned (.bool true) ∧ Ext _ w') from by have := ok_within HJ.out HR.out I12.out I9.out; rw [T12.out] at this; exact this))
                  go_wp2_with fail
                  refine HC.out.mono ?_
                  clear HC
                  rintro e w58 ⟨rfl, x⟩
                  replace I7 := Lib.hid (I7.out.ext x)
                  replace I8 := Lib.hid (I8.out.ext x)
                  replace I9 := Lib.hid (I9.out.ext x)
                  replace I10 := Lib.hid (I10.out.ext x)
                  replace I12 := Lib.hid (I12.out.ext x)
                  replace I14 := Lib.hid (I14.out.ext x)
                  replace I16 := Lib.hid (I16.out.ext x)
                  replace I18 := Lib.hid (I18.out.ext x)
                  replace HY := Lib.hid (HY.out.trans x)
                  clear x
                  cases t20 : leB N o p with
                  | false =>
                    have T20 := Lib.hid t20; clear t20
                    have HC := Lib.hid ((show Calls _ _ _ _ (fun e w' => e = .returned (.bool false) ∧ Ext _ w') from by have := ok_within HO.out HP.out I18.out I7.out; rw [T20.out] at this; exact this))
                    go_wp2_with fail
                    refine HC.out.mono ?_
                    clear HC
                    rintro e w59 ⟨rfl, x⟩
                    replace I7 := Lib.hid (I7.out.ext x)
                    replace I8 := Lib.hid (I8.out.ext x)
                    replace I9 := Lib.hid (I9.out.ext x)
                    replace I10 := Lib.hid (I10.out.ext x)
                    replace I12 := Lib.hid (I12.out.ext x)
                    replace I14 := Lib.hid (I14.out.ext x)
                    replace I16 := Lib.hid (I16.out.ext x)
                    replace I18 := Lib.hid (I18.out.ext x)
                    replace HY := Lib.hid (HY.out.trans x)
                    clear x
                    go_wp2
                    go_meet
                    case rel => exact ⟨rfl, HY.out⟩
                  | true =>
                    have T20 := Lib.hid t20; clear t20
                    have HC := Lib.hid ((show Calls _ _ _ _ (fun e w' => e = .returned (.bool true) ∧ Ext _ w') from by have := ok_within HO.out HP.out I18.out I7.out; rw [T20.out] at this; exact this))
                    go_wp2_with fail
                    refine HC.out.mono ?_
                    clear HC
                    rintro e w60 ⟨rfl, x⟩
                    replace I7 := Lib.hid (I7.out.ext x)
                    replace I8 := Lib.hid (I8.out.ext x)
                    replace I9 := Lib.hid (I9.out.ext x)
                    replace I10 := Lib.hid (I10.out.ext x)
                    replace I12 := Lib.hid (I12.out.ext x)
                    replace I14 := Lib.hid (I14.out.ext x)
                    replace I16 := Lib.hid (I16.out.ext x)
                    replace I18 := Lib.hid (I18.out.ext x)
                    replace HY := Lib.hid (HY.out.trans x)
                    clear x
                    have T21 : Hid (leB N o m = true) := Lib.hid (B3.out T20.out)
                    have HC := Lib.hid ((show Calls _ _ _ _ (fun e w' => e = .returned (.bool true) ∧ Ext _ w') from by have := ok_within HO.out HM.out I18.out I10.out; rw [T21.out] at this; exact this))
                    go_wp2_with fail
                    refine HC.out.mono ?_
                    clear HC
                    rintro e w61 ⟨rfl, x⟩
                    replace I7 := Lib.hid (I7.out.ext x)
                    replace I8 := Lib.hid (I8.out.ext x)
                    replace I9 := Lib.hid (I9.out.ext x)
                    replace I10 := Lib.hid (I10.out.ext x)
                    replace I12 := Lib.hid (I12.out.ext x)
                    replace I14 := Lib.hid (I14.out.ext x)
                    replace I16 := Lib.hid (I16.out.ext x)
                    replace I18 := Lib.hid (I18.out.ext x)
                    replace HY := Lib.hid (HY.out.trans x)
                    clear x
                    go_wp2
                    go_meet
                    case rel => exact ⟨rfl, HY.out⟩
      case rest =>
        as_aux_lemma =>
          obtain ⟨rfl, x⟩ := hcut
          replace I7 := Lib.hid (I7.out.ext x)
          replace I8 := Lib.hid (I8.out.ext x)
          replace I9 := Lib.hid (I9.out.ext x)
          replace I10 := Lib.hid (I10.out.ext x)
          replace I12 := Lib.hid (I12.out.ext x)
          replace I14 := Lib.hid (I14.out.ext x)
          replace I16 := Lib.hid (I16.out.ext x)
          replace I18 := Lib.hid (I18.out.ext x)
          replace HX := Lib.hid (HX.out.trans x)
          clear x
          have HC := Lib.hid (ok_meet HQ.out HP.out I8.out I7.out)
          go_wp2_with fail
          refine HC.out.mono ?_
          clear HC
          rintro e w62 hret
          rw [E1.out] at hret
          obtain ⟨aI20, rfl, r, x⟩ := hret.lit (n := N) HM.out.len
          replace I7 := Lib.hid (I7.out.ext x)
          replace I8 := Lib.hid (I8.out.ext x)
          replace I9 := Lib.hid (I9.out.ext x)
          replace I10 := Lib.hid (I10.out.ext x)
          replace I12 := Lib.hid (I12.out.ext x)
          replace I14 := Lib.hid (I14.out.ext x)
          replace I16 := Lib.hid (I16.out.ext x)
          replace I18 := Lib.hid (I18.out.ext x)
          replace HX := Lib.hid (HX.out.trans x)
          have I20 := Lib.hid r
          clear r x
          have HC := Lib.hid (ok_join HQ.out HP.out I8.out I7.out)
          go_wp2_with fail
          refine HC.out.mono ?_
          clear HC
          rintro e w63 hret
          rw [E2.out] at hret
          obtain ⟨aI22, rfl, r, x⟩ := hret.lit (n := N) HJ.out.len
          replace I7 := Lib.hid (I7.out.ext x)
          replace I8 := Lib.hid (I8.out.ext x)
          replace I9 := Lib.hid (I9.out.ext x)
          replace I10 := Lib.hid (I10.out.ext x)
          replace I12 := Lib.hid (I12.out.ext x)
          replace I14 := Lib.hid (I14.out.ext x)
          replace I16 := Lib.hid (I16.out.ext x)
          replace I18 := Lib.hid (I18.out.ext x)
          replace I20 := Lib.hid (I20.out.ext x)
          replace HX := Lib.hid (HX.out.trans x)
          have I22 := Lib.hid r
          clear r x
          have HC := Lib.hid (ok_join HP.out HM.out I7.out I10.out)
          go_wp2_with fail
          refine HC.out.mono ?_
          clear HC
          rintro e w64 hret
          rw [E3.out] at hret
          obtain ⟨aI24, rfl, r, x⟩ := hret.lit (n := N) HP.out.len
          replace I7 := Lib.hid (I7.out.ext x)
          replace I8 := Lib.hid (I8.out.ext x)
          replace I9 := Lib.hid (I9.out.ext x)
          replace I10 := Lib.hid (I10.out.ext x)
          replace I12 := Lib.hid (I12.out.ext x)
          replace I14 := Lib.hid (I14.out.ext x)
          replace I16 := Lib.hid (I16.out.ext x)
          replace I18 := Lib.hid (I18.out.ext x)
          replace I20 := Lib.hid (I20.out.ext x)
          replace I22 := Lib.hid (I22.out.ext x)
          replace HX := Lib.hid (HX.out.trans x)
          have I24 := Lib.hid r
          clear r x
          have HC := Lib.hid (ok_meet HP.out HJ.out I7.out I12.out)
          go_wp2_with fail
          refine HC.out.mono ?_
          clear HC
          rintro e w65 hret
          rw [E4.out] at hret
          obtain ⟨aI26, rfl, r, x⟩ := hret.lit (n := N) HP.out.len
          replace I7 := Lib.hid (I7.out.ext x)
          replace I8 := Lib.hid (I8.out.ext x)
          replace I9 := Lib.hid (I9.out.ext x)
          replace I10 := Lib.hid (I10.out.ext x)
          replace I12 := Lib.hid (I12.out.ext x)
          replace I14 := Lib.hid (I14.out.ext x)
          replace I16 := Lib.hid (I16.out.ext x)
          replace I18 := Lib.hid (I18.out.ext x)
          replace I20 := Lib.hid (I20.out.ext x)
          replace I22 := Lib.hid (I22.out.ext x)
          replace I24 := Lib.hid (I24.out.ext x)
          replace HX := Lib.hid (HX.out.trans x)
          have I26 := Lib.hid r
          clear r x
          as_aux_lemma =>
            have HC := Lib.hid ((show Calls _ _ _ _ (fun e w' => e = .returned (.bool true) ∧ Ext _ w') from by have := ok_within (HM.out.meet r) HM.out I14.out I10.out; rw [D1.out] at this; exact this))
            go_wp2_with fail
            refine HC.out.mono ?_
            clear HC
            rintro e w66 ⟨rfl, x⟩
            replace I7 := Lib.hid (I7.out.ext x)
            replace I8 := Lib.hid (I8.out.ext x)
            replace I9 := Lib.hid (I9.out.ext x)
            replace I10 := Lib.hid (I10.out.ext x)
            replace I12 := Lib.hid (I12.out.ext x)
            replace I14 := Lib.hid (I14.out.ext x)
            replace I16 := Lib.hid (I16.out.ext x)
            replace I18 := Lib.hid (I18.out.ext x)
            replace I20 := Lib.hid (I20.out.ext x)
            replace I22 := Lib.hid (I22.out.ext x)
            replace I24 := Lib.hid (I24.out.ext x)
            replace I26 := Lib.hid (I26.out.ext x)
            replace HX := Lib.hid (HX.out.trans x)
            clear x
            have HC := Lib.hid ((show Calls _ _ _ _ (fun e w' => e = .returned (.bool true) ∧ Ext _ w') from by have := ok_within HJ.out (HJ.out.join r) I12.out I16.out; rw [D2.out] at this; exact this))
            go_wp2_with fail
            refine HC.out.mono ?_
            clear HC
            rintro e w67 ⟨rfl, x⟩
            replace I7 := Lib.hid (I7.out.ext x)
            replace I8 := Lib.hid (I8.out.ext x)
            replace I9 := Lib.hid (I9.out.ext x)
            replace I10 := Lib.hid (I10.out.ext x)
            replace I12 := Lib.hid (I12.out.ext x)
            replace I14 := Lib.hid (I14.out.ext x)
            replace I16 := Lib.hid (I16.out.ext x)
            replace I18 := Lib.hid (I18.out.ext x)
            replace I20 := Lib.hid (I20.out.ext x)
            replace I22 := Lib.hid (I22.out.ext x)
            replace I24 := Lib.hid (I24.out.ext x)
            replace I26 := Lib.hid (I26.out.ext x)
            replace HX := Lib.hid (HX.out.trans x)
            clear x
            have HC := Lib.hid (ok_same HM.out HM.out I20.out I10.out rfl rfl)
            go_wp2_with fail
            refine HC.out.mono ?_
            clear HC
            rintro e w' ⟨rfl, rfl⟩
            have HC := Lib.hid (ok_same HJ.out HJ.out I22.out I12.out rfl rfl)
            go_wp2_with fail
            refine HC.out.mono ?_
            clear HC
            rintro e w' ⟨rfl, rfl⟩
            have HC := Lib.hid (ok_same HP.out HP.out I24.out I7.out rfl rfl)
            go_wp2_with fail
            refine HC.out.mono ?_
            clear HC
            rintro e w' ⟨rfl, rfl⟩
            have HC := Lib.hid (ok_same HP.out HP.out I26.out I7.out rfl rfl)
            go_wp2_with fail
            refine HC.out.mono ?_
            clear HC
            rintro e w' ⟨rfl, rfl⟩
            have HC := Lib.hid (lives_calls w67)
            go_wp2_with fail
            refine HC.out.mono ?_
            clear HC
            rintro e w68 ⟨rfl, x⟩
            replace I7 := Lib.hid (I7.out.ext x)
            replace I8 := Lib.hid (I8.out.ext x)
            replace I9 := Lib.hid (I9.out.ext x)
            replace I10 := Lib.hid (I10.out.ext x)
            replace I12 := Lib.hid (I12.out.ext x)
            replace I14 := Lib.hid (I14.out.ext x)
            replace I16 := Lib.hid (I16.out.ext x)
            replace I18 := Lib.hid (I18.out.ext x)
            replace I20 := Lib.hid (I20.out.ext x)
            replace I22 := Lib.hid (I22.out.ext x)
            replace I24 := Lib.hid (I24.out.ext x)
            replace I26 := Lib.hid (I26.out.ext x)
            replace HX := Lib.hid (HX.out.trans x)
            clear x
            go_wp2
            go_ret
            exact ⟨rfl, HX.out⟩
end Go.Proofs.Ytpcbadagffeehaa
