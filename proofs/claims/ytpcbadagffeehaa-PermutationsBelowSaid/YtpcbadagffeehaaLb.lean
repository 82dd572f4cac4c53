/- The law PermutationsBelow, walked. -/
import Derived.Test.YtpcbadagffeehaaSf
namespace Go.Proofs.Ytpcbadagffeehaa
set_option linter.unusedVariables false
set_option linter.unusedSimpArgs false
open Go Go.RowKit


set_option maxRecDepth 100000 in
set_option maxHeartbeats 8000000 in
theorem Below_meet (b : Bool) (hbm : b = true) (v1 : Value) (c1 : Nat) (xs : List Int) (v2 : Value) (c2 : Nat) (ys : List Int) (w : World) (h : IS .u8 w v1 c1 xs) (hb : U8L xs) (hs : xs.length ≤ 140737488351232) (h' : IS .u8 w v2 c2 ys) (hb' : U8L ys) :
    Calls Try.prog 4 #[v1, v2, .bool b] w fun e w' => e = .returned (.bool true) ∧ Below w.heap.size w w' := by
  subst hbm
  have hof := Of_calls v2 c2 ys w h' hb'
  have hq := PM.ofM hb'
  obtain ⟨N, hN⟩ : ∃ N, N = mN ys := ⟨_, rfl⟩
  rw [← hN] at hq
  have hp := PM.asM (n := N) hb hq.pos hq.le
  have has := fun W (hx : Ext w W) => As_calls v1 c1 xs N W (h.ext hx) hb hs hq.pos hq.le
  obtain ⟨p, hpp⟩ : ∃ p, p = mof (masL xs N) := ⟨_, rfl⟩
  obtain ⟨q, hqq⟩ : ∃ q, q = mof ys := ⟨_, rfl⟩
  rw [← hpp] at has hp
  rw [← hqq] at hq hof
  obtain ⟨_, _, ao, rfl, _⟩ := h.open
  obtain ⟨_, _, bo, rfl, _⟩ := h'.open
  obtain ⟨l1, hl1⟩ : ∃ l, l = xs.length := ⟨_, rfl⟩
  obtain ⟨l2, hl2⟩ : ∃ l, l = ys.length := ⟨_, rfl⟩
  rw [← hl1] at has ⊢
  rw [← hl2] at hof ⊢
  have n1 := hq.pos
  have n8 := hq.le
  have HOF := Lib.hid hof; have HAS := Lib.hid has; have HP := Lib.hid hp; have HQ := Lib.hid hq
  obtain ⟨m, hm⟩ : ∃ m, m = meetL p q := ⟨_, rfl⟩
  have hmp : PM N m := by rw [hm]; exact hp.meet q
  have hle : leB N m q = true := by rw [hm]; exact leB_iff.2 (meetL_right hq.ok hp.len hq.len)
  have htr : timesL m (restL m q) = q := times_rest hmp.ok (hmp.len.trans hq.len.symm)
  have hinv := leP_invs hmp.ok hq.ok (hmp.len.trans hq.len.symm) (by rw [hmp.len]; exact leB_iff.1 hle)
  obtain ⟨A1, hA1⟩ : ∃ A : Nat, (A : Int) = invs m := ⟨(invs m).toNat, by have := invs_nonneg m; omega⟩
  obtain ⟨A2, hA2⟩ : ∃ A : Nat, (A : Int) = invs (restL m q) := ⟨(invs (restL m q)).toNat, by have := invs_nonneg (restL m q); omega⟩
  obtain ⟨A3, hA3⟩ : ∃ A : Nat, (A : Int) = invs q := ⟨(invs q).toNat, by have := invs_nonneg q; omega⟩
  have hA72 : A1 ≤ 72 ∧ A2 ≤ 72 := by
    have e1 := crossers_len m
    have e2 := crossers_len (restL m q)
    have l1 : (crossers m).length ≤ 72 := prsAll_len (by rw [hmp.len]; exact hq.le) _
    have l2 : (crossers (restL m q)).length ≤ 72 := prsAll_len (by rw [(hmp.rest hq).len]; exact hq.le) _
    omega
  obtain ⟨hA721, hA722⟩ := hA72
  have hAA : ((A1 : Int) + (A2 : Int) == (A3 : Int)) = true := by simp; omega
  have LE := Lib.hid hle; have TR := Lib.hid htr; have EA1 := Lib.hid hA1; have EA2 := Lib.hid hA2; have EA3 := Lib.hid hA3
  clear hle htr hA1 hA2 hA3 hinv
  have HME := Lib.hid hm; have HM := Lib.hid hmp
  clear hm hmp
  clear hof has hp hq hN hpp hqq h h' hb hb' hs hl1 hl2
  go_enter Try.func4, Try.ntmps4
  have HX := Lib.hid (Ext.refl w)
  have HC := Lib.hid (HOF.out)
  go_wp2_with fail
  refine HC.out.mono ?_
  clear HC
  rintro e w1 hret
  obtain ⟨aI7, cI7, rfl, r, x⟩ := hret.lit (n := N) HQ.out.len
  replace HX := Lib.hid (HX.out.trans x)
  have I7 := Lib.hid r
  clear r x
  have HC := Lib.hid (HAS.out w1 HX.out)
  go_wp2_with fail
  refine HC.out.mono ?_
  clear HC
  rintro e w2 hret
  obtain ⟨aI8, cI8, rfl, r, x⟩ := hret.lit (n := N) HP.out.len
  replace I7 := Lib.hid (I7.out.ext x)
  replace HX := Lib.hid (HX.out.trans x)
  have I8 := Lib.hid r
  clear r x
  have HC := Lib.hid (ok_meet HP.out HQ.out I8.out I7.out)
  go_wp2_with fail
  refine HC.out.mono ?_
  clear HC
  rintro e w3 hret
  rw [← HME.out] at hret
  obtain ⟨aI9, rfl, r, x⟩ := hret.lit (n := N) HM.out.len
  replace I7 := Lib.hid (I7.out.ext x)
  replace I8 := Lib.hid (I8.out.ext x)
  replace HX := Lib.hid (HX.out.trans x)
  have I9 := Lib.hid r
  clear r x
  have HC := Lib.hid (show Calls _ _ _ _ (fun e w' => e = .returned (.tuple #[.bool true, .int .i64 0]) ∧ Ext _ w') from by have := ok_below HM.out HQ.out I9.out I7.out; rw [LE.out] at this; exact this)
  go_wp2_with fail
  refine HC.out.mono ?_
  clear HC
  rintro e w4 ⟨rfl, x⟩
  replace I7 := Lib.hid (I7.out.ext x)
  replace I8 := Lib.hid (I8.out.ext x)
  replace I9 := Lib.hid (I9.out.ext x)
  replace HX := Lib.hid (HX.out.trans x)
  clear x
  have HC := Lib.hid (ok_rest HM.out HQ.out I9.out I7.out LE.out)
  go_wp2_with fail
  refine HC.out.mono ?_
  clear HC
  rintro e w5 hret
  obtain ⟨aI13, rfl, r, x⟩ := hret.lit (n := N) (HM.out.rest HQ.out).len
  replace I7 := Lib.hid (I7.out.ext x)
  replace I8 := Lib.hid (I8.out.ext x)
  replace I9 := Lib.hid (I9.out.ext x)
  replace HX := Lib.hid (HX.out.trans x)
  have I13 := Lib.hid r
  clear r x
  have HC := Lib.hid ((show Calls _ _ _ _ (fun e w' => e = .returned (.bool true) ∧ Ext _ w') from by have := ok_within HM.out HQ.out I9.out I7.out; rw [LE.out] at this; exact this))
  go_wp2_with fail
  refine HC.out.mono ?_
  clear HC
  rintro e w6 ⟨rfl, x⟩
  replace I7 := Lib.hid (I7.out.ext x)
  replace I8 := Lib.hid (I8.out.ext x)
  replace I9 := Lib.hid (I9.out.ext x)
  replace I13 := Lib.hid (I13.out.ext x)
  replace HX := Lib.hid (HX.out.trans x)
  clear x
  have HC := Lib.hid (ok_times HM.out (HM.out.rest HQ.out) I9.out I13.out)
  go_wp2_with fail
  refine HC.out.mono ?_
  clear HC
  rintro e w7 hret
  rw [TR.out] at hret
  obtain ⟨aI15, rfl, r, x⟩ := hret.lit (n := N) HQ.out.len
  replace I7 := Lib.hid (I7.out.ext x)
  replace I8 := Lib.hid (I8.out.ext x)
  replace I9 := Lib.hid (I9.out.ext x)
  replace I13 := Lib.hid (I13.out.ext x)
  replace HX := Lib.hid (HX.out.trans x)
  have I15 := Lib.hid r
  clear r x
  have HC := Lib.hid (ok_len (m := A1) HM.out I9.out EA1.out)
  go_wp2_with fail
  refine HC.out.mono ?_
  clear HC
  rintro e w8 ⟨rfl, x⟩
  replace I7 := Lib.hid (I7.out.ext x)
  replace I8 := Lib.hid (I8.out.ext x)
  replace I9 := Lib.hid (I9.out.ext x)
  replace I13 := Lib.hid (I13.out.ext x)
  replace I15 := Lib.hid (I15.out.ext x)
  replace HX := Lib.hid (HX.out.trans x)
  clear x
  have HC := Lib.hid (ok_len (m := A2) (HM.out.rest HQ.out) I13.out EA2.out)
  go_wp2_with fail
  refine HC.out.mono ?_
  clear HC
  rintro e w9 ⟨rfl, x⟩
  replace I7 := Lib.hid (I7.out.ext x)
  replace I8 := Lib.hid (I8.out.ext x)
  replace I9 := Lib.hid (I9.out.ext x)
  replace I13 := Lib.hid (I13.out.ext x)
  replace I15 := Lib.hid (I15.out.ext x)
  replace HX := Lib.hid (HX.out.trans x)
  clear x
  have HC := Lib.hid (ok_len (m := A3) HQ.out I7.out EA3.out)
  go_wp2_with fail
  refine HC.out.mono ?_
  clear HC
  rintro e w10 ⟨rfl, x⟩
  replace I7 := Lib.hid (I7.out.ext x)
  replace I8 := Lib.hid (I8.out.ext x)
  replace I9 := Lib.hid (I9.out.ext x)
  replace I13 := Lib.hid (I13.out.ext x)
  replace I15 := Lib.hid (I15.out.ext x)
  replace HX := Lib.hid (HX.out.trans x)
  clear x
  have HC := Lib.hid (ok_same HQ.out HQ.out I15.out I7.out rfl rfl)
  go_wp2_with fail
  refine HC.out.mono ?_
  clear HC
  rintro e w' ⟨rfl, rfl⟩
  have HC := Lib.hid (lives_calls w10)
  go_wp2_with fail
  refine HC.out.mono ?_
  clear HC
  rintro e w11 ⟨rfl, x⟩
  replace I7 := Lib.hid (I7.out.ext x)
  replace I8 := Lib.hid (I8.out.ext x)
  replace I9 := Lib.hid (I9.out.ext x)
  replace I13 := Lib.hid (I13.out.ext x)
  replace I15 := Lib.hid (I15.out.ext x)
  replace HX := Lib.hid (HX.out.trans x)
  clear x
  go_wp2
  go_ret
  exact ⟨rfl, HX.out⟩

set_option maxRecDepth 100000 in
set_option maxHeartbeats 8000000 in
theorem Below_yes (b : Bool) (hbm : b = false) (v1 : Value) (c1 : Nat) (xs : List Int) (v2 : Value) (c2 : Nat) (ys : List Int) (w : World) (h : IS .u8 w v1 c1 xs) (hb : U8L xs) (hs : xs.length ≤ 140737488351232) (h' : IS .u8 w v2 c2 ys) (hb' : U8L ys) (hle : leB (mN ys) (mof (masL xs (mN ys))) (mof ys) = true) :
    Calls Try.prog 4 #[v1, v2, .bool b] w fun e w' => e = .returned (.bool true) ∧ Below w.heap.size w w' := by
  subst hbm
  have hof := Of_calls v2 c2 ys w h' hb'
  have hq := PM.ofM hb'
  obtain ⟨N, hN⟩ : ∃ N, N = mN ys := ⟨_, rfl⟩
  rw [← hN] at hq hle
  have hp := PM.asM (n := N) hb hq.pos hq.le
  have has := fun W (hx : Ext w W) => As_calls v1 c1 xs N W (h.ext hx) hb hs hq.pos hq.le
  obtain ⟨p, hpp⟩ : ∃ p, p = mof (masL xs N) := ⟨_, rfl⟩
  obtain ⟨q, hqq⟩ : ∃ q, q = mof ys := ⟨_, rfl⟩
  rw [← hpp] at has hp hle
  rw [← hqq] at hq hof hle
  obtain ⟨_, _, ao, rfl, _⟩ := h.open
  obtain ⟨_, _, bo, rfl, _⟩ := h'.open
  obtain ⟨l1, hl1⟩ : ∃ l, l = xs.length := ⟨_, rfl⟩
  obtain ⟨l2, hl2⟩ : ∃ l, l = ys.length := ⟨_, rfl⟩
  rw [← hl1] at has ⊢
  rw [← hl2] at hof ⊢
  have n1 := hq.pos
  have n8 := hq.le
  have HOF := Lib.hid hof; have HAS := Lib.hid has; have HP := Lib.hid hp; have HQ := Lib.hid hq
  have hle : leB N p q = true := hle
  have htr : timesL p (restL p q) = q := times_rest hp.ok (hp.len.trans hq.len.symm)
  have hinv := leP_invs hp.ok hq.ok (hp.len.trans hq.len.symm) (by rw [hp.len]; exact leB_iff.1 hle)
  obtain ⟨A1, hA1⟩ : ∃ A : Nat, (A : Int) = invs p := ⟨(invs p).toNat, by have := invs_nonneg p; omega⟩
  obtain ⟨A2, hA2⟩ : ∃ A : Nat, (A : Int) = invs (restL p q) := ⟨(invs (restL p q)).toNat, by have := invs_nonneg (restL p q); omega⟩
  obtain ⟨A3, hA3⟩ : ∃ A : Nat, (A : Int) = invs q := ⟨(invs q).toNat, by have := invs_nonneg q; omega⟩
  have hA72 : A1 ≤ 72 ∧ A2 ≤ 72 := by
    have e1 := crossers_len p
    have e2 := crossers_len (restL p q)
    have l1 : (crossers p).length ≤ 72 := prsAll_len (by rw [hp.len]; exact hq.le) _
    have l2 : (crossers (restL p q)).length ≤ 72 := prsAll_len (by rw [(hp.rest hq).len]; exact hq.le) _
    omega
  obtain ⟨hA721, hA722⟩ := hA72
  have hAA : ((A1 : Int) + (A2 : Int) == (A3 : Int)) = true := by simp; omega
  have LE := Lib.hid hle; have TR := Lib.hid htr; have EA1 := Lib.hid hA1; have EA2 := Lib.hid hA2; have EA3 := Lib.hid hA3
  clear hle htr hA1 hA2 hA3 hinv
  clear hof has hp hq hN hpp hqq h h' hb hb' hs hl1 hl2
  go_enter Try.func4, Try.ntmps4
  have HX := Lib.hid (Ext.refl w)
  have HC := Lib.hid (HOF.out)
  go_wp2_with fail
  refine HC.out.mono ?_
  clear HC
  rintro e w1 hret
  obtain ⟨aI7, cI7, rfl, r, x⟩ := hret.lit (n := N) HQ.out.len
  replace HX := Lib.hid (HX.out.trans x)
  have I7 := Lib.hid r
  clear r x
  have HC := Lib.hid (HAS.out w1 HX.out)
  go_wp2_with fail
  refine HC.out.mono ?_
  clear HC
  rintro e w2 hret
  obtain ⟨aI8, cI8, rfl, r, x⟩ := hret.lit (n := N) HP.out.len
  replace I7 := Lib.hid (I7.out.ext x)
  replace HX := Lib.hid (HX.out.trans x)
  have I8 := Lib.hid r
  clear r x
  have HC := Lib.hid (show Calls _ _ _ _ (fun e w' => e = .returned (.tuple #[.bool true, .int .i64 0]) ∧ Ext _ w') from by have := ok_below HP.out HQ.out I8.out I7.out; rw [LE.out] at this; exact this)
  go_wp2_with fail
  refine HC.out.mono ?_
  clear HC
  rintro e w3 ⟨rfl, x⟩
  replace I7 := Lib.hid (I7.out.ext x)
  replace I8 := Lib.hid (I8.out.ext x)
  replace HX := Lib.hid (HX.out.trans x)
  clear x
  have HC := Lib.hid (ok_rest HP.out HQ.out I8.out I7.out LE.out)
  go_wp2_with fail
  refine HC.out.mono ?_
  clear HC
  rintro e w4 hret
  obtain ⟨aI13, rfl, r, x⟩ := hret.lit (n := N) (HP.out.rest HQ.out).len
  replace I7 := Lib.hid (I7.out.ext x)
  replace I8 := Lib.hid (I8.out.ext x)
  replace HX := Lib.hid (HX.out.trans x)
  have I13 := Lib.hid r
  clear r x
  have HC := Lib.hid ((show Calls _ _ _ _ (fun e w' => e = .returned (.bool true) ∧ Ext _ w') from by have := ok_within HP.out HQ.out I8.out I7.out; rw [LE.out] at this; exact this))
  go_wp2_with fail
  refine HC.out.mono ?_
  clear HC
  rintro e w5 ⟨rfl, x⟩
  replace I7 := Lib.hid (I7.out.ext x)
  replace I8 := Lib.hid (I8.out.ext x)
  replace I13 := Lib.hid (I13.out.ext x)
  replace HX := Lib.hid (HX.out.trans x)
  clear x
  have HC := Lib.hid (ok_times HP.out (HP.out.rest HQ.out) I8.out I13.out)
  go_wp2_with fail
  refine HC.out.mono ?_
  clear HC
  rintro e w6 hret
  rw [TR.out] at hret
  obtain ⟨aI15, rfl, r, x⟩ := hret.lit (n := N) HQ.out.len
  replace I7 := Lib.hid (I7.out.ext x)
  replace I8 := Lib.hid (I8.out.ext x)
  replace I13 := Lib.hid (I13.out.ext x)
  replace HX := Lib.hid (HX.out.trans x)
  have I15 := Lib.hid r
  clear r x
  have HC := Lib.hid (ok_len (m := A1) HP.out I8.out EA1.out)
  go_wp2_with fail
  refine HC.out.mono ?_
  clear HC
  rintro e w7 ⟨rfl, x⟩
  replace I7 := Lib.hid (I7.out.ext x)
  replace I8 := Lib.hid (I8.out.ext x)
  replace I13 := Lib.hid (I13.out.ext x)
  replace I15 := Lib.hid (I15.out.ext x)
  replace HX := Lib.hid (HX.out.trans x)
  clear x
  have HC := Lib.hid (ok_len (m := A2) (HP.out.rest HQ.out) I13.out EA2.out)
  go_wp2_with fail
  refine HC.out.mono ?_
  clear HC
  rintro e w8 ⟨rfl, x⟩
  replace I7 := Lib.hid (I7.out.ext x)
  replace I8 := Lib.hid (I8.out.ext x)
  replace I13 := Lib.hid (I13.out.ext x)
  replace I15 := Lib.hid (I15.out.ext x)
  replace HX := Lib.hid (HX.out.trans x)
  clear x
  have HC := Lib.hid (ok_len (m := A3) HQ.out I7.out EA3.out)
  go_wp2_with fail
  refine HC.out.mono ?_
  clear HC
  rintro e w9 ⟨rfl, x⟩
  replace I7 := Lib.hid (I7.out.ext x)
  replace I8 := Lib.hid (I8.out.ext x)
  replace I13 := Lib.hid (I13.out.ext x)
  replace I15 := Lib.hid (I15.out.ext x)
  replace HX := Lib.hid (HX.out.trans x)
  clear x
  have HC := Lib.hid (ok_same HQ.out HQ.out I15.out I7.out rfl rfl)
  go_wp2_with fail
  refine HC.out.mono ?_
  clear HC
  rintro e w' ⟨rfl, rfl⟩
  have HC := Lib.hid (lives_calls w9)
  go_wp2_with fail
  refine HC.out.mono ?_
  clear HC
  rintro e w10 ⟨rfl, x⟩
  replace I7 := Lib.hid (I7.out.ext x)
  replace I8 := Lib.hid (I8.out.ext x)
  replace I13 := Lib.hid (I13.out.ext x)
  replace I15 := Lib.hid (I15.out.ext x)
  replace HX := Lib.hid (HX.out.trans x)
  clear x
  go_wp2
  go_ret
  exact ⟨rfl, HX.out⟩

set_option maxRecDepth 100000 in
set_option maxHeartbeats 8000000 in
theorem Below_no (b : Bool) (hbm : b = false) (v1 : Value) (c1 : Nat) (xs : List Int) (v2 : Value) (c2 : Nat) (ys : List Int) (w : World) (h : IS .u8 w v1 c1 xs) (hb : U8L xs) (hs : xs.length ≤ 140737488351232) (h' : IS .u8 w v2 c2 ys) (hb' : U8L ys) (hle : leB (mN ys) (mof (masL xs (mN ys))) (mof ys) = false) :
    Calls Try.prog 4 #[v1, v2, .bool b] w fun e w' => e = .returned (.bool true) ∧ Below w.heap.size w w' := by
  subst hbm
  have hof := Of_calls v2 c2 ys w h' hb'
  have hq := PM.ofM hb'
  obtain ⟨N, hN⟩ : ∃ N, N = mN ys := ⟨_, rfl⟩
  rw [← hN] at hq hle
  have hp := PM.asM (n := N) hb hq.pos hq.le
  have has := fun W (hx : Ext w W) => As_calls v1 c1 xs N W (h.ext hx) hb hs hq.pos hq.le
  obtain ⟨p, hpp⟩ : ∃ p, p = mof (masL xs N) := ⟨_, rfl⟩
  obtain ⟨q, hqq⟩ : ∃ q, q = mof ys := ⟨_, rfl⟩
  rw [← hpp] at has hp hle
  rw [← hqq] at hq hof hle
  obtain ⟨_, _, ao, rfl, _⟩ := h.open
  obtain ⟨_, _, bo, rfl, _⟩ := h'.open
  obtain ⟨l1, hl1⟩ : ∃ l, l = xs.length := ⟨_, rfl⟩
  obtain ⟨l2, hl2⟩ : ∃ l, l = ys.length := ⟨_, rfl⟩
  rw [← hl1] at has ⊢
  rw [← hl2] at hof ⊢
  have n1 := hq.pos
  have n8 := hq.le
  have HOF := Lib.hid hof; have HAS := Lib.hid has; have HP := Lib.hid hp; have HQ := Lib.hid hq
  have LE := Lib.hid hle
  clear hle
  clear hof has hp hq hN hpp hqq h h' hb hb' hs hl1 hl2
  go_enter Try.func4, Try.ntmps4
  have HX := Lib.hid (Ext.refl w)
  have HC := Lib.hid (HOF.out)
  go_wp2_with fail
  refine HC.out.mono ?_
  clear HC
  rintro e w1 hret
  obtain ⟨aI7, cI7, rfl, r, x⟩ := hret.lit (n := N) HQ.out.len
  replace HX := Lib.hid (HX.out.trans x)
  have I7 := Lib.hid r
  clear r x
  have HC := Lib.hid (HAS.out w1 HX.out)
  go_wp2_with fail
  refine HC.out.mono ?_
  clear HC
  rintro e w2 hret
  obtain ⟨aI8, cI8, rfl, r, x⟩ := hret.lit (n := N) HP.out.len
  replace I7 := Lib.hid (I7.out.ext x)
  replace HX := Lib.hid (HX.out.trans x)
  have I8 := Lib.hid r
  clear r x
  have HC := Lib.hid (show Calls _ _ _ _ (fun e w' => e = .returned (.tuple #[.bool false, .int .i64 0]) ∧ Ext _ w') from by have := ok_below HP.out HQ.out I8.out I7.out; rw [LE.out] at this; exact this)
  go_wp2_with fail
  refine HC.out.mono ?_
  clear HC
  rintro e w3 ⟨rfl, x⟩
  replace I7 := Lib.hid (I7.out.ext x)
  replace I8 := Lib.hid (I8.out.ext x)
  replace HX := Lib.hid (HX.out.trans x)
  clear x
  have HC := Lib.hid (ok_none HP.out HQ.out I8.out I7.out LE.out)
  go_wp2_with fail
  refine HC.out.mono ?_
  clear HC
  rintro e w4 hret
  obtain ⟨aI13, rfl, r, x⟩ := hret.lit (n := 0) rfl
  replace I7 := Lib.hid (I7.out.ext x)
  replace I8 := Lib.hid (I8.out.ext x)
  replace HX := Lib.hid (HX.out.trans x)
  have I13 := Lib.hid r
  clear r x
  have HC := Lib.hid ((show Calls _ _ _ _ (fun e w' => e = .returned (.bool false) ∧ Ext _ w') from by have := ok_within HP.out HQ.out I8.out I7.out; rw [LE.out] at this; exact this))
  go_wp2_with fail
  refine HC.out.mono ?_
  clear HC
  rintro e w5 ⟨rfl, x⟩
  replace I7 := Lib.hid (I7.out.ext x)
  replace I8 := Lib.hid (I8.out.ext x)
  replace I13 := Lib.hid (I13.out.ext x)
  replace HX := Lib.hid (HX.out.trans x)
  clear x
  have HC := Lib.hid (lives_calls w5)
  go_wp2_with fail
  refine HC.out.mono ?_
  clear HC
  rintro e w6 ⟨rfl, x⟩
  replace I7 := Lib.hid (I7.out.ext x)
  replace I8 := Lib.hid (I8.out.ext x)
  replace I13 := Lib.hid (I13.out.ext x)
  replace HX := Lib.hid (HX.out.trans x)
  clear x
  go_wp2
  go_ret
  exact ⟨rfl, HX.out⟩

theorem PermutationsBelow_walk (v1 : Value) (c1 : Nat) (xs : List Int) (v2 : Value) (c2 : Nat) (ys : List Int) (b : Bool) (w : World) (h : IS .u8 w v1 c1 xs) (hb : U8L xs) (hs : xs.length ≤ 140737488351232) (h' : IS .u8 w v2 c2 ys) (hb' : U8L ys) :
    Calls Try.prog 4 #[v1, v2, .bool b] w fun e w' => e = .returned (.bool true) ∧ Below w.heap.size w w' := by
  cases b with
  | true => exact Below_meet true rfl v1 c1 xs v2 c2 ys w h hb hs h' hb'
  | false =>
    cases hle : leB (mN ys) (mof (masL xs (mN ys))) (mof ys) with
    | true => exact Below_yes false rfl v1 c1 xs v2 c2 ys w h hb hs h' hb' hle
    | false => exact Below_no false rfl v1 c1 xs v2 c2 ys w h hb hs h' hb' hle
end Go.Proofs.Ytpcbadagffeehaa
