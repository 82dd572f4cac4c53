/- The law PermutationsTimes, walked. -/
import Derived.Test.YtpcbadagffeehaaSf
namespace Go.Proofs.Ytpcbadagffeehaa
set_option linter.unusedVariables false
set_option linter.unusedSimpArgs false
open Go Go.RowKit

theorem flipL_at {xs : List Int} {i : Nat} (hi : i < xs.length) : gi (flipL xs) (xs.length - 1 - i) = (xs.length : Int) + 1 - gi xs i := by
  unfold flipL
  rw [updL_gi (by omega)]
  exact upd_inj (pos := fun k => xs.length - 1 - k) (new := fun k => (xs.length : Int) + 1 - gi xs k) (fun a b ab bl => by omega) hi

set_option maxRecDepth 100000 in
set_option maxHeartbeats 4000000 in
theorem PermutationsTimes_walk (v1 : Value) (c1 : Nat) (xs : List Int) (v2 : Value) (c2 : Nat) (ys : List Int) (w : World) (h : IS .u8 w v1 c1 xs) (hb : U8L xs) (h' : IS .u8 w v2 c2 ys) (hb' : U8L ys) (hs' : ys.length ≤ 140737488351232) :
    Calls Try.prog 6 #[v1, v2] w fun e w' => e = .returned (.bool true) ∧ Below w.heap.size w w' := by
  have hof := Of_calls v1 c1 xs w h hb
  have hp := PM.ofM hb
  obtain ⟨N, hN⟩ : ∃ N, N = mN xs := ⟨_, rfl⟩
  rw [← hN] at hp
  have hq := PM.asM (n := N) hb' hp.pos hp.le
  have has := fun W (hx : Ext w W) => As_calls v2 c2 ys N W (h'.ext hx) hb' hs' hp.pos hp.le
  obtain ⟨p, hpp⟩ : ∃ p, p = mof xs := ⟨_, rfl⟩
  obtain ⟨q, hqq⟩ : ∃ q, q = mof (masL ys N) := ⟨_, rfl⟩
  rw [← hpp] at hof hp
  rw [← hqq] at hq has
  obtain ⟨_, _, ao, rfl, _⟩ := h.open
  obtain ⟨_, _, bo, rfl, _⟩ := h'.open
  obtain ⟨l1, hl1⟩ : ∃ l, l = xs.length := ⟨_, rfl⟩
  obtain ⟨l2, hl2⟩ : ∃ l, l = ys.length := ⟨_, rfl⟩
  rw [← hl1] at hof ⊢
  rw [← hl2] at has ⊢
  have n1 := hp.pos
  have n8 := hp.le
  have HOF := Lib.hid hof; have HAS := Lib.hid has; have HP := Lib.hid hp; have HQ := Lib.hid hq
  clear hof has hp hq hN hpp hqq h h' hb hb' hs' hl1 hl2
  have hN3 : ((N : Int) + (N : Int) + (N : Int) != 3 * (N : Int)) = false := by simp; omega
  go_enter Try.func6, Try.ntmps6
  go_wp2_with fail
  refine HOF.out.mono ?_
  rintro e w1 hret
  obtain ⟨a5, c5, rfl, r, x⟩ := hret.lit HP.out.len
  have I5 := Lib.hid r; have HX := Lib.hid x; clear r x
  have HC := Lib.hid (HAS.out w1 HX.out)
  go_wp2_with fail
  refine HC.out.mono ?_
  clear HC
  rintro e w2 hret
  obtain ⟨a7, c7, rfl, r, x⟩ := hret.lit HQ.out.len
  replace I5 := Lib.hid (I5.out.ext x); have I7 := Lib.hid r; replace HX := Lib.hid (HX.out.trans x); clear r x
  have HC := Lib.hid (ok_times HP.out HQ.out I5.out I7.out)
  go_wp2_with fail
  refine HC.out.mono ?_
  clear HC
  rintro e w3 hret
  obtain ⟨a8, rfl, r, x⟩ := hret.lit (HP.out.times HQ.out).len
  replace I5 := Lib.hid (I5.out.ext x); replace I7 := Lib.hid (I7.out.ext x); have I8 := Lib.hid r; replace HX := Lib.hid (HX.out.trans x); clear r x
  have HC := Lib.hid (ok_inv HP.out I5.out)
  go_wp2_with fail
  refine HC.out.mono ?_
  clear HC
  rintro e w4 hret
  obtain ⟨a10, rfl, r, x⟩ := hret.lit HP.out.inv.len
  replace I5 := Lib.hid (I5.out.ext x); replace I7 := Lib.hid (I7.out.ext x); replace I8 := Lib.hid (I8.out.ext x); have I10 := Lib.hid r; replace HX := Lib.hid (HX.out.trans x); clear r x
  have HC := Lib.hid (ok_flip HP.out I5.out)
  go_wp2_with fail
  refine HC.out.mono ?_
  clear HC
  rintro e w5 hret
  obtain ⟨a12, rfl, r, x⟩ := hret.lit ((flipL_len p).trans HP.out.len)
  replace I5 := Lib.hid (I5.out.ext x); replace I7 := Lib.hid (I7.out.ext x); replace I8 := Lib.hid (I8.out.ext x); replace I10 := Lib.hid (I10.out.ext x); have I12 := Lib.hid r; replace HX := Lib.hid (HX.out.trans x); clear r x
  obtain ⟨b5, o5, rfl, k5⟩ := I5.out.at (i := 0) n1
  obtain ⟨b7, o7, rfl, k7⟩ := I7.out.at (i := 0) n1
  obtain ⟨b8, o8, rfl, k8⟩ := I8.out.at (i := 0) n1
  obtain ⟨b10, o10, rfl, k10⟩ := I10.out.at (i := 0) n1
  obtain ⟨b12, o12, rfl, k12⟩ := I12.out.at (i := 0) n1
  have K5 := Lib.hid k5; have K7 := Lib.hid k7; have K8 := Lib.hid k8; have K10 := Lib.hid k10; have K12 := Lib.hid k12
  clear k5 k7 k8 k10 k12
  go_wp2
  go_loopw [14] (fun i wr => ∃ k : Nat, k ≤ N ∧ i = .int .i64 k ∧ Hid (Ext w5 wr)) (fun i _ => N - (intOf i).toNat)
  case atStart => exact ⟨0, Nat.zero_le _, rfl, Lib.hid (Ext.refl _)⟩
  case round =>
    obtain ⟨k, hk, rfl, H⟩ := hrel
    by_cases hlt : k < N
    · have hpl := HP.out.len
      have hbp := pok_bd HP.out.ok (i := k + 1) (by omega) (by omega)
      rw [Nat.add_sub_cancel] at hbp
      obtain ⟨y, hy⟩ : ∃ y : Nat, gi p k = (y : Int) + 1 := ⟨(gi p k - 1).toNat, by omega⟩
      have hyN : y < N := by omega
      have hyn : (gi p k - 1).toNat = y := by omega
      have e5 := H.out.cell (K5.out k hlt)
      have e8 := H.out.cell (K8.out k hlt)
      have e7 := H.out.cell (K7.out y hyN)
      have e10 := H.out.cell (K10.out y hyN)
      obtain ⟨z, hz⟩ : ∃ z, z = N - 1 - k := ⟨_, rfl⟩
      have e12 := H.out.cell (K12.out z (by omega))
      have f8 : gi (timesL p q) k = gi q y := by rw [timesL_gi (by omega), hyn]
      have f10 : gi (invL p) y = (k : Int) + 1 := by have := invL_at HP.out.ok (i := k) (by omega); rwa [hyn] at this
      have f12 : gi (flipL p) z = (N : Int) - (y : Int) := by
        have := flipL_at (xs := p) (i := k) (by omega)
        rw [hpl, ← hz, hy] at this
        rw [this]; omega
      rw [hy] at e5
      rw [f8] at e8
      rw [f10] at e10
      rw [f12] at e12
      obtain ⟨u, hu⟩ : ∃ u, u = gi q y := ⟨_, rfl⟩
      rw [← hu] at e7 e8
      have g1 : (0 : Int) ≤ (k : Int) := by omega
      have g2 : (k : Int) < (N : Int) := by omega
      have g3 : IntKind.u8.wrap ((y : Int) + 1 - 1) = (y : Int) := by simp [IntKind.wrap, IntKind.bits, IntKind.signed]; omega
      have g4 : (y : Int) < (N : Int) := by omega
      have g5 : (0 : Int) ≤ (y : Int) := by omega
      have g6 : IntKind.i64.wrap ((k : Int) + 1) = (k : Int) + 1 := IntWalk.i64_in _ ⟨by omega, by omega⟩
      have g7 : IntKind.i64.wrap ((N : Int) - 1) = (N : Int) - 1 := IntWalk.i64_in _ ⟨by omega, by omega⟩
      have g8 : IntKind.i64.wrap ((N : Int) - 1 - (k : Int)) = (z : Int) := (IntWalk.i64_in _ ⟨by omega, by omega⟩).trans (by omega)
      have g9 : IntKind.i64.wrap ((N : Int) + 1) = (N : Int) + 1 := IntWalk.i64_in _ ⟨by omega, by omega⟩
      have g10 : IntKind.i64.wrap ((N : Int) + 1 - ((y : Int) + 1)) = (N : Int) - (y : Int) := (IntWalk.i64_in _ ⟨by omega, by omega⟩).trans (by omega)
      have g11 : (z : Int) < (N : Int) := by omega
      have g12 : (0 : Int) ≤ (z : Int) := by omega
      have g13 : IntKind.i64.wrap ((y : Int) + 1) = (y : Int) + 1 := IntWalk.i64_in _ ⟨by omega, by omega⟩
      have g14 : IntKind.i64.wrap ((N : Int) - (y : Int)) = (N : Int) - (y : Int) := IntWalk.i64_in _ ⟨by omega, by omega⟩
      clear hbp hy hyn f8 f10 f12 hu hz hpl
      have hm : Try.prog.follows .mixedOrders = true := by kernel_rfl
      go_wp2
      go_quiet (fail)
      go_wp2
      go_roundw
      case rel => exact ⟨k + 1, by omega, by go_num, Lib.hid (H.out.drewN _)⟩
      case measure => simp [intOf]; omega
    · obtain rfl : k = N := by omega
      obtain ⟨w6, rfl⟩ : ∃ w6 : World, w6 = wr := ⟨_, rfl⟩
      replace I5 := Lib.hid (I5.out.ext H.out)
      replace I10 := Lib.hid (I10.out.ext H.out)
      replace HX := Lib.hid (HX.out.trans H.out)
      clear H
      have HC := Lib.hid (ok_id (W := w6) n1 n8)
      go_wp2_with fail
      refine HC.out.mono ?_
      clear HC
      rintro e w7 hret
      obtain ⟨a15, rfl, r, x⟩ := hret.lit (idL_len _)
      replace I5 := Lib.hid (I5.out.ext x); replace I10 := Lib.hid (I10.out.ext x); have I15 := Lib.hid r; replace HX := Lib.hid (HX.out.trans x); clear r x
      have HC := Lib.hid (ok_times HP.out HP.out.inv I5.out I10.out)
      go_wp2_with fail
      refine HC.out.mono ?_
      clear HC
      rintro e w8 hret
      obtain ⟨a17, rfl, r, x⟩ := hret.lit (HP.out.times HP.out.inv).len
      replace I15 := Lib.hid (I15.out.ext x); have I17 := Lib.hid r; replace HX := Lib.hid (HX.out.trans x); clear r x
      have HC := Lib.hid (ok_same (HP.out.times HP.out.inv) (PM.idP n1 n8) I17.out I15.out rfl (by rw [times_inv HP.out.ok, HP.out.len]))
      have HL := Lib.hid (lives_calls w8)
      go_wp2_with fail
      refine HC.out.mono ?_
      clear HC
      rintro e w9 ⟨rfl, rfl⟩
      go_wp2_with fail
      refine HL.out.mono ?_
      rintro e w9 ⟨rfl, x⟩
      have HX9 := Lib.hid (HX.out.trans x)
      clear x
      go_wp2
      go_ret
      exact ⟨rfl, HX9.out⟩
end Go.Proofs.Ytpcbadagffeehaa
