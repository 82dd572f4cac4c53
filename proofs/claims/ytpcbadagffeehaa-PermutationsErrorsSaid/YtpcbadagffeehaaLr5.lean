/- The law PermutationsErrors, walked: the first is no beginning of the second. -/
import Derived.Test.YtpcbadagffeehaaSg
namespace Go.Proofs.Ytpcbadagffeehaa
set_option linter.unusedVariables false
set_option linter.unusedSimpArgs false
open Go Go.RowKit


set_option maxRecDepth 100000 in
set_option maxHeartbeats 16000000 in
theorem Errors_no (v1 : Value) (c1 : Nat) (xs : List Int) (v2 : Value) (c2 : Nat) (ys : List Int) (n : Int) (w : World) (h : IS .u8 w v1 c1 xs) (hb : U8L xs) (h' : IS .u8 w v2 c2 ys) (hb' : U8L ys) (hn : -9223372036854775808 ≤ n ∧ n ≤ 9223372036854775807)
    (hl : xs.length ≤ 12) (hl' : ys.length ≤ 12) (h0 : pcheck xs = 0) (k0 : pcheck ys = 0) (hd : xs.length = ys.length) (hle : leB xs.length xs ys = false) :
    Calls Try.prog 9 #[v1, v2, .int .i64 n] w fun e w' => e = .returned (.bool true) ∧ Below w.heap.size w w' := by
  obtain ⟨_, _, ao, rfl, _⟩ := h.open
  obtain ⟨_, _, bo, rfl, _⟩ := h'.open
  have hE : ∃ e, e = pcheck xs := ⟨_, rfl⟩
  have hF : ∃ e, e = pcheck ys := ⟨_, rfl⟩
  have hG : ∃ e, e = bothE xs ys := ⟨_, rfl⟩
  have HE := Lib.hid h0; have HF := Lib.hid k0; have HP := Lib.hid (pcheck_pm h0)
  have HQ : Hid (PM xs.length ys) := Lib.hid (by have := pcheck_pm k0; rw [← hd] at this; exact this)
  have HLE := Lib.hid hle
  have hlen : ((xs.length : Int) != (ys.length : Int)) = false := by simp; omega
  clear hE hF hG h0 k0 hle
  have HB := Lib.hid hb; have HB' := Lib.hid hb'; have Ip := Lib.hid h; have Iq := Lib.hid h'
  have hl12 : ¬ (12 : Int) < (xs.length : Int) := by omega
  have hl12' : ¬ (12 : Int) < (ys.length : Int) := by omega
  obtain ⟨hn1, hn2⟩ := hn
  clear hb hb' h h' hl hl'

  clear hd
  go_enter Try.func9, Try.ntmps9
  have HX := Lib.hid (Ext.refl w)
  have HC := Lib.hid (bd_checked HB.out Ip.out HE.out)
  go_wp2_with fail
  refine HC.out.mono ?_
  clear HC
  rintro e w1 ⟨rfl, x⟩
  replace Ip := Lib.hid (Ip.out.ext x)
  replace Iq := Lib.hid (Iq.out.ext x)
  replace HX := Lib.hid (HX.out.trans x)
  clear x
  have HC := Lib.hid (bd_checked HB'.out Iq.out HF.out)
  go_wp2_with fail
  refine HC.out.mono ?_
  clear HC
  rintro e w2 ⟨rfl, x⟩
  replace Ip := Lib.hid (Ip.out.ext x)
  replace Iq := Lib.hid (Iq.out.ext x)
  replace HX := Lib.hid (HX.out.trans x)
  clear x
  have HC := Lib.hid (bd_check HB.out Ip.out HE.out)
  go_wp2_with fail
  refine HC.out.mono ?_
  clear HC
  rintro e w3 ⟨rfl, x⟩
  replace Ip := Lib.hid (Ip.out.ext x)
  replace Iq := Lib.hid (Iq.out.ext x)
  replace HX := Lib.hid (HX.out.trans x)
  clear x
  have HC := Lib.hid (bd_check HB'.out Iq.out HF.out)
  go_wp2_with fail
  refine HC.out.mono ?_
  clear HC
  rintro e w4 ⟨rfl, x⟩
  replace Ip := Lib.hid (Ip.out.ext x)
  replace Iq := Lib.hid (Iq.out.ext x)
  replace HX := Lib.hid (HX.out.trans x)
  clear x
  have HC := Lib.hid (ok_inv HP.out Ip.out)
  go_wp2_with fail
  refine HC.out.mono ?_
  clear HC
  rintro e w5 hret
  obtain ⟨aw5, rfl, r, x⟩ := hret.lit HP.out.inv.len
  clear r
  replace Ip := Lib.hid (Ip.out.ext x)
  replace Iq := Lib.hid (Iq.out.ext x)
  replace HX := Lib.hid (HX.out.trans x)
  clear x
  have HC := Lib.hid (ok_flip HP.out Ip.out)
  go_wp2_with fail
  refine HC.out.mono ?_
  clear HC
  rintro e w6 hret
  obtain ⟨aw6, rfl, r, x⟩ := hret.lit ((flipL_len xs).trans HP.out.len)
  clear r
  replace Ip := Lib.hid (Ip.out.ext x)
  replace Iq := Lib.hid (Iq.out.ext x)
  replace HX := Lib.hid (HX.out.trans x)
  clear x
  have HC := Lib.hid (ok_pairs HP.out Ip.out)
  go_wp2_with fail
  refine HC.out.mono ?_
  clear HC
  rintro e w7 ⟨aw7, mw7, rfl, x⟩
  replace Ip := Lib.hid (Ip.out.ext x)
  replace Iq := Lib.hid (Iq.out.ext x)
  replace HX := Lib.hid (HX.out.trans x)
  clear x
  obtain ⟨A1, hA1⟩ : ∃ A : Nat, (A : Int) = invs xs := ⟨(invs xs).toNat, by have := invs_nonneg xs; omega⟩
  have EA1 := Lib.hid hA1; clear hA1
  have HC := Lib.hid (ok_len (m := A1) HP.out Ip.out EA1.out)
  go_wp2_with fail
  refine HC.out.mono ?_
  clear HC
  rintro e w8 ⟨rfl, x⟩
  replace Ip := Lib.hid (Ip.out.ext x)
  replace Iq := Lib.hid (Iq.out.ext x)
  replace HX := Lib.hid (HX.out.trans x)
  clear x
  obtain ⟨F1, hF1⟩ : ∃ F : Nat, (fallsL xs).length = F := ⟨_, rfl⟩
  obtain ⟨F2, hF2⟩ : ∃ F : Nat, (fallsL (invL xs)).length = F := ⟨_, rfl⟩
  have HF1 := Lib.hid hF1; have HF2 := Lib.hid hF2; clear hF1 hF2
  have HC := Lib.hid ((show Calls _ _ _ _ (RetIE .i64 _ F1 (fallsL xs) 0) from by have := ok_starts HP.out Ip.out; rw [HF1.out] at this; exact this))
  go_wp2_with fail
  refine HC.out.mono ?_
  clear HC
  rintro e w9 hret
  obtain ⟨aw9, rfl, r, x⟩ := hret.lit HF1.out
  clear r
  replace Ip := Lib.hid (Ip.out.ext x)
  replace Iq := Lib.hid (Iq.out.ext x)
  replace HX := Lib.hid (HX.out.trans x)
  clear x
  have HC := Lib.hid ((show Calls _ _ _ _ (RetIE .i64 _ F2 (fallsL (invL xs)) 0) from by have := ok_ends HP.out Ip.out; rw [HF2.out] at this; exact this))
  go_wp2_with fail
  refine HC.out.mono ?_
  clear HC
  rintro e w10 hret
  obtain ⟨aw10, rfl, r, x⟩ := hret.lit HF2.out
  clear r
  replace Ip := Lib.hid (Ip.out.ext x)
  replace Iq := Lib.hid (Iq.out.ext x)
  replace HX := Lib.hid (HX.out.trans x)
  clear x
  have HC := Lib.hid (ok_word HP.out Ip.out EA1.out)
  go_wp2_with fail
  refine HC.out.mono ?_
  clear HC
  rintro e w11 hret
  obtain ⟨aw11, rfl, r, x⟩ := hret.lit (wlet_len xs A1)
  clear r
  replace Ip := Lib.hid (Ip.out.ext x)
  replace Iq := Lib.hid (Iq.out.ext x)
  replace HX := Lib.hid (HX.out.trans x)
  clear x
  have HC := Lib.hid (ok_text HP.out Ip.out)
  go_wp2_with fail
  refine HC.out.mono ?_
  clear HC
  rintro e w12 ⟨⟨st, rfl, s1, s2, s3⟩, x⟩
  replace Ip := Lib.hid (Ip.out.ext x)
  replace Iq := Lib.hid (Iq.out.ext x)
  replace HX := Lib.hid (HX.out.trans x)
  clear x
  have HC := Lib.hid (ok_times HP.out HQ.out Ip.out Iq.out)
  go_wp2_with fail
  refine HC.out.mono ?_
  clear HC
  rintro e w13 hret
  obtain ⟨aw13, rfl, r, x⟩ := hret.lit (HP.out.times HQ.out).len
  clear r
  replace Ip := Lib.hid (Ip.out.ext x)
  replace Iq := Lib.hid (Iq.out.ext x)
  replace HX := Lib.hid (HX.out.trans x)
  clear x
  have HC := Lib.hid (ok_meet HP.out HQ.out Ip.out Iq.out)
  go_wp2_with fail
  refine HC.out.mono ?_
  clear HC
  rintro e w14 hret
  obtain ⟨aw14, rfl, r, x⟩ := hret.lit (HP.out.meet ys).len
  clear r
  replace Ip := Lib.hid (Ip.out.ext x)
  replace Iq := Lib.hid (Iq.out.ext x)
  replace HX := Lib.hid (HX.out.trans x)
  clear x
  have HC := Lib.hid (ok_join HP.out HQ.out Ip.out Iq.out)
  go_wp2_with fail
  refine HC.out.mono ?_
  clear HC
  rintro e w15 hret
  obtain ⟨aw15, rfl, r, x⟩ := hret.lit (HP.out.join ys).len
  clear r
  replace Ip := Lib.hid (Ip.out.ext x)
  replace Iq := Lib.hid (Iq.out.ext x)
  replace HX := Lib.hid (HX.out.trans x)
  clear x
  have HC := Lib.hid ((show Calls _ _ _ _ (fun e w' => e = .returned (.tuple #[.bool false, .int .i64 0]) ∧ Ext _ w') from by have := ok_below HP.out HQ.out Ip.out Iq.out; rw [HLE.out] at this; exact this))
  go_wp2_with fail
  refine HC.out.mono ?_
  clear HC
  rintro e w16 ⟨rfl, x⟩
  replace Ip := Lib.hid (Ip.out.ext x)
  replace Iq := Lib.hid (Iq.out.ext x)
  replace HX := Lib.hid (HX.out.trans x)
  clear x
  have HC := Lib.hid (ok_none HP.out HQ.out Ip.out Iq.out HLE.out)
  go_wp2_with fail
  refine HC.out.mono ?_
  clear HC
  rintro e w17 hret
  obtain ⟨aw17, rfl, r, x⟩ := hret.lit rfl
  clear r
  replace Ip := Lib.hid (Ip.out.ext x)
  replace Iq := Lib.hid (Iq.out.ext x)
  replace HX := Lib.hid (HX.out.trans x)
  clear x
  clear Ip Iq
  by_cases hlo : n < 1
  · as_aux_lemma =>
      have hsz : sizeE n = 1 := by unfold sizeE; rw [if_pos hlo]
      have HSZ := Lib.hid hsz; clear hsz
      have hhi : ¬ (8 : Int) < n := by omega
      have HC := Lib.hid (bd_id (W := w17) HSZ.out (by decide))
      go_wp2_with fail
      refine HC.out.mono ?_
      clear HC
      rintro e w18 hret
      obtain ⟨aw18, rfl, r, x⟩ := hret.lit rfl
      clear r
      replace HX := Lib.hid (HX.out.trans x)
      clear x
      have HC := Lib.hid (bd_half (W := w18) HSZ.out (by decide))
      go_wp2_with fail
      refine HC.out.mono ?_
      clear HC
      rintro e w19 hret
      obtain ⟨aw19, rfl, r, x⟩ := hret.lit rfl
      clear r
      replace HX := Lib.hid (HX.out.trans x)
      clear x
      have HC := Lib.hid (lives_calls w19)
      go_wp2_with fail
      refine HC.out.mono ?_
      clear HC
      rintro e w20 ⟨rfl, x⟩
      replace HX := Lib.hid (HX.out.trans x)
      clear x
      go_wp2
      go_ret
      exact ⟨rfl, HX.out⟩
  · by_cases hhi : (8 : Int) < n
    · as_aux_lemma =>
        have hsz : sizeE n = 3 := by unfold sizeE; rw [if_neg hlo, if_pos hhi]
        have HSZ := Lib.hid hsz; clear hsz
        have HC := Lib.hid (bd_id (W := w17) HSZ.out (by decide))
        go_wp2_with fail
        refine HC.out.mono ?_
        clear HC
        rintro e w18 hret
        obtain ⟨aw18, rfl, r, x⟩ := hret.lit rfl
        clear r
        replace HX := Lib.hid (HX.out.trans x)
        clear x
        have HC := Lib.hid (bd_half (W := w18) HSZ.out (by decide))
        go_wp2_with fail
        refine HC.out.mono ?_
        clear HC
        rintro e w19 hret
        obtain ⟨aw19, rfl, r, x⟩ := hret.lit rfl
        clear r
        replace HX := Lib.hid (HX.out.trans x)
        clear x
        have HC := Lib.hid (lives_calls w19)
        go_wp2_with fail
        refine HC.out.mono ?_
        clear HC
        rintro e w20 ⟨rfl, x⟩
        replace HX := Lib.hid (HX.out.trans x)
        clear x
        go_wp2
        go_ret
        exact ⟨rfl, HX.out⟩
    · as_aux_lemma =>
        obtain ⟨N, rfl⟩ : ∃ N : Nat, n = (N : Int) := ⟨n.toNat, by omega⟩
        have n1 : 1 ≤ N := by omega
        have n8 : N ≤ 8 := by omega
        have HC := Lib.hid (ok_id (W := w17) n1 n8)
        go_wp2_with fail
        refine HC.out.mono ?_
        clear HC
        rintro e w18 hret
        obtain ⟨a34, rfl, r, x⟩ := hret.lit (idL_len N)
        replace HX := Lib.hid (HX.out.trans x)
        have I34 := Lib.hid r; clear r x
        have HC := Lib.hid (ok_half (W := w18) n1 n8)
        go_wp2_with fail
        refine HC.out.mono ?_
        clear HC
        rintro e w19 hret
        obtain ⟨a36, rfl, r, x⟩ := hret.lit (halfL_len N)
        replace I34 := Lib.hid (I34.out.ext x)
        replace HX := Lib.hid (HX.out.trans x)
        have I36 := Lib.hid r; clear r x
        obtain ⟨b34, o34, rfl, k34⟩ := I34.out.at (i := 0) n1
        obtain ⟨b36, o36, rfl, k36⟩ := I36.out.at (i := 0) n1
        have K34 := Lib.hid k34; have K36 := Lib.hid k36
        clear k34 k36
        go_wp2
        go_loop [39] (fun i => ∃ k : Nat, k ≤ N ∧ i = .int .i64 k) (fun i => N - (intOf i).toNat)
        case atStart => exact ⟨0, Nat.zero_le _, rfl⟩
        case round =>
          obtain ⟨k, hk, rfl⟩ := hrel
          by_cases hlt : k < N
          · have q1 := K34.out k hlt
            have q2 := K36.out k hlt
            rw [idL_gi hlt] at q1
            rw [halfL_gi hlt] at q2
            have g1 : (0 : Int) ≤ (N : Int) - (k : Int) := by omega
            have g2 : (N : Int) - (k : Int) ≤ 8 := by omega
            go_wp2
            go_round
            case rel => exact ⟨k + 1, by omega, by go_num⟩
            case measure => simp [intOf]; omega
          · obtain rfl : k = N := by omega
            have HC := Lib.hid (lives_calls w19)
            go_wp2_with fail
            refine HC.out.mono ?_
            clear HC
            rintro e wz ⟨rfl, x⟩
            replace HX := Lib.hid (HX.out.trans x)
            clear x
            go_wp2
            go_ret
            exact ⟨rfl, HX.out⟩
end Go.Proofs.Ytpcbadagffeehaa
