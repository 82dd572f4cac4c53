/- The law PermutationsWord, walked. -/
import Derived.Test.YtpcbadagffeehaaSf
namespace Go.Proofs.Ytpcbadagffeehaa
set_option linter.unusedVariables false
set_option linter.unusedSimpArgs false
open Go Go.RowKit

/-- The list that is changed in place. -/
def WL (w3 wr : World) (g cap N : Nat) (l : List Int) : Prop := (∃ f, wr.rowIs g 5 cap f ∧ ∀ j, j < N → f j = .int .u8 (gi l j)) ∧ Ext w3 wr
theorem WL.drewN {w3 wr : World} {g cap N : Nat} {l : List Int} (h : WL w3 wr g cap N l) (m : Nat) : WL w3 (wr.drewN m) g cap N l := by
  obtain ⟨⟨f, h1, h2⟩, h3⟩ := h
  exact ⟨⟨f, ((Ext.refl wr).drewN m).row h1, h2⟩, h3.drewN m⟩
theorem WL.exch {w3 wr : World} {g cap N : Nat} {l : List Int} (h : WL w3 wr g cap N l) (hg : w3.heap.size ≤ g) {y : Nat} (hy : y + 1 < N) (hN : l.length = N) (W : World)
    (hW : W = (wr.setCell ⟨g, y, none⟩ (.int .u8 (gi l (y + 1)))).setCell ⟨g, y + 1, none⟩ (.int .u8 (gi l y)) ∨ W = (wr.setCell ⟨g, y + 1, none⟩ (.int .u8 (gi l y))).setCell ⟨g, y, none⟩ (.int .u8 (gi l (y + 1)))) :
    WL w3 W g cap N (swL l (y + 1)) := by
  obtain ⟨⟨f, h2, hf⟩, h1⟩ := h
  have hs : ∀ j, gi (swL l (y + 1)) j = if j = y + 1 then gi l y else if j = y then gi l (y + 1) else gi l j := fun j => by
    rw [swL_gi (by omega) (by omega), Nat.add_sub_cancel]
  rcases hW with rfl | rfl
  · refine ⟨⟨_, (h2.set y _).set (y + 1) _, fun j hj => ?_⟩, (h1.setCell (by simpa using hg) _).setCell (by simpa using hg) _⟩
    rw [hs]
    by_cases e : j = y + 1
    · simp [e]
    · by_cases e' : j = y
      · simp [e']
      · simp [e, e', hf j hj]
  · refine ⟨⟨_, (h2.set (y + 1) _).set y _, fun j hj => ?_⟩, (h1.setCell (by simpa using hg) _).setCell (by simpa using hg) _⟩
    rw [hs]
    by_cases e : j = y
    · simp [e]
    · by_cases e' : j = y + 1
      · simp [e']
      · simp [e, e', hf j hj]

set_option maxRecDepth 100000 in
set_option maxHeartbeats 8000000 in
theorem PermutationsWord_walk (v1 : Value) (c1 : Nat) (xs : List Int) (w : World) (h : IS .u8 w v1 c1 xs) (hb : U8L xs) :
    Calls Try.prog 7 #[v1] w fun e w' => e = .returned (.bool true) ∧ Below w.heap.size w w' := by
  have hof := Of_calls v1 c1 xs w h hb
  have hp := PM.ofM hb
  obtain ⟨N, hN⟩ : ∃ N, N = mN xs := ⟨_, rfl⟩
  rw [← hN] at hp
  obtain ⟨p, hpp⟩ : ∃ p, p = mof xs := ⟨_, rfl⟩
  rw [← hpp] at hof hp
  obtain ⟨_, _, ao, rfl, _⟩ := h.open
  obtain ⟨l1, hl1⟩ : ∃ l, l = xs.length := ⟨_, rfl⟩
  rw [← hl1] at hof ⊢
  have n1 := hp.pos
  have n8 := hp.le
  have hH := PM.half hp.pos hp.le
  have hle : leB N p (halfL N) = true := leB_iff.2 (leP_half N p)
  have hinv := leP_invs hp.ok hH.ok (hp.len.trans hH.len.symm) (by rw [hp.len]; exact leB_iff.1 hle)
  have hhalf := half_invs N
  obtain ⟨M, hM⟩ : ∃ A : Nat, (A : Int) = invs p := ⟨(invs p).toNat, by have := invs_nonneg p; omega⟩
  obtain ⟨M2, hM2⟩ : ∃ A : Nat, (A : Int) = invs (restL p (halfL N)) := ⟨(invs (restL p (halfL N))).toNat, by have := invs_nonneg (restL p (halfL N)); omega⟩
  obtain ⟨T, hT⟩ : ∃ T : Int, (N : Int) * ((N : Int) - 1) = T := ⟨_, rfl⟩
  rw [hT] at hhalf
  have hTb : 0 ≤ T ∧ T ≤ 144 := by
    have e1 := crossers_len (halfL N)
    have l1 : (crossers (halfL N)).length ≤ 72 := prsAll_len (by rw [halfL_len]; exact n8) _
    omega
  have hMM : ((M : Int) + (M2 : Int) == T / 2) = true := by simp; omega
  have hM72 : M ≤ 72 := by
    have e1 := crossers_len p
    have l1 : (crossers p).length ≤ 72 := prsAll_len (by rw [hp.len]; exact n8) _
    omega
  have hM272 : M2 ≤ 72 := by omega
  obtain ⟨hT0, hT1⟩ := hTb
  have hW0 := fun i hi => wleft_spec hp.ok i hi
  have hfin : wleft p M = idL N := by
    have := hW0 M (by omega)
    have e := sorted_id this.2.1 (by rw [this.2.2]; omega)
    rw [e, this.1, hp.len]
  have HOF := Lib.hid hof; have HP := Lib.hid hp; have HM := Lib.hid hM; have HM2 := Lib.hid hM2; have HWS := Lib.hid hW0; have HFIN := Lib.hid hfin; have HLE := Lib.hid hle; have HTT := Lib.hid hT
  clear hof hp hN hpp h hb hl1 hM hM2 hW0 hfin hle hinv hhalf hH hT
  go_enter Try.func7, Try.ntmps7
  go_wp2_with fail
  refine HOF.out.mono ?_
  rintro e w1 hret
  obtain ⟨a3, c3, rfl, r, x⟩ := hret.lit HP.out.len
  have I3 := Lib.hid r; have HX := Lib.hid x; clear r x
  have HC := Lib.hid (ok_word HP.out I3.out HM.out)
  go_wp2_with fail
  refine HC.out.mono ?_
  clear HC
  rintro e w2 hret
  obtain ⟨a4, rfl, r, x⟩ := hret.lit (wlet_len p M)
  replace I3 := Lib.hid (I3.out.ext x); have I4 := Lib.hid r; replace HX := Lib.hid (HX.out.trans x); clear r x
  have HC := Lib.hid (ok_len HP.out I3.out HM.out)
  go_wp2_with fail
  refine HC.out.mono ?_
  clear HC
  rintro e w3 ⟨rfl, x⟩
  replace I3 := Lib.hid (I3.out.ext x); replace I4 := Lib.hid (I4.out.ext x); replace HX := Lib.hid (HX.out.trans x); clear x
  have hx0 : Ext w3 (w3.alloc (.cells #[] 5)) := (Ext.refl w3).alloc _
  have HX0 := Lib.hid hx0
  have hown0 := World.ownsRow_made (base := w3.heap.size) (size := 1) (e := 5) w3 #[] 0 (Nat.le_refl _) (by unfold maxLen; omega) (by simp)
  have HO0 := Lib.hid hown0
  clear hx0 hown0
  go_wp2_with (at_builtin; refine app_own eiU8 rfl _ _ rfl w3.heap.size _ 0 [] rfl HO0.out _ c3 (p.map (Value.int .u8)) rfl (I3.out.ext HX0.out) (onesI _) ?d1 ?d2 ?d3 ?_)
  case d1 => rw [List.length_map, HP.out.len]; omega
  case d2 => rw [List.length_map, HP.out.len]; omega
  case d3 => simp
  intro v8 w4 hown4 hb4
  have hl0 : 0 + (p.map (Value.int .u8)).length = N := by rw [List.length_map, HP.out.len]; omega
  have hown : w4.ownsRow w3.heap.size 5 1 v8 N (p.map (Value.int .u8)) := by
    have h := hown4
    (try simp only [List.length_map, Nat.zero_add, List.nil_append] at h)
    (try rw [HP.out.len] at h)
    exact h
  obtain ⟨g, cap, f, rfl, hg1, hg2, hcap, hcm, hrow, hf⟩ := own_open hown n1
  have hwl : WL w3 w4 g cap N (wleft p 0) := ⟨⟨f, hrow, fun j hj => hf j _ (by rw [List.getElem?_map, gi_some (by rw [HP.out.len]; exact hj)]; rfl)⟩, Below.trans HX0.out hb4⟩
  have HWL := Lib.hid hwl
  have HCM := Lib.hid hcm
  clear hown4 hown hrow hf hwl hb4 hcm hl0
  go_wp2
  go_loopw [9] (fun i wr => ∃ k : Nat, k ≤ M ∧ i = .int .i64 k ∧ Hid (WL w3 wr g cap N (wleft p k))) (fun i _ => M - (intOf i).toNat)
  case atStart => exact ⟨0, Nat.zero_le _, rfl, HWL⟩
  case round =>
    obtain ⟨i, hi, rfl, H⟩ := hrel
    by_cases hlt : i < M
    · obtain ⟨s1, s2, s3⟩ := HWS.out i (by rw [← HM.out]; omega)
      have hff := ffN_spec (falls_of_invs (l := wleft p i) (by rw [s3, ← HM.out]; omega))
      obtain ⟨y, hy⟩ : ∃ y, ffN (wleft p i) = y + 1 := ⟨ffN (wleft p i) - 1, by omega⟩
      rw [hy] at hff
      obtain ⟨_, _, f3, f4, f5⟩ := hff
      have hnext : wleft p (i + 1) = swL (wleft p i) (y + 1) := by rw [wleft, hy]
      have hlet : gi (wlet p M) i = (y : Int) + 1 := by rw [wlet_gi p hlt, hy]; omega
      rw [s1, HP.out.len] at f3
      have hup : ∀ k, k < y → gi (wleft p i) k < gi (wleft p i) (k + 1) := fun k hk => by
        have a := f5 (k + 1) (by omega) (by omega)
        unfold fallB at a
        rw [Nat.add_sub_cancel] at a
        have a' := of_decide_eq_false a
        have hne : gi (wleft p i) k ≠ gi (wleft p i) (k + 1) := fun e => by
          have := pok_inj s2 (i := k + 1) (j := k + 2) (by omega) (by rw [s1, HP.out.len]; omega) (by omega) (by rw [s1, HP.out.len]; omega) (by rw [Nat.add_sub_cancel, show k + 2 - 1 = k + 1 by omega]; exact e)
          omega
        omega
      have hdn : gi (wleft p i) (y + 1) < gi (wleft p i) y := by
        unfold fallB at f4; rw [Nat.add_sub_cancel] at f4; exact of_decide_eq_true f4
      have hcl : (wleft p i).length = N := by rw [s1, HP.out.len]
      obtain ⟨L, hLL⟩ : ∃ L, L = wleft p i := ⟨_, rfl⟩
      rw [← hLL] at H hnext hup hdn hcl
      have HNX := Lib.hid hnext; have HLT := Lib.hid hlet; have HUP := Lib.hid hup; have HDN := Lib.hid hdn; have HCL := Lib.hid hcl
      clear hnext hlet hup hdn hcl s1 s2 s3 f4 f5 hy hLL
      obtain ⟨b4, o4, rfl, k4⟩ := I4.out.at (i := i) hlt
      have K4 := Lib.hid (k4 i hlt)
      clear k4
      go_wp2
      go_loopw [10] (fun k wr => ∃ k0 : Nat, k0 ≤ y ∧ k = .int .i64 k0 ∧ Hid (WL w3 wr g cap N L)) (fun k _ => y - (intOf k).toNat)
      case atStart => exact ⟨0, Nat.zero_le _, rfl, H⟩
      case round =>
        obtain ⟨k0, hk0, rfl, H2⟩ := hrel
        obtain ⟨f, hrow, hf⟩ := H2.out.1
        have q1 := hrow.cell (i := k0) (by omega)
        have q2 := hrow.cell (i := k0 + 1) (by omega)
        rw [hf k0 (by omega)] at q1
        rw [hf (k0 + 1) (by omega)] at q2
        have qf1 := hrow.frozen k0
        have qf2 := hrow.frozen (k0 + 1)
        clear hrow hf
        have g1 : (0 : Int) ≤ (k0 : Int) := by omega
        have g2 : (k0 : Int) < (N : Int) := by omega
        have g3 : (k0 : Int) + 1 < (N : Int) := by omega
        have g4 : IntKind.i64.wrap ((k0 : Int) + 1) = (k0 : Int) + 1 := IntWalk.i64_in _ ⟨by omega, by omega⟩
        have g5 : (0 : Int) ≤ (k0 : Int) + 1 := by omega
        have g6 : ((k0 : Int) + 1).toNat = k0 + 1 := by omega
        have g7 : (k0 : Int) ≤ (cap : Int) := by omega
        have hm : Try.prog.follows .mixedOrders = true := by kernel_rfl
        obtain ⟨z1, hz1⟩ : ∃ z, z = gi L k0 := ⟨_, rfl⟩
        obtain ⟨z2, hz2⟩ : ∃ z, z = gi L (k0 + 1) := ⟨_, rfl⟩
        rw [← hz1] at q1
        rw [← hz2] at q2
        by_cases hky : k0 < y
        · have hz : z1 < z2 := by rw [hz1, hz2]; exact HUP.out k0 hky
          have hzd : decide (z1 < z2) = true := decide_eq_true hz
          clear hz1 hz2
          go_wp2
          go_quiet (fail)
          go_wp2
          go_roundw
          case rel => exact ⟨k0 + 1, by omega, by go_num, Lib.hid (H2.out.drewN _)⟩
          case measure => simp [intOf]; omega
        · obtain rfl : k0 = y := by omega
          have hz : ¬ z1 < z2 := by rw [hz1, hz2]; have := HDN.out; omega
          have hzd : decide (z1 < z2) = false := decide_eq_false hz
          have HZ1 := Lib.hid hz1; have HZ2 := Lib.hid hz2
          clear hz1 hz2
          go_wp2
          go_quiet (fail)
          have k4 := H2.out.2.cell K4.out
          rw [HLT.out] at k4
          have k4' : (wr.drewN nq).cell? ⟨b4, o4 + i, none⟩ = some (.int .i64 ((k0 : Int) + 1)) := k4
          have hN1 : ¬ (N : Int) ≤ (k0 : Int) + 1 := by omega
          clear k4
          have HE := Lib.hid (fun W hW => WL.exch (H2.out.drewN nq) hg1 f3 HCL.out W hW)
          rw [← HZ1.out, ← HZ2.out] at HE
          have qe1 : (wr.drewN nq).cell? ⟨g, k0, none⟩ = some (.int .u8 z1) := q1
          have qe2 : (wr.drewN nq).cell? ⟨g, k0 + 1, none⟩ = some (.int .u8 z2) := q2
          have qg1 : (wr.drewN nq).frozen? ⟨g, k0, none⟩ = false := qf1
          have qg2 : (wr.drewN nq).frozen? ⟨g, k0 + 1, none⟩ = false := qf2
          obtain ⟨wq, hwq⟩ : ∃ wq, wq = wr.drewN nq := ⟨_, rfl⟩
          rw [← hwq] at HE k4' qe1 qe2 qg1 qg2 ⊢
          clear hwq q1 q2 qf1 qf2
          go_wp2
          go_region
          all_goals
            go_wp2
            go_roundw
            case rel =>
              refine ⟨i + 1, by omega, by go_num, Lib.hid ?_⟩
              rw [HNX.out]
              have hx : ∀ W, WL w3 W g cap N (swL L (k0 + 1)) → WL w3 W.drew g cap N (swL L (k0 + 1)) := fun W hW => ⟨by obtain ⟨f, a, b⟩ := hW.1; exact ⟨f, a.drew, b⟩, hW.2.drew⟩
              first
                | exact HE.out _ (.inl rfl)
                | exact HE.out _ (.inr rfl)
                | exact hx _ (HE.out _ (.inl rfl))
                | exact hx _ (HE.out _ (.inr rfl))
            case measure => simp [intOf]; omega
    · obtain rfl : i = M := by omega
      have hfin := H.out
      rw [HFIN.out] at hfin
      have HF := Lib.hid hfin
      clear hfin
      obtain ⟨w5, rfl⟩ : ∃ w5 : World, w5 = wr := ⟨_, rfl⟩
      replace I3 := Lib.hid (I3.out.ext HF.out.2); replace HX := Lib.hid (HX.out.trans HF.out.2)
      go_wp2
      go_loop [11] (fun t => ∃ k : Nat, k ≤ N ∧ t = .int .i64 k) (fun t => N - (intOf t).toNat)
      case atStart => exact ⟨0, Nat.zero_le _, rfl⟩
      case round =>
        obtain ⟨k, hk, rfl⟩ := hrel
        by_cases hlk : k < N
        · obtain ⟨f, hrow, hf⟩ := HF.out.1
          have q := hrow.cell (i := k) (by omega)
          rw [hf k hlk, idL_gi hlk] at q
          clear hrow hf
          go_wp2
          go_round
          case rel => exact ⟨k + 1, by omega, by go_num⟩
          case measure => simp [intOf]; omega
        · obtain rfl : k = N := by omega
          have hTT := HTT.out
          have HC := Lib.hid (ok_half (W := w5) n1 n8)
          go_wp2_with fail
          refine HC.out.mono ?_
          clear HC
          rintro e w6 hret
          obtain ⟨a12, rfl, r, x⟩ := hret.lit (halfL_len k)
          replace I3 := Lib.hid (I3.out.ext x); have I12 := Lib.hid r; replace HX := Lib.hid (HX.out.trans x); clear r x
          have HC := Lib.hid (ok_rest HP.out (PM.half n1 n8) I3.out I12.out HLE.out)
          go_wp2_with fail
          refine HC.out.mono ?_
          clear HC
          rintro e w7 hret
          obtain ⟨a14, rfl, r, x⟩ := hret.lit (HP.out.rest (PM.half n1 n8)).len
          have I14 := Lib.hid r; replace HX := Lib.hid (HX.out.trans x); clear r x
          have HC := Lib.hid (ok_len (m := M2) (HP.out.rest (PM.half n1 n8)) I14.out HM2.out)
          go_wp2_with fail
          refine HC.out.mono ?_
          clear HC
          rintro e w8 ⟨rfl, x⟩
          replace HX := Lib.hid (HX.out.trans x); clear x
          have HC := Lib.hid (lives_calls w8)
          go_wp2_with fail
          refine HC.out.mono ?_
          clear HC
          rintro e w9 ⟨rfl, x⟩
          replace HX := Lib.hid (HX.out.trans x); clear x
          go_wp2
          go_ret
          exact ⟨rfl, HX.out⟩
end Go.Proofs.Ytpcbadagffeehaa
