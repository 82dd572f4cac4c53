/- Texts of this claim in one file: libraries and walks. -/
import Derived.Deep.RegionHeld3
import Derived.Laws.StructEq
import Derived.Test.YtkolebjpeaigcaaDoorL0
import Derived.Test.YtkolebjpeaigcaaDoorL1
import Derived.Test.YtkolebjpeaigcaaDoorL8
/- ganseyref13.Loads. -/
namespace Go.Proofs.YtkolebjpeaigcaaDoor
set_option linter.unusedVariables false
set_option linter.unusedSimpArgs false
set_option maxRecDepth 8000
open Go Go.RowKit

/-- Lists of numbers and an error are returned. -/
def RetLL (w0 : World) (rows : List (List Int)) (err : Int) (e : Ending) (w' : World) : Prop := ∃ v c, e = .returned (.tuple #[v, .int .i64 err]) ∧ ISS .i64 w' v c rows ∧ Ext w0 w'

theorem slice_mid (b o bn bc at0 nd : Nat) (h : at0 + nd ≤ bc) (hne : ¬ bc = at0) (w : World) : (Instr.slice 56 (.slice (some ⟨b, o, none⟩) bn bc) (some (.int .i64 (at0 : Int))) (some (.int .i64 ((at0 : Int) + (nd : Int)))) none).run Tryd.prog w = .ok (.slice (some ⟨b, o + at0, none⟩) nd (bc - at0)) w := by
  have hz : ∀ w', (sizeOf (Tryd.prog.elem 56)).run Tryd.prog w' = .ok 1 w' := fun w' => by kernel_rfl
  rw [run_slice_lh w 56 _ _ _ Tryd.underlying56 .i64 .i64 _ _ (by omega) (by omega) (by omega), hz]
  simp only [Result.andThen, sliced]
  rw [if_neg (by simpa using hne)]
  have e : ((at0 : Int) + (nd : Int)).toNat = at0 + nd := by omega
  rw [e]
  simp [Addr.add]
theorem rneed_app' (a b : List St) : rneed (a ++ b) = rneed a + rneed b := by
  induction a with
  | nil => simp [rneed]
  | cons s a ih => rw [List.cons_append, rneed_cons, rneed_cons, ih]; omega
set_option maxHeartbeats 8000000 in
theorem RCLoads_calls (v : Value) (c : Nat) (rows : List (List St)) (w : World) (h : RR w v c rows) (hs : ∀ k, k < rows.length → ∀ i, i < (sw rows k).length → 0 ≤ (si (sw rows k) i).k ∧ 0 ≤ (si (sw rows k) i).y) :
    Calls Tryd.prog 12 #[.agg #[v]] w (RetLL w (cloads rows).2 (cloads rows).1) := by
  obtain ⟨ao, n, rfl, hn, hc, hcm, hat⟩ := h.open
  unfold maxLen at hcm
  obtain ⟨W, hW⟩ : ∃ W, W = w.alloc (.cells #[.slice ao n c] 27) := ⟨_, rfl⟩
  have xW : Ext w W := by rw [hW]; exact (Ext.refl w).alloc _
  have b0 : W.cell? ⟨w.heap.size, 0, none⟩ = some (.slice ao n c) := by rw [hW, World.cell?_alloc_at (hn := rfl)]; rfl
  have HBx := Lib.hid (fun w' (x : Ext W w') => x.cell b0); have XW := Lib.hid xW
  have hbad : ∀ e w', cerr rows = e → e ≠ 0 → Ext W w' → RetLL w (cloads rows).2 (cloads rows).1 (.returned (.tuple #[.slice none 0 0, .int .i64 e])) w' := fun e w' h1 h2 x => by
    have : cloads rows = (e, []) := by unfold cloads; rw [if_pos (by omega), h1]
    rw [this]; exact ⟨_, 0, rfl, ISS.nil _ _, xW.trans x⟩
  have HBad := Lib.hid hbad
  by_cases h31 : 31 < n
  · have HF := Lib.hid (fun w' x => HBad.out 3 w' (cerr_long (rows := rows) (by omega)) (by decide) x)
    have h31' : (31 : Int) < (n : Int) := by omega
    have HW := Lib.hid hW
    rw [hW] at b0
    clear hn hat h31 h hs hbad xW hW
    go_enter Tryd.func12, Tryd.ntmps12
    go_wp2
    rw [← HW.out]
    go_ret2
    exact HF.out _ (Ext.refl _)
  have h31' : ¬ (31 : Int) < (n : Int) := by omega
  by_cases h2 : n % 2 = 0
  · have HF := Lib.hid (fun w' x => HBad.out 1 w' (cerr_even (rows := rows) (by omega) (by omega)) (by decide) x)
    have h2' : ((n : Int) % 2 == 0) = true := by rw [beq_iff_eq]; omega
    have HW := Lib.hid hW
    rw [hW] at b0
    clear hn hat h31 h2 h hs hbad xW hW
    go_enter Tryd.func12, Tryd.ntmps12
    go_wp2
    rw [← HW.out]
    go_ret2
    exact HF.out _ (Ext.refl _)
  have h2' : ((n : Int) % 2 == 0) = false := by rw [beq_eq_false_iff_ne]; omega
  have hrow : ∀ k, k < n → (∀ i, i < k → rchk (sw rows i) = 0) → rchk (sw rows k) ≠ 0 → cerr rows = rchk (sw rows k) := fun k hk hg hb => cerr_row (by omega) (by omega) (by omega) hg hb
  have hfit : (∀ i, i < n → rchk (sw rows i) = 0) → ∀ k, k + 1 < n → rneed (sw rows (k + 1)) ≠ rmake (sw rows k) → cerr rows = 14 := fun hg k hk hb => cerr_fit (by omega) (by omega) (fun i hi => hg i (by omega)) (by omega) hb
  have hok : (∀ i, i < n → rchk (sw rows i) = 0) → (∀ k, k + 1 < n → rneed (sw rows (k + 1)) = rmake (sw rows k)) → cerr rows = 0 := fun hg hf => cerr_ok (by omega) (by omega) (fun i hi => hg i (by omega)) (fun k hk => hf k (by omega))
  have hs2 : ∀ k, k < n → ∀ i, i < (sw rows k).length → 0 ≤ (si (sw rows k) i).k ∧ 0 ≤ (si (sw rows k) i).y := fun k hk => hs k (by omega)
  have HA := Lib.hid hat; have HRow := Lib.hid hrow; have HFit := Lib.hid hfit; have HOk := Lib.hid hok; have HS := Lib.hid hs2; have Hn := Lib.hid hn
  have hn31 : n ≤ 31 := by omega
  have hn1 : 1 ≤ n := by omega
  have HW := Lib.hid hW
  rw [hW] at b0
  clear hat hrow hfit hok hn h31 h2 h hs hbad xW hs2 hW
  go_enter Tryd.func12, Tryd.ntmps12
  go_wp2
  rw [← HW.out]
  clear b0 HW
  go_loopw [4, 5] (fun i _ wr => ∃ k : Nat, k ≤ n ∧ i = .int .i64 k ∧ Hid (Ext W wr) ∧ Hid (∀ i, i < k → rchk (sw rows i) = 0)) (fun i _ _ => n - (intOf i).toNat)
  case atStart => exact ⟨0, Nat.zero_le _, rfl, Lib.hid (Ext.refl _), Lib.hid (fun i hi => by omega)⟩
  case round =>
    obtain ⟨k, hk, rfl, HX, HG⟩ := hrel
    have b1 := HBx.out _ HX.out
    by_cases hlt : k < n
    · obtain ⟨b, o, a, m, d, rfl, hc0, hr0⟩ := HA.out k hlt
      replace hc0 := (XW.out.trans HX.out).cell hc0
      have hcl := RRow_calls _ _ _ wr (hr0.ext (XW.out.trans HX.out)) (HS.out k hlt)
      have hbd : rchk (sw rows k) ≠ 0 → cerr rows = rchk (sw rows k) := fun hb => HRow.out k hlt HG.out hb
      have hgg : rchk (sw rows k) = 0 → ∀ i, i < k + 1 → rchk (sw rows i) = 0 := fun h i hi => by
        by_cases e : i = k
        · rw [e]; exact h
        · exact HG.out i (by omega)
      generalize rchk (sw rows k) = E at hcl hbd hgg
      have HCl := Lib.hid hcl
      clear hcl hr0
      by_cases hE : E = 0
      · have tq : (E != 0) = false := by rw [hE]; rfl
        have HG2 := Lib.hid (hgg hE)
        clear hbd hgg hE
        go_wp2_with fail
        refine HCl.out.mono ?_
        rintro e w1 ⟨rfl, x1⟩
        have HX2 := Lib.hid (HX.out.trans x1)
        clear x1 hc0 b1 HCl
        go_wp2
        go_roundw
        case rel => exact ⟨k + 1, by omega, by go_num, HX2, HG2⟩
        case measure => simp [intOf]; omega
      · have tq : (E != 0) = true := by rw [bne, beq_eq_false_iff_ne.2 hE]; rfl
        have HF := Lib.hid (fun w' x => HBad.out E w' (hbd hE) hE x)
        clear hbd hgg hE
        go_wp2_with fail
        refine HCl.out.mono ?_
        rintro e w1 ⟨rfl, x1⟩
        have HF2 := Lib.hid (HF.out _ (HX.out.trans x1))
        clear x1 hc0 b1 HCl
        go_wp2
        go_ret2
        exact HF2.out
    · obtain rfl : n = k := by omega
      obtain ⟨wo, rfl⟩ : ∃ wo : World, wo = wr := ⟨_, rfl⟩
      clear hlt hk HRow
      go_wp2
      go_loopw [6] (fun i wr => ∃ k : Nat, k + 1 ≤ n ∧ i = .int .i64 ((k : Int) + 1) ∧ Hid (Ext W wr) ∧ Hid (∀ j, j < k → rneed (sw rows (j + 1)) = rmake (sw rows j))) (fun i _ => n - (intOf i).toNat)
      case atStart => exact ⟨0, by omega, rfl, HX, Lib.hid (fun j hj => by omega)⟩
      case round =>
        obtain ⟨k, hk, rfl, Hy, HF⟩ := hrel
        have b2 := HBx.out _ Hy.out
        by_cases hlt : k + 1 < n
        · obtain ⟨b, o, a, m, d, rfl, hcl, hrs⟩ := HA.out (k + 1) hlt
          obtain ⟨b', o', a', m', d', hbo, hcl', hrs'⟩ := HA.out k (by omega)
          obtain ⟨rfl, rfl⟩ : b = b' ∧ o = o' := by simpa using hbo
          have xwy := XW.out.trans Hy.out
          replace hcl := xwy.cell hcl; replace hcl' := xwy.cell hcl'
          have hg1 := rchk_zero (HG.out (k + 1) hlt)
          have hg2 := rchk_zero (HG.out k (by omega))
          have hN := fun w' (x : Ext wr w') => RRowNeeds_calls _ d (sw rows (k + 1)) w' ((hrs.ext xwy).ext x) (by omega) (HS.out _ hlt)
          have hM := fun w' (x : Ext wr w') => RRowMakes_calls _ d' (sw rows k) w' ((hrs'.ext xwy).ext x) (by omega) (HS.out _ (by omega))
          have hbk := HFit.out HG.out k hlt
          have hnx : rneed (sw rows (k + 1)) = rmake (sw rows k) → ∀ j, j < k + 1 → rneed (sw rows (j + 1)) = rmake (sw rows j) := fun h0 i hi => by
            by_cases e : i = k
            · rw [e]; exact h0
            · exact HF.out i (by omega)
          generalize rneed (sw rows (k + 1)) = A at hN hbk hnx
          generalize rmake (sw rows k) = B at hM hbk hnx
          have HN := Lib.hid hN; have HM := Lib.hid hM; have HBk := Lib.hid hbk; have HNx := Lib.hid hnx
          clear hN hM hbk hnx hg1 hg2 hrs hrs' hbo xwy
          have t1 : (0 : Int) ≤ (k : Int) + 1 := by omega
          have t2 : ((k : Int) + 1).toNat = k + 1 := by omega
          have t3 : (k : Int) + 1 < n := by omega
          have t4 : IntKind.i64.wrap ((k : Int) + 1 - 1) = (k : Int) := by rw [show (k : Int) + 1 - 1 = k by omega]; exact IntWalk.i64_in _ ⟨by omega, by omega⟩
          have t5 : (k : Int) < n := by omega
          have t6 : IntKind.i64.wrap (k : Int) = (k : Int) := IntWalk.i64_in _ ⟨by omega, by omega⟩
          have t7 : (0 : Int) ≤ (k : Int) := by omega
          go_wp2
          go_region_held3 (fun w' => w'.cell? ⟨w.heap.size, 0, Option.none⟩ = some (.slice (some ⟨b, o, Option.none⟩) n c) ∧ w'.cell? ⟨b, o + (k + 1), Option.none⟩ = some (.slice a m d) ∧ w'.cell? ⟨b, o + k, Option.none⟩ = some (.slice a' m' d')) (first | exact ⟨b2, hcl, hcl'⟩ | exact ⟨q2, q0, q1⟩ | exact ⟨p2, p0, p1⟩ | go_keep) (first
            | (go_at_call 22; (refine (HN.out _ ?_).mono ?_); (focus (repeat (first | (with_reducible exact Ext.refl _) | (with_reducible apply Ext.drew) | (with_reducible apply Ext.drewN)))); rintro e w4 ⟨rfl, x4⟩; have X4 : Hid (Ext wr w4) := Lib.hid (Ext.trans (by (repeat (first | (with_reducible exact Ext.refl _) | (with_reducible apply Ext.drew) | (with_reducible apply Ext.drewN)))) x4); have q0 := X4.out.cell hcl; have q1 := X4.out.cell hcl'; have q2 := X4.out.cell b2; clear x4)
            | (go_at_call 24; (refine (HM.out _ ?_).mono ?_); (focus (refine X4.out.trans ?_; (repeat (first | (with_reducible exact Ext.refl _) | (with_reducible apply Ext.drew) | (with_reducible apply Ext.drewN))))); rintro e w5 ⟨rfl, x5⟩; have X5 : Hid (Ext wr w5) := Lib.hid (X4.out.trans (Ext.trans (by (repeat (first | (with_reducible exact Ext.refl _) | (with_reducible apply Ext.drew) | (with_reducible apply Ext.drewN)))) x5)); have p0 := X5.out.cell hcl; have p1 := X5.out.cell hcl'; have p2 := X5.out.cell b2; clear x5))
          have HX := Lib.hid (Hy.out.trans X5.out)
          clear q0 q1 q2 p0 p1 p2 X4 X5 hcl hcl' HN HM t1 t2 t3 t4 t5 t6 t7 b2
          by_cases hq : A = B
          · have hq' : (A != B) = false := by rw [bne, beq_iff_eq.2 hq]; rfl
            have HN2 := Lib.hid (HNx.out hq)
            clear hq HNx HBk
            go_wp2
            go_roundw
            case rel => exact ⟨k + 1, by omega, by go_num, HX, HN2⟩
            case measure => simp [intOf]; omega
          · have hq' : (A != B) = true := by rw [bne, beq_eq_false_iff_ne.2 hq]; rfl
            have HB2 := Lib.hid (HBad.out 14 _ (HBk.out hq) (by decide) HX.out)
            clear hq HNx HBk
            go_wp2
            go_ret2
            exact HB2.out
        · have hnk : n = k + 1 := by omega
          have hce := HOk.out HG.out (fun j hj => HF.out j (by omega))
          have hz := fun i (hi : i < n) => rchk_zero (HG.out i hi)
          have hfitA := fun j (hj : j + 1 < n) => HF.out j (by omega)
          have hz0 := hz 0 (by omega)
          obtain ⟨N, hN⟩ : ∃ N : Nat, rneed (sw rows 0) = N := ⟨(rneed (sw rows 0)).toNat, by have := rneed_bd (sw rows 0); omega⟩
          have hN16 : 1 ≤ N ∧ N ≤ 16 := by omega
          obtain ⟨F, hFd⟩ : ∃ F, F = List.replicate N (1 : Int) := ⟨_, rfl⟩
          have hfst : first rows = F := by unfold first; rw [hN, hFd]; rfl
          have hcl : cloads rows = ldRows (rows.drop 0) F [F] := by unfold cloads; rw [if_neg (by omega), hfst]; rfl
          obtain ⟨b, o, a, m, d, rfl, hc0, hr0⟩ := HA.out 0 (by omega)
          rw [Nat.add_zero] at hc0
          obtain ⟨w5, hw5⟩ : ∃ w5 : World, w5 = wr := ⟨_, rfl⟩
          have X5 := Lib.hid (show Ext W w5 by rw [hw5]; exact Hy.out)
          have HC0 := Lib.hid (fun w' (x : Ext W w') => (XW.out.trans x).cell hc0)
          have hNe := fun w' (x : Ext W w') => RRowNeeds_calls _ d (sw rows 0) w' (hr0.ext (XW.out.trans x)) (by omega) (HS.out 0 (by omega))
          rw [hN] at hNe
          have HNe := Lib.hid hNe; have HCl := Lib.hid hcl; have HZ := Lib.hid hz; have HFt := Lib.hid hfitA; have HN0 := Lib.hid hN; have HN9 := Lib.hid hN; have HFd := Lib.hid hFd
          have tl : ¬ ((k : Int) + 1 < n) := by omega
          have tn : (0 : Int) < n := by omega
          rw [← hw5] at b2 ⊢
          clear hw5 hz hfitA hz0 hN hFd hfst hcl hc0 hr0 hNe hce hnk hlt
          go_wp2
          clear b2 tl
          go_loopw [7, 8] (fun u i wr => ∃ j : Nat, j ≤ N ∧ i = .int .i64 j ∧ Hid (wr.ownsRow w5.heap.size 3 1 u j ((List.replicate j (1 : Int)).map (Value.int .i64)) ∧ Ext w5 wr)) (fun _ i _ => N - (intOf i).toNat)
          case atStart => exact ⟨0, Nat.zero_le _, rfl, Lib.hid ⟨World.ownsRow_nil _ _ _ _, Ext.refl _⟩⟩
          case round =>
            obtain ⟨j, hj, rfl, H⟩ := hrel
            have b2 := HBx.out _ (X5.out.trans H.out.2)
            have c2 := HC0.out _ (X5.out.trans H.out.2)
            have hcall := HNe.out _ (X5.out.trans H.out.2)
            have HCa := Lib.hid hcall
            clear hcall
            go_wp2_with fail
            refine HCa.out.mono ?_
            rintro e w6 ⟨rfl, x6⟩
            have H6 := Lib.hid (And.intro (own_ext H.out.1 x6) (H.out.2.trans x6))
            clear x6 b2 c2 HCa
            by_cases hjl : j < N
            · have hsz := H6.out.2.size
              go_wp2_with (at_builtin; refine app_own eiInt rfl _ _ rfl w5.heap.size _ j _ rfl (H6.out.1.alloc _) _ _ _ rfl (VS.one _ _ _) (one1 _) ?d1 ?d2 ?d3 ?_)
              any_goals (first | omega | (simp; done) | (simp only [List.length_cons, List.length_nil]; omega) | (simp; omega))
              intro v' w' hown hbel
              have HO := Lib.hid (show w'.ownsRow w5.heap.size 3 1 v' (j + 1) ((List.replicate (j + 1) (1 : Int)).map (Value.int .i64)) ∧ Ext w5 w' from ⟨by rw [rep_snoc, List.map_replicate]; exact hown, Below.trans (H6.out.2.alloc _) hbel⟩)
              clear hown hbel
              go_wp2
              go_roundw
              case rel => exact ⟨j + 1, by omega, by go_num, HO⟩
              case measure => simp [intOf]; omega
            · obtain rfl : N = j := by omega
              have hiv := IV.of_own H6.out.1
              rw [← HFd.out] at hiv
              obtain ⟨na, nn, nc, hnf, hnn⟩ := hiv.1.form
              subst hnf
              have hoi := OI.one H6.out.2 hiv.1
              have hiv2 := hiv.1.ext ((Ext.refl w6).alloc (.cells #[.slice na nn nc] 56))
              obtain ⟨w7, hw7⟩ : ∃ w7, w7 = w6.alloc (.cells #[.slice na nn nc] 56) := ⟨_, rfl⟩
              have X7 := Lib.hid (show Ext w5 w7 by rw [hw7]; exact H6.out.2.alloc _)
              rw [← hw7] at hoi hiv2
              have HOI := Lib.hid hoi; have HIV := Lib.hid hiv2; have HW7 := Lib.hid hw7
              clear hiv hoi hiv2 hnn hw7 hjl H H6
              go_wp2
              rw [← HW7.out]
              clear HC0 HNe HF HN0 hN16
              go_loopw [7, 9, 10, 11, 12, 13, 14, 15, 16, 17] (fun nv ov i _ _ _ _ _ _ _ wr => ∃ (k : Nat) (bf : List Int) (acc : List (List Int)) (aa : Option Addr) (bn bc : Nat), k ≤ n ∧ i = .int .i64 k ∧ nv = .slice aa bn bc ∧ acc.length = k + 1 ∧ Hid (IV wr (.slice aa bn bc) bf) ∧ Hid (OI w5 wr ov acc) ∧ Hid (ldRows (rows.drop 0) F [F] = ldRows (rows.drop k) bf acc) ∧ Hid (k < n → (bf.length : Int) = rneed (sw rows k))) (fun _ _ i _ _ _ _ _ _ _ _ => n - (intOf i).toNat)
              case atStart => exact ⟨0, F, [F], na, nn, nc, by omega, rfl, rfl, rfl, HIV, HOI, Lib.hid rfl, Lib.hid (fun _ => by rw [HN9.out, HFd.out]; simp)⟩
              case round =>
                obtain ⟨k, bf, acc, aa, bn, bc, hk, rfl, rfl, hacl, HV, HO, HE, HB⟩ := hrel
                have X8 := Lib.hid (show Ext W wr from X5.out.trans HO.out.1)
                have b2 := HBx.out _ X8.out
                by_cases hlt : k < n
                · obtain ⟨b', o', a, m, d, hbo, hc0, hr0⟩ := HA.out k hlt
                  obtain ⟨rfl, rfl⟩ : b = b' ∧ o = o' := by simpa using hbo
                  have HC0 := Lib.hid (fun w' (x : Ext W w') => (XW.out.trans x).cell hc0)
                  obtain ⟨_, _, e1, e2, e3, e4, e5⟩ := hr0.open
                  simp only [Value.slice.injEq] at e1
                  obtain ⟨rfl, rfl, _⟩ := e1
                  have hz := HZ.out k hlt
                  have hbf := HB.out hlt
                  have hm16 : m ≤ 16 := by omega
                  obtain ⟨w8, hw8⟩ : ∃ w8 : World, w8 = wr := ⟨_, rfl⟩
                  have HV8 := Lib.hid (show IV w8 (.slice aa bn bc) bf by rw [hw8]; exact HV.out)
                  have HO8 := Lib.hid (show OI w5 w8 _ acc by rw [hw8]; exact HO.out)
                  have X88 := Lib.hid (show Ext W w8 by rw [hw8]; exact X8.out)
                  have HE5 := Lib.hid e5; have HBf := Lib.hid hbf; have He2 := Lib.hid e2
                  have HSt := Lib.hid (HS.out k hlt)
                  rw [← hw8] at b2 ⊢
                  clear hw8 hbo hc0 hr0 e2 e5 hz hbf HV HO X8 HB
                  go_wp2
                  go_loopw [11, 12, 13, 14, 15, 16, 17] (fun at' nx i _ _ _ _ ws => ∃ (j at0 : Nat) (nw : List Int), j ≤ m ∧ i = .int .i64 j ∧ at' = .int .i64 at0 ∧ nw.length ≤ 4 * j ∧ Hid (ws.ownsRow w8.heap.size 3 1 nx nw.length (nw.map (Value.int .i64)) ∧ Ext w8 ws) ∧ Hid ((at0 : Int) = rneed ((sw rows k).take j)) ∧ Hid ((nw.length : Int) = rmake ((sw rows k).take j)) ∧ Hid (ldRow (sw rows k) bf [] = ldRow ((sw rows k).drop j) (bf.drop at0) nw)) (fun _ _ i _ _ _ _ _ => m - (intOf i).toNat)
                  case atStart => exact ⟨0, 0, [], by omega, rfl, rfl, by simp, Lib.hid ⟨World.ownsRow_nil _ _ _ _, Ext.refl _⟩, Lib.hid (by simp [rneed]), Lib.hid (by simp [rmake]), Lib.hid rfl⟩
                  case round =>
                    obtain ⟨j, at0, nw, hj, rfl, rfl, hnw, HH, HAt, HNl, HLR⟩ := hrel
                    obtain ⟨ws, hws⟩ : ∃ ws : World, ws = wr := ⟨_, rfl⟩
                    rw [← hws] at HH ⊢
                    clear hws
                    have b2 := HBx.out _ (X88.out.trans HH.out.2)
                    have c2 := HC0.out _ (X88.out.trans HH.out.2)
                    by_cases hjl : j < m
                    · obtain ⟨bb, oo, rfl, e8⟩ := HE5.out j hjl
                      obtain ⟨u0, u1, u2, u3, u4⟩ := e8.ext (XW.out.trans (X88.out.trans HH.out.2))
                      have hrn : rneed (sw rows k) = rneed ((sw rows k).take (j + 1)) + rneed ((sw rows k).drop (j + 1)) := by rw [← rneed_app', List.take_append_drop]
                      have htk : rneed ((sw rows k).take (j + 1)) = rneed ((sw rows k).take j) + (si (sw rows k) j).need := by rw [take_succ_si (by have := He2.out; omega), rneed_snoc]
                      have hdb := (rneed_bd ((sw rows k).drop (j + 1))).1
                      have hnb := St.need_bd (si (sw rows k) j)
                      obtain ⟨nd, hnd⟩ : ∃ nd : Nat, (si (sw rows k) j).need = nd := ⟨((si (sw rows k) j).need).toNat, by omega⟩
                      have hat := HAt.out
                      have hbf := HBf.out
                      have hfit : at0 + nd ≤ bf.length := by omega
                      have hs0 := HSt.out j (by have := He2.out; omega)
                      have hne := fun w' => RNeeds_calls (si (sw rows k) j) w' hs0
                      have hld := fun v c xs w' (h : IS .i64 w' v c xs) => RLoads_calls (si (sw rows k) j) v c xs w' h hs0
                      rw [hnd] at hne htk hnb
                      obtain ⟨st, hst⟩ : ∃ st, st = si (sw rows k) j := ⟨_, rfl⟩
                      rw [← hst] at u0 u1 u2 u3 u4 hne hld
                      have hk5 := (B5.new ws st 33)
                      have HK5 := Lib.hid hk5
                      have HNe := Lib.hid hne; have HLd0 := Lib.hid hld; have Hst := Lib.hid hst; have HNd := Lib.hid hnd; have HTk := Lib.hid htk
                      have hat16 : at0 ≤ 16 := by have := (rchk_zero (HG.out k hlt)); omega
                      unfold St.val at HNe HLd0
                      clear hrn htk hdb hat hbf hne hld hst hk5 e8 hnd hs0
                      go_wp2_with fail
                      refine (HNe.out _).mono ?_
                      rintro e wn ⟨rfl, xn⟩
                      have q5 : At5 wn ws.heap.size 0 st := (HK5.out.ext xn).at
                      have Xn := Lib.hid (((Ext.refl ws).alloc _).trans xn)
                      clear xn u0 u1 u2 u3 u4 HNe HK5 b2 c2
                      obtain ⟨q0, q1, q2, q3, q4⟩ := q5
                      simp only [Nat.zero_add] at q1 q2 q3 q4
                      obtain ⟨cI, hI⟩ := HV8.out.is
                      obtain ⟨g1, g2, g3⟩ := hI.len
                      subst g2
                      have hbn : at0 + nd ≤ bn := by omega
                      have hIn := hI.ext (HH.out.2.trans Xn.out)
                      have wz : IntKind.i64.wrap ((at0 : Int) + nd) = (at0 : Int) + nd := IntWalk.i64_in _ ⟨by omega, by omega⟩
                      have r2 : (0 : Int) ≤ (at0 : Int) := by omega
                      have r3 : (at0 : Int) ≤ (at0 : Int) + nd := by omega
                      have r4 : (at0 : Int) + nd ≤ (bc : Int) := by omega
                      have r5 : ((at0 : Int) + nd).toNat = at0 + nd := by omega
                      have r6 : at0 + nd ≤ bc := by omega
                      have r7 : at0 ≤ at0 + nd := by omega
                      have r8 : at0 ≤ bc := by omega
                      have r9 : (at0 : Int) ≤ (bc : Int) := by omega
                      have ra : (0 : Int) ≤ (nd : Int) := by omega
                      have rb : (0 : Int) ≤ (at0 : Int) + nd := by omega
                      clear g1 g3
                      go_wp2
                      rcases hIn.from at0 (by omega) with ⟨b5, o5, haa, hfr⟩ | ⟨z1, z2, z3, z4⟩
                      · have hup := hfr.upto (m := nd) (by omega)
                        subst haa
                        by_cases hcc : bc = at0
                        · have hcc' := hcc.symm
                          subst hcc'
                          rw [if_pos rfl, Nat.sub_self] at hup
                          have re' : at0 + nd - at0 = nd := by omega
                          have ri' : ¬ at0 + nd < at0 := by omega
                          have HLd := Lib.hid (fun w' (x : Ext wn w') => HLd0.out _ _ _ w' (hup.ext x))
                          clear hup hfr hIn hI
                          go_region_held3 (fun w' => w'.cell? ⟨ws.heap.size, 0, Option.none⟩ = some (.int .u8 st.k) ∧ w'.cell? ⟨ws.heap.size, 1, Option.none⟩ = some (.int .u8 st.y) ∧ w'.cell? ⟨ws.heap.size, 2, Option.none⟩ = some (.int .i64 st.a) ∧ w'.cell? ⟨ws.heap.size, 3, Option.none⟩ = some (.int .i64 st.b) ∧ w'.cell? ⟨ws.heap.size, 4, Option.none⟩ = some (.bool st.f)) (first | exact ⟨q0, q1, q2, q3, q4⟩ | exact ⟨p0, p1, p2, p3, p4⟩ | go_keep) (first
                            | (go_at_call 34; (refine (HLd.out _ ?_).mono ?_); (focus (repeat (first | (with_reducible exact Ext.refl _) | (with_reducible apply Ext.drew) | (with_reducible apply Ext.drewN)))); intro e wl hh; obtain ⟨vl, cl, rfl, il, xl⟩ := hh; have Xl : Hid (Ext wn wl) := Lib.hid (Ext.trans (by (repeat (first | (with_reducible exact Ext.refl _) | (with_reducible apply Ext.drew) | (with_reducible apply Ext.drewN)))) xl); have Il := Lib.hid il; have p0 := Xl.out.cell q0; have p1 := Xl.out.cell q1; have p2 := Xl.out.cell q2; have p3 := Xl.out.cell q3; have p4 := Xl.out.cell q4; clear il xl))
                          have htn : (si (sw rows k) j).need.toNat = nd := by rw [HNd.out]; rfl
                          have hjr : j < (sw rows k).length := by have := He2.out; omega
                          have hjr2 := hjr
                          have hbadR := fun hb => ldRow_bad (r := sw rows k) (k := j) hjr (bf := bf.drop at0) (acc := nw) hb
                          have hnextR := fun hb => ldRow_next (r := sw rows k) (k := j) hjr (bf := bf.drop at0) (acc := nw) hb
                          rw [htn, ← Hst.out, List.drop_drop] at hnextR
                          rw [htn, ← Hst.out] at hbadR
                          have hmdl := fun (h : st.lerr ((bf.drop at0).take nd) = 0) => lmade_len h
                          have hmkb := St.make_bd st
                          obtain ⟨er, her⟩ : ∃ er, er = st.lerr ((bf.drop at0).take nd) := ⟨_, rfl⟩
                          obtain ⟨md, hmd⟩ : ∃ md, md = st.lmade ((bf.drop at0).take nd) := ⟨_, rfl⟩
                          rw [← her] at hbadR hnextR hmdl ⊢
                          rw [← hmd] at hnextR hmdl Il
                          have Xs := Lib.hid (Xn.out.trans Xl.out)
                          have HHl := Lib.hid (And.intro (own_ext HH.out.1 Xs.out) (HH.out.2.trans Xs.out))
                          have HBdR := Lib.hid hbadR; have HNxR := Lib.hid hnextR
                          clear hbadR hnextR her hmd htn hjr q0 q1 q2 q3 q4 p0 p1 p2 p3 p4
                          by_cases he : er = 0
                          · have he' : (er != 0) = false := by rw [he]; rfl
                            have hml := hmdl he
                            have hml4 : md.length ≤ 4 := by omega
                            have HNl2 := Lib.hid (show ((nw ++ md).length : Int) = rmake ((sw rows k).take (j + 1)) from by rw [take_succ_si hjr2, rmake_snoc, ← Hst.out, ← HNl.out, List.length_append]; omega)
                            have hnx := HNxR.out he
                            have HNx := Lib.hid (HLR.out.trans hnx)
                            have hsz := HHl.out.2.size
                            have HTk2 := Lib.hid (show ((at0 + nd : Nat) : Int) = rneed ((sw rows k).take (j + 1)) by rw [HTk.out, ← HAt.out]; omega)
                            have hmm : (md.map (Value.int .i64)).length = md.length := List.length_map _
                            clear he hmdl hml hnx hjr2
                            go_wp2_with (at_builtin; go_loud (refine app_own eiInt rfl _ _ rfl w8.heap.size _ nw.length _ rfl HHl.out.1 _ _ _ rfl Il.out (onesI _) ?h1 ?h2 hsz ?_))
                            case h1 => rw [List.length_map]; omega
                            case h2 => rw [List.length_map]; omega
                            intro v' w' hown hbel
                            have HO2 := Lib.hid (show w'.ownsRow w8.heap.size 3 1 v' (nw ++ md).length ((nw ++ md).map (Value.int .i64)) ∧ Ext w8 w' from ⟨by rw [List.length_append, List.map_append]; simpa using hown, Below.trans HHl.out.2 hbel⟩)
                            clear hown hbel
                            go_wp2
                            go_roundw
                            case rel => exact ⟨j + 1, at0 + nd, nw ++ md, by omega, by go_num, by go_num, by rw [List.length_append]; omega, HO2, HTk2, HNl2, HNx⟩
                            case measure => simp [intOf]; omega
                          · have he' : (er != 0) = true := by rw [bne, beq_eq_false_iff_ne.2 he]; rfl
                            have hrow : ldRow (sw rows k) bf [] = (er, []) := HLR.out.trans (HBdR.out he)
                            have hcl : cloads rows = (er, []) := by
                              rw [HCl.out, HE.out, ldRows_bad (by rw [← Hn.out]; exact hlt) (by rw [hrow]; exact he), hrow]
                            have HF := Lib.hid (show ∀ w', Ext W w' → RetLL w (cloads rows).2 (cloads rows).1 (.returned (.tuple #[.slice none 0 0, .int .i64 er])) w' from fun w' x => by
                              rw [hcl]; exact ⟨_, 0, rfl, ISS.nil _ _, XW.out.trans x⟩)
                            clear hrow hcl he hmdl hjr2
                            go_wp2
                            go_ret2
                            exact HF.out _ (X88.out.trans HHl.out.2)
                        · rw [if_neg hcc] at hup
                          have rc : ¬ bc ≤ at0 := by omega
                          have hsl := fun w' => slice_mid b5 o5 bn bc at0 nd (by omega) hcc w'
                          have hsl2 : ∀ w', (Instr.sliceAt 56 (.slice (some ⟨b5, o5, none⟩) bn bc) (some (.int .i64 (at0 : Int))) (some (.int .i64 ((at0 : Int) + (nd : Int)))) none).run Tryd.prog w' = .ok (.slice (some ⟨b5, o5 + at0, none⟩) nd (bc - at0)) w' := fun w' => by
                            rw [run_sliceAt_slice w' 56 _ _ _ _ Tryd.underlying56]; exact hsl w'
                          have rd : ¬ bc - at0 = 0 := by omega
                          have re' : at0 + nd - at0 = nd := by omega
                          have rf : at0 < bc := by omega
                          have rg : ((at0 : Int) + (nd : Int)).toNat ≤ bc := by omega
                          have rh : ¬ bc < at0 + nd := by omega
                          have ri' : ¬ at0 + nd < at0 := by omega
                          have HLd := Lib.hid (fun w' (x : Ext wn w') => HLd0.out _ _ _ w' (hup.ext x))
                          clear hup hfr hIn hI
                          go_region_held3 (fun w' => w'.cell? ⟨ws.heap.size, 0, Option.none⟩ = some (.int .u8 st.k) ∧ w'.cell? ⟨ws.heap.size, 1, Option.none⟩ = some (.int .u8 st.y) ∧ w'.cell? ⟨ws.heap.size, 2, Option.none⟩ = some (.int .i64 st.a) ∧ w'.cell? ⟨ws.heap.size, 3, Option.none⟩ = some (.int .i64 st.b) ∧ w'.cell? ⟨ws.heap.size, 4, Option.none⟩ = some (.bool st.f)) (first | exact ⟨q0, q1, q2, q3, q4⟩ | exact ⟨p0, p1, p2, p3, p4⟩ | go_keep) (first
                            | (go_at_call 34; (refine (HLd.out _ ?_).mono ?_); (focus (repeat (first | (with_reducible exact Ext.refl _) | (with_reducible apply Ext.drew) | (with_reducible apply Ext.drewN)))); intro e wl hh; obtain ⟨vl, cl, rfl, il, xl⟩ := hh; have Xl : Hid (Ext wn wl) := Lib.hid (Ext.trans (by (repeat (first | (with_reducible exact Ext.refl _) | (with_reducible apply Ext.drew) | (with_reducible apply Ext.drewN)))) xl); have Il := Lib.hid il; have p0 := Xl.out.cell q0; have p1 := Xl.out.cell q1; have p2 := Xl.out.cell q2; have p3 := Xl.out.cell q3; have p4 := Xl.out.cell q4; clear il xl))
                          have htn : (si (sw rows k) j).need.toNat = nd := by rw [HNd.out]; rfl
                          have hjr : j < (sw rows k).length := by have := He2.out; omega
                          have hjr2 := hjr
                          have hbadR := fun hb => ldRow_bad (r := sw rows k) (k := j) hjr (bf := bf.drop at0) (acc := nw) hb
                          have hnextR := fun hb => ldRow_next (r := sw rows k) (k := j) hjr (bf := bf.drop at0) (acc := nw) hb
                          rw [htn, ← Hst.out, List.drop_drop] at hnextR
                          rw [htn, ← Hst.out] at hbadR
                          have hmdl := fun (h : st.lerr ((bf.drop at0).take nd) = 0) => lmade_len h
                          have hmkb := St.make_bd st
                          obtain ⟨er, her⟩ : ∃ er, er = st.lerr ((bf.drop at0).take nd) := ⟨_, rfl⟩
                          obtain ⟨md, hmd⟩ : ∃ md, md = st.lmade ((bf.drop at0).take nd) := ⟨_, rfl⟩
                          rw [← her] at hbadR hnextR hmdl ⊢
                          rw [← hmd] at hnextR hmdl Il
                          have Xs := Lib.hid (Xn.out.trans Xl.out)
                          have HHl := Lib.hid (And.intro (own_ext HH.out.1 Xs.out) (HH.out.2.trans Xs.out))
                          have HBdR := Lib.hid hbadR; have HNxR := Lib.hid hnextR
                          clear hbadR hnextR her hmd htn hjr q0 q1 q2 q3 q4 p0 p1 p2 p3 p4 hsl hsl2
                          by_cases he : er = 0
                          · have he' : (er != 0) = false := by rw [he]; rfl
                            have hml := hmdl he
                            have hml4 : md.length ≤ 4 := by omega
                            have HNl2 := Lib.hid (show ((nw ++ md).length : Int) = rmake ((sw rows k).take (j + 1)) from by rw [take_succ_si hjr2, rmake_snoc, ← Hst.out, ← HNl.out, List.length_append]; omega)
                            have hnx := HNxR.out he
                            have HNx := Lib.hid (HLR.out.trans hnx)
                            have hsz := HHl.out.2.size
                            have HTk2 := Lib.hid (show ((at0 + nd : Nat) : Int) = rneed ((sw rows k).take (j + 1)) by rw [HTk.out, ← HAt.out]; omega)
                            have hmm : (md.map (Value.int .i64)).length = md.length := List.length_map _
                            clear he hmdl hml hnx hjr2
                            go_wp2_with (at_builtin; go_loud (refine app_own eiInt rfl _ _ rfl w8.heap.size _ nw.length _ rfl HHl.out.1 _ _ _ rfl Il.out (onesI _) ?g1 ?g2 hsz ?_))
                            case g1 => rw [List.length_map]; omega
                            case g2 => rw [List.length_map]; omega
                            intro v' w' hown hbel
                            have HO2 := Lib.hid (show w'.ownsRow w8.heap.size 3 1 v' (nw ++ md).length ((nw ++ md).map (Value.int .i64)) ∧ Ext w8 w' from ⟨by rw [List.length_append, List.map_append]; simpa using hown, Below.trans HHl.out.2 hbel⟩)
                            clear hown hbel
                            go_wp2
                            go_roundw
                            case rel => exact ⟨j + 1, at0 + nd, nw ++ md, by omega, by go_num, by go_num, by rw [List.length_append]; omega, HO2, HTk2, HNl2, HNx⟩
                            case measure => simp [intOf]; omega
                          · have he' : (er != 0) = true := by rw [bne, beq_eq_false_iff_ne.2 he]; rfl
                            have hrow : ldRow (sw rows k) bf [] = (er, []) := HLR.out.trans (HBdR.out he)
                            have hcl : cloads rows = (er, []) := by
                              rw [HCl.out, HE.out, ldRows_bad (by rw [← Hn.out]; exact hlt) (by rw [hrow]; exact he), hrow]
                            have HF := Lib.hid (show ∀ w', Ext W w' → RetLL w (cloads rows).2 (cloads rows).1 (.returned (.tuple #[.slice none 0 0, .int .i64 er])) w' from fun w' x => by
                              rw [hcl]; exact ⟨_, 0, rfl, ISS.nil _ _, XW.out.trans x⟩)
                            clear hrow hcl he hmdl hjr2
                            go_wp2
                            go_ret2
                            exact HF.out _ (X88.out.trans HHl.out.2)
                      · exfalso
                        have h1 := HBf.out
                        have h2 := rchk_zero (HG.out k hlt)
                        rw [z4, List.length_nil] at h1
                        omega
                    · obtain rfl : m = j := by omega
                      have hE2 := He2.out
                      have hrow : ldRow (sw rows k) bf [] = (0, nw) := HLR.out.trans (ldRow_end (by omega))
                      have hnext := ldRows_next (r := rows) (k := k) (by rw [← Hn.out]; exact hlt) (bf := bf) (acc := acc) (by rw [hrow])
                      rw [hrow] at hnext
                      have HE' := Lib.hid (HE.out.trans hnext)
                      have hnl : k + 1 < n → (nw.length : Int) = rneed (sw rows (k + 1)) := fun h => by
                        have h1 := HNl.out
                        rw [List.take_of_length_le (by omega)] at h1
                        rw [h1, HFt.out k (by omega)]
                      have HNl' := Lib.hid hnl
                      have hiv := (IV.of_own HH.out.1).1
                      obtain ⟨ya, yn, yc, hnf, hnn⟩ := hiv.form
                      subst hnf
                      have HU := Lib.hid (And.intro (HO8.out.later HH.out.2) hiv)
                      have hlen : acc.length ≤ 100000 := by omega
                      clear hE2 hrow hnext hnl hiv hnn
                      go_wp2_with (at_builtin; go_loud (refine app_list rfl _ _ rfl w5 _ acc rfl HU.out.1 _ nw HU.out.2 ws.heap.size rfl rfl hlen ?_))
                      intro v6 w6 hco hiv6
                      have HC := Lib.hid (And.intro hco hiv6)
                      clear hco hiv6
                      go_wp2
                      go_roundw
                      case rel => exact ⟨k + 1, nw, acc ++ [nw], ya, yn, yc, by omega, by go_num, rfl, by simp; omega, Lib.hid HC.out.2, Lib.hid HC.out.1, HE', HNl'⟩
                      case measure => simp [intOf]; omega
                · obtain rfl : n = k := by omega
                  have hcl2 : cloads rows = (0, acc) := by rw [HCl.out, HE.out]; exact ldRows_end (by rw [← Hn.out]; exact Nat.le_refl _)
                  obtain ⟨oa, on, oc, hof, _⟩ := HO.out.form
                  subst hof
                  obtain ⟨cI, hI⟩ := HO.out.iss
                  have HF := Lib.hid (show RetLL w (cloads rows).2 (cloads rows).1 (.returned (.tuple #[.slice oa on oc, .int .i64 0])) wr from by
                    rw [hcl2]; exact ⟨_, cI, rfl, hI, XW.out.trans X8.out⟩)
                  clear hcl2 hI
                  go_wp2
                  go_ret2
                  exact HF.out
end Go.Proofs.YtkolebjpeaigcaaDoor
/- Stitches compared. -/
namespace Go.Proofs.YtkolebjpeaigcaaDoor
set_option linter.unusedVariables false
set_option linter.unusedSimpArgs false
set_option maxRecDepth 8000
open Go Go.RowKit

def St.eqb (s t : St) : Bool := decide (s = t)
theorem St.eqb_fields (s t : St) : St.eqb s t = (s.k == t.k && (s.y == t.y && (s.a == t.a && (s.b == t.b && s.f == t.f)))) := by
  unfold St.eqb
  rw [Bool.eq_iff_iff]
  cases s; cases t
  simp
theorem run_st_equal (s t : St) (w : World) : (Op.equalIn 10000 33 s.val t.val).run Tryd.prog w = .ok (St.eqb s t) w := by
  rw [St.eqb_fields]
  unfold St.val
  rw [run_equalIn_struct w 9999 _ _ _ (by kernel_rfl) (by kernel_rfl)]
  simp [go_sem, part]
  (repeat' split) <;> simp_all
theorem run_st_eql (s t : St) (w : World) : (binOp .eql 33 (.agg #[.int .u8 s.k, .int .u8 s.y, .int .i64 s.a, .int .i64 s.b, .bool s.f]) (.agg #[.int .u8 t.k, .int .u8 t.y, .int .i64 t.a, .int .i64 t.b, .bool t.f])).run Tryd.prog w = .ok (.bool (St.eqb s t)) w := by
  have h := run_st_equal s t w
  unfold St.val at h
  rw [run_eql_struct, h]
  rfl
theorem run_st_neq (s t : St) (w : World) : (binOp .neq 33 (.agg #[.int .u8 s.k, .int .u8 s.y, .int .i64 s.a, .int .i64 s.b, .bool s.f]) (.agg #[.int .u8 t.k, .int .u8 t.y, .int .i64 t.a, .int .i64 t.b, .bool t.f])).run Tryd.prog w = .ok (.bool (!St.eqb s t)) w := by
  have h := run_st_equal s t w
  unfold St.val at h
  rw [run_neq_struct, h]
  rfl

theorem Same1_calls (s t : St) (w : World) : Calls Tryd.prog 56 #[s.val, t.val] w fun e w' => e = .returned (.bool (St.eqb s t)) ∧ Ext w w' := by
  obtain ⟨k1, y1, a1, b1, f1⟩ := s
  obtain ⟨k2, y2, a2, b2, f2⟩ := t
  have hq := fun w => run_st_eql ⟨k1, y1, a1, b1, f1⟩ ⟨k2, y2, a2, b2, f2⟩ w
  generalize St.eqb ⟨k1, y1, a1, b1, f1⟩ ⟨k2, y2, a2, b2, f2⟩ = q at hq ⊢
  dsimp only at hq
  unfold St.val
  have HA := Lib.hid (fun w => B5.new w ⟨k1, y1, a1, b1, f1⟩ 33)
  have HB := Lib.hid (fun w => B5.new w ⟨k2, y2, a2, b2, f2⟩ 33)
  go_enter Tryd.func56, Tryd.ntmps56
  go_wp2
  go_ret
  exact ⟨rfl, ((Ext.refl w).alloc _).alloc _⟩
end Go.Proofs.YtkolebjpeaigcaaDoor
/- charts.same, Same. -/
namespace Go.Proofs.YtkolebjpeaigcaaDoor
set_option linter.unusedVariables false
set_option linter.unusedSimpArgs false
set_option maxRecDepth 8000
open Go Go.RowKit

theorem eqb_true {s t : St} (h : St.eqb s t = true) : s = t := of_decide_eq_true h
theorem eqb_false {s t : St} (h : St.eqb s t = false) : s ≠ t := of_decide_eq_false h

set_option maxHeartbeats 2000000 in
theorem sameS_calls (v1 v2 : Value) (c1 c2 : Nat) (l m : List St) (w : World) (h1 : RS w v1 c1 l) (h2 : RS w v2 c2 m) :
    Calls Tryd.prog 55 #[v1, v2, .func (Fn.func 56) #[] #[]] w fun e w' => e = .returned (.bool (decide (l = m))) ∧ Ext w w' := by
  obtain ⟨ao, n, rfl, hn, hc, hcm, hat⟩ := h1.open
  obtain ⟨ao2, n2, rfl, hn2, hc2, hcm2, hat2⟩ := h2.open
  have hT : n = n2 → (∀ i, i < n → si l i = si m i) → decide (l = m) = true := fun e h => decide_eq_true (si_ext (by omega) (fun i hi => h i (by omega)))
  have hF : (n ≠ n2 ∨ ∃ i, i < n ∧ si l i ≠ si m i) → decide (l = m) = false := fun h => decide_eq_false (fun e => by
    rcases h with h | ⟨i, _, h⟩
    · rw [e] at hn; omega
    · rw [e] at h; exact h rfl)
  generalize decide (l = m) = R at hT hF ⊢
  have HA := Lib.hid hat; have HA2 := Lib.hid hat2; have HT := Lib.hid hT; have HF := Lib.hid hF
  clear hat hat2 hT hF hn hn2 h1 h2
  unfold maxLen at hcm hcm2
  go_enter Tryd.func55, Tryd.ntmps55
  by_cases hl : n = n2
  · subst hl
    go_wp2
    go_loopw [7, 8, 16] (fun _ _ i wr => ∃ k : Nat, k ≤ n ∧ i = .int .i64 k ∧ Hid (Ext w wr) ∧ Hid (∀ i, i < k → si l i = si m i)) (fun _ _ i _ => n - (intOf i).toNat)
    case atStart => exact ⟨0, Nat.zero_le _, rfl, Lib.hid (Ext.refl w), Lib.hid (fun i hi => by omega)⟩
    case round =>
      obtain ⟨k, hk, rfl, Hx, HS⟩ := hrel
      by_cases hlt : k < n
      · obtain ⟨b, o, rfl, a5⟩ := HA.out k hlt
        obtain ⟨b2, o2, rfl, b5⟩ := HA2.out k hlt
        obtain ⟨p0, p1, p2, p3, p4⟩ := a5.ext Hx.out
        have q5 := b5.ext Hx.out
        have hq5 := q5.ext ((Ext.refl wr).alloc (.cells #[.int .u8 (si l k).k, .int .u8 (si l k).y, .int .i64 (si l k).a, .int .i64 (si l k).b, .bool (si l k).f] 33))
        obtain ⟨r0, r1, r2, r3, r4⟩ := hq5
        have hnew := B5.new wr (si l k) 33
        obtain ⟨s0, s1, s2, s3, s4⟩ := hnew.at
        have hcall := fun w => Same1_calls (si l k) (si m k) w
        have hR1 : St.eqb (si l k) (si m k) = false → R = false := fun h => HF.out (.inr ⟨k, hlt, eqb_false h⟩)
        have hR2 : St.eqb (si l k) (si m k) = true → ∀ i, i < k + 1 → si l i = si m i := fun h i hi => by
          by_cases e : i = k
          · rw [e]; exact eqb_true h
          · exact HS.out i (by omega)
        obtain ⟨s, hs⟩ : ∃ s, s = si l k := ⟨_, rfl⟩
        obtain ⟨t, ht⟩ : ∃ t, t = si m k := ⟨_, rfl⟩
        rw [← hs] at p0 p1 p2 p3 p4 hR1 hR2 hcall r0 r1 r2 r3 r4 s0 s1 s2 s3 s4
        rw [← ht] at r0 r1 r2 r3 r4 hR1 hR2 hcall
        unfold St.val at hcall
        simp only [Nat.zero_add] at s0 s1 s2 s3 s4
        generalize St.eqb s t = q at hR1 hR2 hcall
        have HC := Lib.hid hcall; have H1 := Lib.hid hR1; have H2 := Lib.hid hR2
        clear hcall hR1 hR2 hs ht a5 b5 q5 hnew
        go_wp2
        have X1 := Lib.hid (Hx.out.trans ((Ext.refl wr).alloc (.cells #[.int .u8 s.k, .int .u8 s.y, .int .i64 s.a, .int .i64 s.b, .bool s.f] 33)))
        obtain ⟨w1, hw1⟩ : ∃ w1, w1 = wr.alloc (.cells #[.int .u8 s.k, .int .u8 s.y, .int .i64 s.a, .int .i64 s.b, .bool s.f] 33) := ⟨_, rfl⟩
        rw [← hw1] at r0 r1 r2 r3 r4 s0 s1 s2 s3 s4 X1 ⊢
        clear hw1 p0 p1 p2 p3 p4
        go_region_held3 (fun w' => w'.cell? ⟨wr.heap.size, 0, none⟩ = some (.int .u8 s.k) ∧ w'.cell? ⟨wr.heap.size, 1, none⟩ = some (.int .u8 s.y) ∧ w'.cell? ⟨wr.heap.size, 2, none⟩ = some (.int .i64 s.a) ∧ w'.cell? ⟨wr.heap.size, 3, none⟩ = some (.int .i64 s.b) ∧ w'.cell? ⟨wr.heap.size, 4, none⟩ = some (.bool s.f) ∧
          w'.cell? ⟨b2, o2 + k * 5, none⟩ = some (.int .u8 t.k) ∧ w'.cell? ⟨b2, o2 + k * 5 + 1, none⟩ = some (.int .u8 t.y) ∧ w'.cell? ⟨b2, o2 + k * 5 + 2, none⟩ = some (.int .i64 t.a) ∧ w'.cell? ⟨b2, o2 + k * 5 + 3, none⟩ = some (.int .i64 t.b) ∧ w'.cell? ⟨b2, o2 + k * 5 + 4, none⟩ = some (.bool t.f))
          (first | exact ⟨s0, s1, s2, s3, s4, r0, r1, r2, r3, r4⟩ | exact ⟨z0, z1, z2, z3, z4, z5, z6, z7, z8, z9⟩ | go_keep) (first
          | (go_at_call 56; refine (HC.out _).mono ?_; rintro e w2 ⟨rfl, x2⟩; have X2 := Lib.hid (((Ext.refl w1).drewN _).trans x2); have z0 := X2.out.cell s0; have z1 := X2.out.cell s1; have z2 := X2.out.cell s2; have z3 := X2.out.cell s3; have z4 := X2.out.cell s4; have z5 := X2.out.cell r0; have z6 := X2.out.cell r1; have z7 := X2.out.cell r2; have z8 := X2.out.cell r3; have z9 := X2.out.cell r4; clear x2))
        have X3 := Lib.hid (X1.out.trans X2.out)
        cases q
        · have hR := H1.out rfl
          subst hR
          clear H1 H2 HC
          go_wp2
          go_ret
          exact ⟨rfl, X3.out⟩
        · have HS2 := Lib.hid (H2.out rfl)
          clear H1 H2 HC
          go_wp2
          go_roundw
          case rel => exact ⟨k + 1, by omega, by go_num, X3, HS2⟩
          case measure => simp [intOf]; omega
      · obtain rfl : n = k := by omega
        have hR := HT.out trivial HS.out
        subst hR
        go_wp2
        go_ret
        exact ⟨rfl, Hx.out⟩
  · have hR := HF.out (.inl hl)
    subst hR
    have t1 : ¬ ((n : Int) = n2) := by omega
    go_wp2
    go_ret
    exact ⟨rfl, Ext.refl w⟩

theorem SameR_calls (v1 v2 : Value) (c1 c2 : Nat) (l m : List St) (w : World) (h1 : RS w v1 c1 l) (h2 : RS w v2 c2 m) :
    Calls Tryd.prog 54 #[v1, v2] w fun e w' => e = .returned (.bool (decide (l = m))) ∧ Ext w w' := by
  have HC := Lib.hid (sameS_calls v1 v2 c1 c2 l m w h1 h2)
  obtain ⟨ao, n, rfl, q1⟩ := h1.open
  obtain ⟨ao2, n2, rfl, q2⟩ := h2.open
  clear h1 h2 q1 q2
  go_enter Tryd.func54, Tryd.ntmps54
  go_wp2_with fail
  refine HC.out.mono ?_
  rintro e w1 ⟨rfl, x1⟩
  have X1 := Lib.hid x1
  clear x1 HC
  go_wp2
  go_ret
  exact ⟨rfl, X1.out⟩

theorem sw_ext {l m : List (List St)} (hl : l.length = m.length) (h : ∀ i, i < l.length → sw l i = sw m i) : l = m := by
  apply List.ext_getElem hl
  intro i h1 h2
  have := h i h1
  rwa [sw_of_lt h1, sw_of_lt h2] at this
set_option maxHeartbeats 2000000 in
theorem sameR_calls (v1 v2 : Value) (c1 c2 : Nat) (l m : List (List St)) (w : World) (h1 : RR w v1 c1 l) (h2 : RR w v2 c2 m) :
    Calls Tryd.prog 53 #[v1, v2, .func (Fn.func 54) #[] #[]] w fun e w' => e = .returned (.bool (decide (l = m))) ∧ Ext w w' := by
  obtain ⟨ao, n, rfl, hn, hc, hcm, hat⟩ := h1.open
  obtain ⟨ao2, n2, rfl, hn2, hc2, hcm2, hat2⟩ := h2.open
  have hT : n = n2 → (∀ i, i < n → sw l i = sw m i) → decide (l = m) = true := fun e h => decide_eq_true (sw_ext (by omega) (fun i hi => h i (by omega)))
  have hF : (n ≠ n2 ∨ ∃ i, i < n ∧ sw l i ≠ sw m i) → decide (l = m) = false := fun h => decide_eq_false (fun e => by
    rcases h with h | ⟨i, _, h⟩
    · rw [e] at hn; omega
    · rw [e] at h; exact h rfl)
  generalize decide (l = m) = R at hT hF ⊢
  have HA := Lib.hid hat; have HA2 := Lib.hid hat2; have HT := Lib.hid hT; have HF := Lib.hid hF
  clear hat hat2 hT hF hn hn2 h1 h2
  unfold maxLen at hcm hcm2
  go_enter Tryd.func53, Tryd.ntmps53
  by_cases hl : n = n2
  · subst hl
    go_wp2
    go_loopw [7, 8, 16] (fun _ _ i wr => ∃ k : Nat, k ≤ n ∧ i = .int .i64 k ∧ Hid (Ext w wr) ∧ Hid (∀ i, i < k → sw l i = sw m i)) (fun _ _ i _ => n - (intOf i).toNat)
    case atStart => exact ⟨0, Nat.zero_le _, rfl, Lib.hid (Ext.refl w), Lib.hid (fun i hi => by omega)⟩
    case round =>
      obtain ⟨k, hk, rfl, Hx, HS⟩ := hrel
      by_cases hlt : k < n
      · obtain ⟨b, o, a, p, d, rfl, p0, r1⟩ := HA.out k hlt
        obtain ⟨b2, o2, a2, p2, d2, rfl, q0, r2⟩ := HA2.out k hlt
        replace p0 := Hx.out.cell p0
        replace q0 := Hx.out.cell q0
        have hcall := SameR_calls _ _ _ _ _ _ wr (r1.ext Hx.out) (r2.ext Hx.out)
        have hR1 : decide (sw l k = sw m k) = false → R = false := fun h => HF.out (.inr ⟨k, hlt, of_decide_eq_false h⟩)
        have hR2 : decide (sw l k = sw m k) = true → ∀ i, i < k + 1 → sw l i = sw m i := fun h i hi => by
          by_cases e : i = k
          · rw [e]; exact of_decide_eq_true h
          · exact HS.out i (by omega)
        generalize decide (sw l k = sw m k) = q at hR1 hR2 hcall
        have HC := Lib.hid hcall; have H1 := Lib.hid hR1; have H2 := Lib.hid hR2
        clear hcall hR1 hR2 r1 r2
        go_wp2_with fail
        refine HC.out.mono ?_
        rintro e w2 ⟨rfl, x2⟩
        have X3 := Lib.hid (Hx.out.trans x2)
        clear x2
        cases q
        · have hR := H1.out rfl
          subst hR
          clear H1 H2 HC
          go_wp2
          go_ret
          exact ⟨rfl, X3.out⟩
        · have HS2 := Lib.hid (H2.out rfl)
          clear H1 H2 HC
          go_wp2
          go_roundw
          case rel => exact ⟨k + 1, by omega, by go_num, X3, HS2⟩
          case measure => simp [intOf]; omega
      · obtain rfl : n = k := by omega
        have hR := HT.out trivial HS.out
        subst hR
        go_wp2
        go_ret
        exact ⟨rfl, Hx.out⟩
  · have hR := HF.out (.inl hl)
    subst hR
    have t1 : ¬ ((n : Int) = n2) := by omega
    go_wp2
    go_ret
    exact ⟨rfl, Ext.refl w⟩

theorem CSame_calls (v1 v2 : Value) (c1 c2 : Nat) (l m : List (List St)) (w : World) (h1 : RR w v1 c1 l) (h2 : RR w v2 c2 m) :
    Calls Tryd.prog 26 #[.agg #[v1], .agg #[v2]] w fun e w' => e = .returned (.bool (decide (l = m))) ∧ Ext w w' := by
  have HC := Lib.hid (fun w' (x : Ext w w') => sameR_calls v1 v2 c1 c2 l m w' (h1.ext x) (h2.ext x))
  obtain ⟨ao, n, rfl, q1⟩ := h1.open
  obtain ⟨ao2, n2, rfl, q2⟩ := h2.open
  clear h1 h2 q1 q2
  go_enter Tryd.func26, Tryd.ntmps26
  go_wp2_with fail
  refine (HC.out _ (((Ext.refl w).alloc _).alloc _)).mono ?_
  rintro e w1 ⟨rfl, x1⟩
  have X1 := Lib.hid ((((Ext.refl w).alloc _).alloc _).trans x1)
  clear x1 HC
  go_wp2
  go_ret
  exact ⟨rfl, X1.out⟩
end Go.Proofs.YtkolebjpeaigcaaDoor
/- ganseyref13.Differ. -/
namespace Go.Proofs.YtkolebjpeaigcaaDoor
set_option linter.unusedVariables false
set_option linter.unusedSimpArgs false
set_option maxRecDepth 8000
open Go Go.RowKit

def dif (l m : List (List St)) : Int := if l = m then 0 else 1
theorem dif_same (l : List (List St)) : dif l l = 0 := if_pos rfl
set_option maxHeartbeats 4000000 in
theorem Differ_calls (v1 v2 : Value) (c1 c2 : Nat) (l m : List (List St)) (w : World) (h1 : RR w v1 c1 l) (h2 : RR w v2 c2 m) :
    Calls Tryd.prog 18 #[.agg #[v1], .agg #[v2]] w fun e w' => e = .returned (.int .i64 (dif l m)) ∧ Ext w w' := by
  obtain ⟨ao, n, rfl, hn, hc, hcm, hat⟩ := h1.open
  obtain ⟨ao2, n2, rfl, hn2, hc2, hcm2, hat2⟩ := h2.open
  have hT : n = n2 → (∀ i, i < n → sw l i = sw m i) → dif l m = 0 := fun e h => if_pos (sw_ext (by omega) (fun i hi => h i (by omega)))
  have hF : (n ≠ n2 ∨ ∃ i, i < n ∧ sw l i ≠ sw m i) → dif l m = 1 := fun h => if_neg (fun e => by
    rcases h with h | ⟨i, _, h⟩
    · rw [e] at hn; omega
    · rw [e] at h; exact h rfl)
  generalize dif l m = R at hT hF ⊢
  obtain ⟨W, hW⟩ : ∃ W, W = (w.alloc (.cells #[.slice ao n c1] 27)).alloc (.cells #[.slice ao2 n2 c2] 27) := ⟨_, rfl⟩
  have xW : Ext w W := by rw [hW]; exact ((Ext.refl w).alloc _).alloc _
  have hb1 : W.cell? ⟨w.heap.size, 0, none⟩ = some (.slice ao n c1) := by
    rw [hW]; exact ((Ext.refl _).alloc _).cell (by rw [World.cell?_alloc_at (hn := rfl)]; rfl)
  have hb2 : W.cell? ⟨w.heap.size + 1, 0, none⟩ = some (.slice ao2 n2 c2) := by
    rw [hW, World.cell?_alloc_at (hn := by simp)]; rfl
  have HA := Lib.hid hat; have HA2 := Lib.hid hat2; have HT := Lib.hid hT; have HF := Lib.hid hF; have XW := Lib.hid xW
  clear hat hat2 hT hF hn hn2 h1 h2
  unfold maxLen at hcm hcm2
  have HB1 := Lib.hid (fun w' (x : Ext W w') => x.cell hb1); have HB2 := Lib.hid (fun w' (x : Ext W w') => x.cell hb2)
  go_enter Tryd.func18, Tryd.ntmps18
  by_cases hl : n = n2
  · subst hl
    rw [hW] at hb1 hb2
    go_wp2
    rw [← hW]
    clear hb1 hb2 hW
    go_loopw [5, 6] (fun i _ wr => ∃ k : Nat, k ≤ n ∧ i = .int .i64 k ∧ Hid (Ext W wr) ∧ Hid (∀ i, i < k → sw l i = sw m i)) (fun i _ _ => n - (intOf i).toNat)
    case atStart => exact ⟨0, Nat.zero_le _, rfl, Lib.hid (Ext.refl _), Lib.hid (fun i hi => by omega)⟩
    case round =>
      obtain ⟨k, hk, rfl, Hx, HS⟩ := hrel
      have b1 := HB1.out _ Hx.out
      have b2 := HB2.out _ Hx.out
      by_cases hlt : k < n
      · obtain ⟨b, o, a, p, d, rfl, p0, r1⟩ := HA.out k hlt
        obtain ⟨bb, oo, aa, pp, dd, rfl, q0, r2⟩ := HA2.out k hlt
        have P0 := Lib.hid (fun w' (x : Ext W w') => (XW.out.trans x).cell p0); have Q0 := Lib.hid (fun w' (x : Ext W w') => (XW.out.trans x).cell q0)
        replace p0 := (XW.out.trans Hx.out).cell p0
        replace q0 := (XW.out.trans Hx.out).cell q0
        obtain ⟨_, _, e1, e2, e3, e4, e5⟩ := r1.open
        obtain ⟨_, _, f1, f2, f3, f4, f5⟩ := r2.open
        simp only [Value.slice.injEq] at e1 f1
        obtain ⟨rfl, rfl, _⟩ := e1
        obtain ⟨rfl, rfl, _⟩ := f1
        have HE5 := Lib.hid e5; have HF5 := Lib.hid f5
        have t7 : (0 : Int) ≤ (k : Int) := by omega
        have t8 : (k : Int) < n := by omega
        unfold maxLen at e4 f4
        by_cases hpp : p = pp
        · have tq : ((p : Int) != (pp : Int)) = false := by rw [hpp]; simp
          have HR1 := Lib.hid (show (∀ i, i < p → si (sw l k) i = si (sw m k) i) → ∀ i, i < k + 1 → sw l i = sw m i from fun h i hi => by
            by_cases e : i = k
            · rw [e]; exact si_ext (by omega) (fun i hi => h i (by omega))
            · exact HS.out i (by omega))
          have HR2 := Lib.hid (show ∀ i, i < p → si (sw l k) i ≠ si (sw m k) i → R = 1 from fun i hi h => HF.out (.inr ⟨k, hlt, fun e => h (by rw [e])⟩))
          subst hpp
          clear e2 f2 e5 f5 r1 r2
          go_wp2
          go_quiet (fail)
          obtain ⟨wk, hwk⟩ : ∃ wk, wk = wr.drewN nq := ⟨_, rfl⟩
          have Hk := Lib.hid (show Ext W wk by rw [hwk]; exact Hx.out.drewN nq)
          rw [← hwk]
          clear b1 b2 p0 q0 hwk
          go_wp2
          go_loopw [6] (fun i ws => ∃ j : Nat, j ≤ p ∧ i = .int .i64 j ∧ Hid (Ext wk ws) ∧ Hid (∀ i, i < j → si (sw l k) i = si (sw m k) i)) (fun i _ => p - (intOf i).toNat)
          case atStart => exact ⟨0, Nat.zero_le _, rfl, Lib.hid (Ext.refl _), Lib.hid (fun i hi => by omega)⟩
          case round =>
            obtain ⟨j, hj, rfl, Hy, HU⟩ := hrel
            have b1 := HB1.out _ (Hk.out.trans Hy.out)
            have b2 := HB2.out _ (Hk.out.trans Hy.out)
            have p0 := P0.out _ (Hk.out.trans Hy.out)
            have q0 := Q0.out _ (Hk.out.trans Hy.out)
            by_cases hjl : j < p
            · obtain ⟨e6, e7, rfl, e8⟩ := HE5.out j hjl
              obtain ⟨f6, f7, rfl, f8⟩ := HF5.out j hjl
              obtain ⟨s0, s1, s2, s3, s4⟩ := e8.ext (XW.out.trans (Hk.out.trans Hy.out))
              obtain ⟨u0, u1, u2, u3, u4⟩ := f8.ext (XW.out.trans (Hk.out.trans Hy.out))
              have hq := fun w => run_st_neq (si (sw l k) j) (si (sw m k) j) w
              have hR1 : St.eqb (si (sw l k) j) (si (sw m k) j) = false → R = 1 := fun h => HR2.out j hjl (eqb_false h)
              have hR2 : St.eqb (si (sw l k) j) (si (sw m k) j) = true → ∀ i, i < j + 1 → si (sw l k) i = si (sw m k) i := fun h i hi => by
                by_cases e : i = j
                · rw [e]; exact eqb_true h
                · exact HU.out i (by omega)
              obtain ⟨S, hS⟩ : ∃ S, S = si (sw l k) j := ⟨_, rfl⟩
              obtain ⟨T, hT⟩ : ∃ T, T = si (sw m k) j := ⟨_, rfl⟩
              rw [← hS] at s0 s1 s2 s3 s4 hq hR1 hR2
              rw [← hT] at u0 u1 u2 u3 u4 hq hR1 hR2
              generalize St.eqb S T = q at hq hR1 hR2
              have H1 := Lib.hid hR1; have H2 := Lib.hid hR2
              have g1 : (0 : Int) ≤ (j : Int) := by omega
              have g2 : (j : Int) < p := by omega
              clear hR1 hR2 hS hT e8 f8
              go_wp2
              go_quiet (fail)
              clear hq s0 s1 s2 s3 s4 u0 u1 u2 u3 u4 p0 q0 b1 b2
              cases q
              · have hR := H1.out rfl
                subst hR
                clear H1 H2
                go_wp2
                go_ret
                exact ⟨rfl, XW.out.trans (Hk.out.trans (by first | exact Hy.out | exact Hy.out.drewN _))⟩
              · have HU2 := Lib.hid (H2.out rfl)
                clear H1 H2
                go_wp2
                go_roundw
                case rel => exact ⟨j + 1, by omega, by go_num, by first | exact Hy | exact Lib.hid (Hy.out.drewN _), HU2⟩
                case measure => simp [intOf]; omega
            · obtain rfl : p = j := by omega
              have HS2 := Lib.hid (HR1.out HU.out)
              go_wp2
              go_roundw
              case rel => exact ⟨k + 1, by omega, by go_num, Lib.hid (Hk.out.trans Hy.out), HS2⟩
              case measure => simp [intOf]; omega
        · have tq : ((p : Int) != (pp : Int)) = true := by rw [bne, beq_eq_false_iff_ne.2 (by omega)]; rfl
          have hR := HF.out (.inr ⟨k, hlt, fun e => hpp (by rw [e2, f2, e])⟩)
          subst hR
          clear e2 f2 e5 f5 r1 r2 hpp
          go_wp2
          go_quiet (fail)
          go_wp2
          go_ret
          exact ⟨rfl, XW.out.trans (by first | exact Hx.out | exact Hx.out.drewN _)⟩
      · obtain rfl : n = k := by omega
        have hR := HT.out trivial HS.out
        subst hR
        go_wp2
        go_ret
        exact ⟨rfl, XW.out.trans Hx.out⟩
  · have hR := HF.out (.inl hl)
    subst hR
    have t1 : ¬ ((n : Int) = n2) := by omega
    rw [hW] at hb1 hb2
    go_wp2
    go_ret
    exact ⟨rfl, by rw [← hW]; exact XW.out⟩
end Go.Proofs.YtkolebjpeaigcaaDoor
