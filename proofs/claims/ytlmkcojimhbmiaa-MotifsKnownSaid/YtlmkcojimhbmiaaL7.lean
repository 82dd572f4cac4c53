/- Texts of this claim in one file: libraries and walks. -/
import Derived.Deep.RegionHeld3
import Derived.Test.YtlmkcojimhbmiaaL2
import Derived.Test.YtlmkcojimhbmiaaL5
import Derived.Test.YtlmkcojimhbmiaaL6
/- ganseyref13.Loads. -/
namespace Go.Proofs.Ytlmkcojimhbmiaa
set_option linter.unusedVariables false
set_option linter.unusedSimpArgs false
set_option maxRecDepth 8000
open Go Go.RowKit

/-- Lists of numbers and an error are returned. -/
def RetLL (w0 : World) (rows : List (List Int)) (err : Int) (e : Ending) (w' : World) : Prop := ∃ v c, e = .returned (.tuple #[v, .int .i64 err]) ∧ ISS .i64 w' v c rows ∧ Ext w0 w'

theorem slice_mid (b o bn bc at0 nd : Nat) (h : at0 + nd ≤ bc) (hne : ¬ bc = at0) (w : World) : (Instr.slice 55 (.slice (some ⟨b, o, none⟩) bn bc) (some (.int .i64 (at0 : Int))) (some (.int .i64 ((at0 : Int) + (nd : Int)))) none).run Try.prog w = .ok (.slice (some ⟨b, o + at0, none⟩) nd (bc - at0)) w := by
  have hz : ∀ w', (sizeOf (Try.prog.elem 55)).run Try.prog w' = .ok 1 w' := fun w' => by kernel_rfl
  rw [run_slice_lh w 55 _ _ _ Try.underlying55 .i64 .i64 _ _ (by omega) (by omega) (by omega), hz]
  simp only [Result.andThen, sliced]
  rw [if_neg (by simpa using hne)]
  have e : ((at0 : Int) + (nd : Int)).toNat = at0 + nd := by omega
  rw [e]
  simp [Addr.add]
theorem rneed_app' (a b : List St) : rneed (a ++ b) = rneed a + rneed b := by
  induction a with
  | nil => simp [rneed]
  | cons s a ih => rw [List.cons_append, rneed_cons, rneed_cons, ih]; omega
set_option maxHeartbeats 8000000 in
theorem RCLoads_calls (v : Value) (c : Nat) (rows : List (List St)) (w : World) (h : RR w v c rows) (hs : ∀ k, k < rows.length → ∀ i, i < (sw rows k).length → 0 ≤ (si (sw rows k) i).k ∧ 0 ≤ (si (sw rows k) i).y) :
    Calls Try.prog 37 #[.agg #[v]] w (RetLL w (cloads rows).2 (cloads rows).1) := by
  obtain ⟨ao, n, rfl, hn, hc, hcm, hat⟩ := h.open
  unfold maxLen at hcm
  obtain ⟨W, hW⟩ : ∃ W, W = w.alloc (.cells #[.slice ao n c] 24) := ⟨_, rfl⟩
  have xW : Ext w W := by rw [hW]; exact (Ext.refl w).alloc _
  have b0 : W.cell? ⟨w.heap.size, 0, none⟩ = some (.slice ao n c) := by rw [hW, World.cell?_alloc_at (hn := rfl)]; rfl
  have HBx := Lib.hid (fun w' (x : Ext W w') => x.cell b0); have XW := Lib.hid xW
  have hbad : ∀ e w', cerr rows = e → e ≠ 0 → Ext W w' → RetLL w (cloads rows).2 (cloads rows).1 (.returned (.tuple #[.slice none 0 0, .int .i64 e])) w' := fun e w' h1 h2 x => by
    have : cloads rows = (e, []) := by unfold cloads; rw [if_pos (by omega), h1]
    rw [this]; exact ⟨_, 0, rfl, ISS.nil _ _, xW.trans x⟩
  have HBad := Lib.hid hbad
  by_cases h31 : 31 < n
  · have HF := Lib.hid (fun w' x => HBad.out 3 w' (cerr_long (rows := rows) (by omega)) (by decide) x)
    have h31' : (31 : Int) < (n : Int) := by omega
    have HW := Lib.hid hW
    rw [hW] at b0
    clear hn hat h31 h hs hbad xW hW
    go_enter Try.func37, Try.ntmps37
    go_wp2
    rw [← HW.out]
    go_ret2
    exact HF.out _ (Ext.refl _)
  have h31' : ¬ (31 : Int) < (n : Int) := by omega
  by_cases h2 : n % 2 = 0
  · have HF := Lib.hid (fun w' x => HBad.out 1 w' (cerr_even (rows := rows) (by omega) (by omega)) (by decide) x)
    have h2' : ((n : Int) % 2 == 0) = true := by rw [beq_iff_eq]; omega
    have HW := Lib.hid hW
    rw [hW] at b0
    clear hn hat h31 h2 h hs hbad xW hW
    go_enter Try.func37, Try.ntmps37
    go_wp2
    rw [← HW.out]
    go_ret2
    exact HF.out _ (Ext.refl _)
  have h2' : ((n : Int) % 2 == 0) = false := by rw [beq_eq_false_iff_ne]; omega
  have hrow : ∀ k, k < n → (∀ i, i < k → rchk (sw rows i) = 0) → rchk (sw rows k) ≠ 0 → cerr rows = rchk (sw rows k) := fun k hk hg hb => cerr_row (by omega) (by omega) (by omega) hg hb
  have hfit : (∀ i, i < n → rchk (sw rows i) = 0) → ∀ k, k + 1 < n → rneed (sw rows (k + 1)) ≠ rmake (sw rows k) → cerr rows = 14 := fun hg k hk hb => cerr_fit (by omega) (by omega) (fun i hi => hg i (by omega)) (by omega) hb
  have hok : (∀ i, i < n → rchk (sw rows i) = 0) → (∀ k, k + 1 < n → rneed (sw rows (k + 1)) = rmake (sw rows k)) → cerr rows = 0 := fun hg hf => cerr_ok (by omega) (by omega) (fun i hi => hg i (by omega)) (fun k hk => hf k (by omega))
  have hs2 : ∀ k, k < n → ∀ i, i < (sw rows k).length → 0 ≤ (si (sw rows k) i).k ∧ 0 ≤ (si (sw rows k) i).y := fun k hk => hs k (by omega)
  have HA := Lib.hid hat; have HRow := Lib.hid hrow; have HFit := Lib.hid hfit; have HOk := Lib.hid hok; have HS := Lib.hid hs2; have Hn := Lib.hid hn
  have hn31 : n ≤ 31 := by omega
  have hn1 : 1 ≤ n := by omega
  have HW := Lib.hid hW
  rw [hW] at b0
  clear hat hrow hfit hok hn h31 h2 h hs hbad xW hs2 hW
  go_enter Try.func37, Try.ntmps37
  go_wp2
  rw [← HW.out]
  clear b0 HW
  go_loopw [4, 5] (fun i _ wr => ∃ k : Nat, k ≤ n ∧ i = .int .i64 k ∧ Hid (Ext W wr) ∧ Hid (∀ i, i < k → rchk (sw rows i) = 0)) (fun i _ _ => n - (intOf i).toNat)
  case atStart => exact ⟨0, Nat.zero_le _, rfl, Lib.hid (Ext.refl _), Lib.hid (fun i hi => by omega)⟩
  case round =>
    obtain ⟨k, hk, rfl, HX, HG⟩ := hrel
    have b1 := HBx.out _ HX.out
    by_cases hlt : k < n
    · obtain ⟨b, o, a, m, d, rfl, hc0, hr0⟩ := HA.out k hlt
      replace hc0 := (XW.out.trans HX.out).cell hc0
      have hcl := RRow_calls _ _ _ wr (hr0.ext (XW.out.trans HX.out)) (HS.out k hlt)
      have hbd : rchk (sw rows k) ≠ 0 → cerr rows = rchk (sw rows k) := fun hb => HRow.out k hlt HG.out hb
      have hgg : rchk (sw rows k) = 0 → ∀ i, i < k + 1 → rchk (sw rows i) = 0 := fun h i hi => by
        by_cases e : i = k
        · rw [e]; exact h
        · exact HG.out i (by omega)
      generalize rchk (sw rows k) = E at hcl hbd hgg
      have HCl := Lib.hid hcl
      clear hcl hr0
      by_cases hE : E = 0
      · have tq : (E != 0) = false := by rw [hE]; rfl
        have HG2 := Lib.hid (hgg hE)
        clear hbd hgg hE
        go_wp2_with fail
        refine HCl.out.mono ?_
        rintro e w1 ⟨rfl, x1⟩
        have HX2 := Lib.hid (HX.out.trans x1)
        clear x1 hc0 b1 HCl
        go_wp2
        go_roundw
        case rel => exact ⟨k + 1, by omega, by go_num, HX2, HG2⟩
        case measure => simp [intOf]; omega
      · have tq : (E != 0) = true := by rw [bne, beq_eq_false_iff_ne.2 hE]; rfl
        have HF := Lib.hid (fun w' x => HBad.out E w' (hbd hE) hE x)
        clear hbd hgg hE
        go_wp2_with fail
        refine HCl.out.mono ?_
        rintro e w1 ⟨rfl, x1⟩
        have HF2 := Lib.hid (HF.out _ (HX.out.trans x1))
        clear x1 hc0 b1 HCl
        go_wp2
        go_ret2
        exact HF2.out
    · obtain rfl : n = k := by omega
      obtain ⟨wo, rfl⟩ : ∃ wo : World, wo = wr := ⟨_, rfl⟩
      clear hlt hk HRow
      go_wp2
      go_loopw [6] (fun i wr => ∃ k : Nat, k + 1 ≤ n ∧ i = .int .i64 ((k : Int) + 1) ∧ Hid (Ext W wr) ∧ Hid (∀ j, j < k → rneed (sw rows (j + 1)) = rmake (sw rows j))) (fun i _ => n - (intOf i).toNat)
      case atStart => exact ⟨0, by omega, rfl, HX, Lib.hid (fun j hj => by omega)⟩
      case round =>
        obtain ⟨k, hk, rfl, Hy, HF⟩ := hrel
        have b2 := HBx.out _ Hy.out
        by_cases hlt : k + 1 < n
        · obtain ⟨b, o, a, m, d, rfl, hcl, hrs⟩ := HA.out (k + 1) hlt
          obtain ⟨b', o', a', m', d', hbo, hcl', hrs'⟩ := HA.out k (by omega)
          obtain ⟨rfl, rfl⟩ : b = b' ∧ o = o' := by simpa using hbo
          have xwy := XW.out.trans Hy.out
          replace hcl := xwy.cell hcl; replace hcl' := xwy.cell hcl'
          have hg1 := rchk_zero (HG.out (k + 1) hlt)
          have hg2 := rchk_zero (HG.out k (by omega))
          have hN := fun w' (x : Ext wr w') => RRowNeeds_calls _ d (sw rows (k + 1)) w' ((hrs.ext xwy).ext x) (by omega) (HS.out _ hlt)
          have hM := fun w' (x : Ext wr w') => RRowMakes_calls _ d' (sw rows k) w' ((hrs'.ext xwy).ext x) (by omega) (HS.out _ (by omega))
          have hbk := HFit.out HG.out k hlt
          have hnx : rneed (sw rows (k + 1)) = rmake (sw rows k) → ∀ j, j < k + 1 → rneed (sw rows (j + 1)) = rmake (sw rows j) := fun h0 i hi => by
            by_cases e : i = k
            · rw [e]; exact h0
            · exact HF.out i (by omega)
          generalize rneed (sw rows (k + 1)) = A at hN hbk hnx
          generalize rmake (sw rows k) = B at hM hbk hnx
          have HN := Lib.hid hN; have HM := Lib.hid hM; have HBk := Lib.hid hbk; have HNx := Lib.hid hnx
          clear hN hM hbk hnx hg1 hg2 hrs hrs' hbo xwy
          have t1 : (0 : Int) ≤ (k : Int) + 1 := by omega
          have t2 : ((k : Int) + 1).toNat = k + 1 := by omega
          have t3 : (k : Int) + 1 < n := by omega
          have t4 : IntKind.i64.wrap ((k : Int) + 1 - 1) = (k : Int) := by rw [show (k : Int) + 1 - 1 = k by omega]; exact IntWalk.i64_in _ ⟨by omega, by omega⟩
          have t5 : (k : Int) < n := by omega
          have t6 : IntKind.i64.wrap (k : Int) = (k : Int) := IntWalk.i64_in _ ⟨by omega, by omega⟩
          have t7 : (0 : Int) ≤ (k : Int) := by omega
          go_wp2
          go_region_held3 (fun w' => w'.cell? ⟨w.heap.size, 0, Option.none⟩ = some (.slice (some ⟨b, o, Option.none⟩) n c) ∧ w'.cell? ⟨b, o + (k + 1), Option.none⟩ = some (.slice a m d) ∧ w'.cell? ⟨b, o + k, Option.none⟩ = some (.slice a' m' d')) (first | exact ⟨b2, hcl, hcl'⟩ | exact ⟨q2, q0, q1⟩ | exact ⟨p2, p0, p1⟩ | go_keep) (first
            | (go_at_call 28; (refine (HN.out _ ?_).mono ?_); (focus (repeat (first | (with_reducible exact Ext.refl _) | (with_reducible apply Ext.drew) | (with_reducible apply Ext.drewN)))); rintro e w4 ⟨rfl, x4⟩; have X4 : Hid (Ext wr w4) := Lib.hid (Ext.trans (by (repeat (first | (with_reducible exact Ext.refl _) | (with_reducible apply Ext.drew) | (with_reducible apply Ext.drewN)))) x4); have q0 := X4.out.cell hcl; have q1 := X4.out.cell hcl'; have q2 := X4.out.cell b2; clear x4)
            | (go_at_call 52; (refine (HM.out _ ?_).mono ?_); (focus (refine X4.out.trans ?_; (repeat (first | (with_reducible exact Ext.refl _) | (with_reducible apply Ext.drew) | (with_reducible apply Ext.drewN))))); rintro e w5 ⟨rfl, x5⟩; have X5 : Hid (Ext wr w5) := Lib.hid (X4.out.trans (Ext.trans (by (repeat (first | (with_reducible exact Ext.refl _) | (with_reducible apply Ext.drew) | (with_reducible apply Ext.drewN)))) x5)); have p0 := X5.out.cell hcl; have p1 := X5.out.cell hcl'; have p2 := X5.out.cell b2; clear x5))
          have HX := Lib.hid (Hy.out.trans X5.out)
          clear q0 q1 q2 p0 p1 p2 X4 X5 hcl hcl' HN HM t1 t2 t3 t4 t5 t6 t7 b2
          by_cases hq : A = B
          · have hq' : (A != B) = false := by rw [bne, beq_iff_eq.2 hq]; rfl
            have HN2 := Lib.hid (HNx.out hq)
            clear hq HNx HBk
            go_wp2
            go_roundw
            case rel => exact ⟨k + 1, by omega, by go_num, HX, HN2⟩
            case measure => simp [intOf]; omega
          · have hq' : (A != B) = true := by rw [bne, beq_eq_false_iff_ne.2 hq]; rfl
            have HB2 := Lib.hid (HBad.out 14 _ (HBk.out hq) (by decide) HX.out)
            clear hq HNx HBk
            go_wp2
            go_ret2
            exact HB2.out
        · have hnk : n = k + 1 := by omega
          have hce := HOk.out HG.out (fun j hj => HF.out j (by omega))
          have hz := fun i (hi : i < n) => rchk_zero (HG.out i hi)
          have hfitA := fun j (hj : j + 1 < n) => HF.out j (by omega)
          have hz0 := hz 0 (by omega)
          obtain ⟨N, hN⟩ : ∃ N : Nat, rneed (sw rows 0) = N := ⟨(rneed (sw rows 0)).toNat, by have := rneed_bd (sw rows 0); omega⟩
          have hN16 : 1 ≤ N ∧ N ≤ 16 := by omega
          obtain ⟨F, hFd⟩ : ∃ F, F = List.replicate N (1 : Int) := ⟨_, rfl⟩
          have hfst : first rows = F := by unfold first; rw [hN, hFd]; rfl
          have hcl : cloads rows = ldRows (rows.drop 0) F [F] := by unfold cloads; rw [if_neg (by omega), hfst]; rfl
          obtain ⟨b, o, a, m, d, rfl, hc0, hr0⟩ := HA.out 0 (by omega)
          rw [Nat.add_zero] at hc0
          obtain ⟨w5, hw5⟩ : ∃ w5 : World, w5 = wr := ⟨_, rfl⟩
          have X5 := Lib.hid (show Ext W w5 by rw [hw5]; exact Hy.out)
          have HC0 := Lib.hid (fun w' (x : Ext W w') => (XW.out.trans x).cell hc0)
          have hNe := fun w' (x : Ext W w') => RRowNeeds_calls _ d (sw rows 0) w' (hr0.ext (XW.out.trans x)) (by omega) (HS.out 0 (by omega))
          rw [hN] at hNe
          have HNe := Lib.hid hNe; have HCl := Lib.hid hcl; have HZ := Lib.hid hz; have HFt := Lib.hid hfitA; have HN0 := Lib.hid hN; have HN9 := Lib.hid hN; have HFd := Lib.hid hFd
          have tl : ¬ ((k : Int) + 1 < n) := by omega
          have tn : (0 : Int) < n := by omega
          rw [← hw5] at b2 ⊢
          clear hw5 hz hfitA hz0 hN hFd hfst hcl hc0 hr0 hNe hce hnk hlt
          go_wp2
          clear b2 tl
          go_loopw [7, 8] (fun u i wr => ∃ j : Nat, j ≤ N ∧ i = .int .i64 j ∧ Hid (wr.ownsRow w5.heap.size 3 1 u j ((List.replicate j (1 : Int)).map (Value.int .i64)) ∧ Ext w5 wr)) (fun _ i _ => N - (intOf i).toNat)
          case atStart => exact ⟨0, Nat.zero_le _, rfl, Lib.hid ⟨World.ownsRow_nil _ _ _ _, Ext.refl _⟩⟩
          case round =>
            obtain ⟨j, hj, rfl, H⟩ := hrel
            have b2 := HBx.out _ (X5.out.trans H.out.2)
            have c2 := HC0.out _ (X5.out.trans H.out.2)
            have hcall := HNe.out _ (X5.out.trans H.out.2)
            have HCa := Lib.hid hcall
            clear hcall
            go_wp2_with fail
            refine HCa.out.mono ?_
            rintro e w6 ⟨rfl, x6⟩
            have H6 := Lib.hid (And.intro (own_ext H.out.1 x6) (H.out.2.trans x6))
            clear x6 b2 c2 HCa
            by_cases hjl : j < N
            · have hsz := H6.out.2.size
              go_wp2_with (at_builtin; refine app_own eiInt rfl _ _ rfl w5.heap.size _ j _ rfl (H6.out.1.alloc _) _ _ _ rfl (VS.one _ _ _) (one1 _) ?d1 ?d2 ?d3 ?_)
              any_goals (first | omega | (simp; done) | (simp only [List.length_cons, List.length_nil]; omega) | (simp; omega))
              intro v' w' hown hbel
              have HO := Lib.hid (show w'.ownsRow w5.heap.size 3 1 v' (j + 1) ((List.replicate (j + 1) (1 : Int)).map (Value.int .i64)) ∧ Ext w5 w' from ⟨by rw [rep_snoc, List.map_replicate]; exact hown, Below.trans (H6.out.2.alloc _) hbel⟩)
              clear hown hbel
              go_wp2
              go_roundw
              case rel => exact ⟨j + 1, by omega, by go_num, HO⟩
              case measure => simp [intOf]; omega
            · obtain rfl : N = j := by omega
              have hiv := IV.of_own H6.out.1
              rw [← HFd.out] at hiv
              obtain ⟨na, nn, nc, hnf, hnn⟩ := hiv.1.form
              subst hnf
              have hoi := OI.one H6.out.2 hiv.1
              have hiv2 := hiv.1.ext ((Ext.refl w6).alloc (.cells #[.slice na nn nc] 55))
              obtain ⟨w7, hw7⟩ : ∃ w7, w7 = w6.alloc (.cells #[.slice na nn nc] 55) := ⟨_, rfl⟩
              have X7 := Lib.hid (show Ext w5 w7 by rw [hw7]; exact H6.out.2.alloc _)
              rw [← hw7] at hoi hiv2
              have HOI := Lib.hid hoi; have HIV := Lib.hid hiv2; have HW7 := Lib.hid hw7
              clear hiv hoi hiv2 hnn hw7 hjl H H6
              go_wp2
              rw [← HW7.out]
              clear HC0 HNe HF HN0 hN16
              go_loopw [7, 9, 10, 11, 12, 13, 14, 15, 16, 17] (fun nv ov i _ _ _ _ _ _ _ wr => ∃ (k : Nat) (bf : List Int) (acc : List (List Int)) (aa : Option Addr) (bn bc : Nat), k ≤ n ∧ i = .int .i64 k ∧ nv = .slice aa bn bc ∧ acc.length = k + 1 ∧ Hid (IV wr (.slice aa bn bc) bf) ∧ Hid (OI w5 wr ov acc) ∧ Hid (ldRows (rows.drop 0) F [F] = ldRows (rows.drop k) bf acc) ∧ Hid (k < n → (bf.length : Int) = rneed (sw rows k))) (fun _ _ i _ _ _ _ _ _ _ _ => n - (intOf i).toNat)
              case atStart => exact ⟨0, F, [F], na, nn, nc, by omega, rfl, rfl, rfl, HIV, HOI, Lib.hid rfl, Lib.hid (fun _ => by rw [HN9.out, HFd.out]; simp)⟩
              case round =>
                obtain ⟨k, bf, acc, aa, bn, bc, hk, rfl, rfl, hacl, HV, HO, HE, HB⟩ := hrel
                have X8 := Lib.hid (show Ext W wr from X5.out.trans HO.out.1)
                have b2 := HBx.out _ X8.out
                by_cases hlt : k < n
                · obtain ⟨b', o', a, m, d, hbo, hc0, hr0⟩ := HA.out k hlt
                  obtain ⟨rfl, rfl⟩ : b = b' ∧ o = o' := by simpa using hbo
                  have HC0 := Lib.hid (fun w' (x : Ext W w') => (XW.out.trans x).cell hc0)
                  obtain ⟨_, _, e1, e2, e3, e4, e5⟩ := hr0.open
                  simp only [Value.slice.injEq] at e1
                  obtain ⟨rfl, rfl, _⟩ := e1
                  have hz := HZ.out k hlt
                  have hbf := HB.out hlt
                  have hm16 : m ≤ 16 := by omega
                  obtain ⟨w8, hw8⟩ : ∃ w8 : World, w8 = wr := ⟨_, rfl⟩
                  have HV8 := Lib.hid (show IV w8 (.slice aa bn bc) bf by rw [hw8]; exact HV.out)
                  have HO8 := Lib.hid (show OI w5 w8 _ acc by rw [hw8]; exact HO.out)
                  have X88 := Lib.hid (show Ext W w8 by rw [hw8]; exact X8.out)
                  have HE5 := Lib.hid e5; have HBf := Lib.hid hbf; have He2 := Lib.hid e2
                  have HSt := Lib.hid (HS.out k hlt)
                  rw [← hw8] at b2 ⊢
                  clear hw8 hbo hc0 hr0 e2 e5 hz hbf HV HO X8 HB
                  go_wp2
                  go_loopw [11, 12, 13, 14, 15, 16, 17] (fun at' nx i _ _ _ _ ws => ∃ (j at0 : Nat) (nw : List Int), j ≤ m ∧ i = .int .i64 j ∧ at' = .int .i64 at0 ∧ nw.length ≤ 4 * j ∧ Hid (ws.ownsRow w8.heap.size 3 1 nx nw.length (nw.map (Value.int .i64)) ∧ Ext w8 ws) ∧ Hid ((at0 : Int) = rneed ((sw rows k).take j)) ∧ Hid ((nw.length : Int) = rmake ((sw rows k).take j)) ∧ Hid (ldRow (sw rows k) bf [] = ldRow ((sw rows k).drop j) (bf.drop at0) nw)) (fun _ _ i _ _ _ _ _ => m - (intOf i).toNat)
                  case atStart => exact ⟨0, 0, [], by omega, rfl, rfl, by simp, Lib.hid ⟨World.ownsRow_nil _ _ _ _, Ext.refl _⟩, Lib.hid (by simp [rneed]), Lib.hid (by simp [rmake]), Lib.hid rfl⟩
                  case round =>
                    obtain ⟨j, at0, nw, hj, rfl, rfl, hnw, HH, HAt, HNl, HLR⟩ := hrel
                    obtain ⟨ws, hws⟩ : ∃ ws : World, ws = wr := ⟨_, rfl⟩
                    rw [← hws] at HH ⊢
                    clear hws
                    have b2 := HBx.out _ (X88.out.trans HH.out.2)
                    have c2 := HC0.out _ (X88.out.trans HH.out.2)
                    by_cases hjl : j < m
                    · obtain ⟨bb, oo, rfl, e8⟩ := HE5.out j hjl
                      obtain ⟨u0, u1, u2, u3, u4⟩ := e8.ext (XW.out.trans (X88.out.trans HH.out.2))
                      have hrn : rneed (sw rows k) = rneed ((sw rows k).take (j + 1)) + rneed ((sw rows k).drop (j + 1)) := by rw [← rneed_app', List.take_append_drop]
                      have htk : rneed ((sw rows k).take (j + 1)) = rneed ((sw rows k).take j) + (si (sw rows k) j).need := by rw [take_succ_si (by have := He2.out; omega), rneed_snoc]
                      have hdb := (rneed_bd ((sw rows k).drop (j + 1))).1
                      have hnb := St.need_bd (si (sw rows k) j)
                      obtain ⟨nd, hnd⟩ : ∃ nd : Nat, (si (sw rows k) j).need = nd := ⟨((si (sw rows k) j).need).toNat, by omega⟩
                      have hat := HAt.out
                      have hbf := HBf.out
                      have hfit : at0 + nd ≤ bf.length := by omega
                      have hs0 := HSt.out j (by have := He2.out; omega)
                      have hne := fun w' => RNeeds_calls (si (sw rows k) j) w' hs0
                      have hld := fun v c xs w' (h : IS .i64 w' v c xs) => RLoads_calls (si (sw rows k) j) v c xs w' h hs0
                      rw [hnd] at hne htk hnb
                      obtain ⟨st, hst⟩ : ∃ st, st = si (sw rows k) j := ⟨_, rfl⟩
                      rw [← hst] at u0 u1 u2 u3 u4 hne hld
                      have hk5 := (B5.new ws st 67)
                      have HK5 := Lib.hid hk5
                      have HNe := Lib.hid hne; have HLd0 := Lib.hid hld; have Hst := Lib.hid hst; have HNd := Lib.hid hnd; have HTk := Lib.hid htk
                      have hat16 : at0 ≤ 16 := by have := (rchk_zero (HG.out k hlt)); omega
                      unfold St.val at HNe HLd0
                      clear hrn htk hdb hat hbf hne hld hst hk5 e8 hnd hs0
                      go_wp2_with fail
                      refine (HNe.out _).mono ?_
                      rintro e wn ⟨rfl, xn⟩
                      have q5 : At5 wn ws.heap.size 0 st := (HK5.out.ext xn).at
                      have Xn := Lib.hid (((Ext.refl ws).alloc _).trans xn)
                      clear xn u0 u1 u2 u3 u4 HNe HK5 b2 c2
                      obtain ⟨q0, q1, q2, q3, q4⟩ := q5
                      simp only [Nat.zero_add] at q1 q2 q3 q4
                      obtain ⟨cI, hI⟩ := HV8.out.is
                      obtain ⟨g1, g2, g3⟩ := hI.len
                      subst g2
                      have hbn : at0 + nd ≤ bn := by omega
                      have hIn := hI.ext (HH.out.2.trans Xn.out)
                      have wz : IntKind.i64.wrap ((at0 : Int) + nd) = (at0 : Int) + nd := IntWalk.i64_in _ ⟨by omega, by omega⟩
                      have r2 : (0 : Int) ≤ (at0 : Int) := by omega
                      have r3 : (at0 : Int) ≤ (at0 : Int) + nd := by omega
                      have r4 : (at0 : Int) + nd ≤ (bc : Int) := by omega
                      have r5 : ((at0 : Int) + nd).toNat = at0 + nd := by omega
                      have r6 : at0 + nd ≤ bc := by omega
                      have r7 : at0 ≤ at0 + nd := by omega
                      have r8 : at0 ≤ bc := by omega
                      have r9 : (at0 : Int) ≤ (bc : Int) := by omega
                      have ra : (0 : Int) ≤ (nd : Int) := by omega
                      have rb : (0 : Int) ≤ (at0 : Int) + nd := by omega
                      clear g1 g3
                      go_wp2
                      rcases hIn.from at0 (by omega) with ⟨b5, o5, haa, hfr⟩ | ⟨z1, z2, z3, z4⟩
                      · have hup := hfr.upto (m := nd) (by omega)
                        subst haa
                        by_cases hcc : bc = at0
                        · have hcc' := hcc.symm
                          subst hcc'
                          rw [if_pos rfl, Nat.sub_self] at hup
                          have re' : at0 + nd - at0 = nd := by omega
                          have ri' : ¬ at0 + nd < at0 := by omega
                          have HLd := Lib.hid (fun w' (x : Ext wn w') => HLd0.out _ _ _ w' (hup.ext x))
                          clear hup hfr hIn hI
                          go_region_held3 (fun w' => w'.cell? ⟨ws.heap.size, 0, Option.none⟩ = some (.int .u8 st.k) ∧ w'.cell? ⟨ws.heap.size, 1, Option.none⟩ = some (.int .u8 st.y) ∧ w'.cell? ⟨ws.heap.size, 2, Option.none⟩ = some (.int .i64 st.a) ∧ w'.cell? ⟨ws.heap.size, 3, Option.none⟩ = some (.int .i64 st.b) ∧ w'.cell? ⟨ws.heap.size, 4, Option.none⟩ = some (.bool st.f)) (first | exact ⟨q0, q1, q2, q3, q4⟩ | exact ⟨p0, p1, p2, p3, p4⟩ | go_keep) (first
                            | (go_at_call 53; (refine (HLd.out _ ?_).mono ?_); (focus (repeat (first | (with_reducible exact Ext.refl _) | (with_reducible apply Ext.drew) | (with_reducible apply Ext.drewN)))); intro e wl hh; obtain ⟨vl, cl, rfl, il, xl⟩ := hh; have Xl : Hid (Ext wn wl) := Lib.hid (Ext.trans (by (repeat (first | (with_reducible exact Ext.refl _) | (with_reducible apply Ext.drew) | (with_reducible apply Ext.drewN)))) xl); have Il := Lib.hid il; have p0 := Xl.out.cell q0; have p1 := Xl.out.cell q1; have p2 := Xl.out.cell q2; have p3 := Xl.out.cell q3; have p4 := Xl.out.cell q4; clear il xl))
                          have htn : (si (sw rows k) j).need.toNat = nd := by rw [HNd.out]; rfl
                          have hjr : j < (sw rows k).length := by have := He2.out; omega
                          have hjr2 := hjr
                          have hbadR := fun hb => ldRow_bad (r := sw rows k) (k := j) hjr (bf := bf.drop at0) (acc := nw) hb
                          have hnextR := fun hb => ldRow_next (r := sw rows k) (k := j) hjr (bf := bf.drop at0) (acc := nw) hb
                          rw [htn, ← Hst.out, List.drop_drop] at hnextR
                          rw [htn, ← Hst.out] at hbadR
                          have hmdl := fun (h : st.lerr ((bf.drop at0).take nd) = 0) => lmade_len h
                          have hmkb := St.make_bd st
                          obtain ⟨er, her⟩ : ∃ er, er = st.lerr ((bf.drop at0).take nd) := ⟨_, rfl⟩
                          obtain ⟨md, hmd⟩ : ∃ md, md = st.lmade ((bf.drop at0).take nd) := ⟨_, rfl⟩
                          rw [← her] at hbadR hnextR hmdl ⊢
                          rw [← hmd] at hnextR hmdl Il
                          have Xs := Lib.hid (Xn.out.trans Xl.out)
                          have HHl := Lib.hid (And.intro (own_ext HH.out.1 Xs.out) (HH.out.2.trans Xs.out))
                          have HBdR := Lib.hid hbadR; have HNxR := Lib.hid hnextR
                          clear hbadR hnextR her hmd htn hjr q0 q1 q2 q3 q4 p0 p1 p2 p3 p4
                          by_cases he : er = 0
                          · have he' : (er != 0) = false := by rw [he]; rfl
                            have hml := hmdl he
                            have hml4 : md.length ≤ 4 := by omega
                            have HNl2 := Lib.hid (show ((nw ++ md).length : Int) = rmake ((sw rows k).take (j + 1)) from by rw [take_succ_si hjr2, rmake_snoc, ← Hst.out, ← HNl.out, List.length_append]; omega)
                            have hnx := HNxR.out he
                            have HNx := Lib.hid (HLR.out.trans hnx)
                            have hsz := HHl.out.2.size
                            have HTk2 := Lib.hid (show ((at0 + nd : Nat) : Int) = rneed ((sw rows k).take (j + 1)) by rw [HTk.out, ← HAt.out]; omega)
                            have hmm : (md.map (Value.int .i64)).length = md.length := List.length_map _
                            clear he hmdl hml hnx hjr2
                            go_wp2_with (at_builtin; go_loud (refine app_own eiInt rfl _ _ rfl w8.heap.size _ nw.length _ rfl HHl.out.1 _ _ _ rfl Il.out (onesI _) ?h1 ?h2 hsz ?_))
                            case h1 => rw [List.length_map]; omega
                            case h2 => rw [List.length_map]; omega
                            intro v' w' hown hbel
                            have HO2 := Lib.hid (show w'.ownsRow w8.heap.size 3 1 v' (nw ++ md).length ((nw ++ md).map (Value.int .i64)) ∧ Ext w8 w' from ⟨by rw [List.length_append, List.map_append]; simpa using hown, Below.trans HHl.out.2 hbel⟩)
                            clear hown hbel
                            go_wp2
                            go_roundw
                            case rel => exact ⟨j + 1, at0 + nd, nw ++ md, by omega, by go_num, by go_num, by rw [List.length_append]; omega, HO2, HTk2, HNl2, HNx⟩
                            case measure => simp [intOf]; omega
                          · have he' : (er != 0) = true := by rw [bne, beq_eq_false_iff_ne.2 he]; rfl
                            have hrow : ldRow (sw rows k) bf [] = (er, []) := HLR.out.trans (HBdR.out he)
                            have hcl : cloads rows = (er, []) := by
                              rw [HCl.out, HE.out, ldRows_bad (by rw [← Hn.out]; exact hlt) (by rw [hrow]; exact he), hrow]
                            have HF := Lib.hid (show ∀ w', Ext W w' → RetLL w (cloads rows).2 (cloads rows).1 (.returned (.tuple #[.slice none 0 0, .int .i64 er])) w' from fun w' x => by
                              rw [hcl]; exact ⟨_, 0, rfl, ISS.nil _ _, XW.out.trans x⟩)
                            clear hrow hcl he hmdl hjr2
                            go_wp2
                            go_ret2
                            exact HF.out _ (X88.out.trans HHl.out.2)
                        · rw [if_neg hcc] at hup
                          have rc : ¬ bc ≤ at0 := by omega
                          have hsl := fun w' => slice_mid b5 o5 bn bc at0 nd (by omega) hcc w'
                          have hsl2 : ∀ w', (Instr.sliceAt 55 (.slice (some ⟨b5, o5, none⟩) bn bc) (some (.int .i64 (at0 : Int))) (some (.int .i64 ((at0 : Int) + (nd : Int)))) none).run Try.prog w' = .ok (.slice (some ⟨b5, o5 + at0, none⟩) nd (bc - at0)) w' := fun w' => by
                            rw [run_sliceAt_slice w' 55 _ _ _ _ Try.underlying55]; exact hsl w'
                          have rd : ¬ bc - at0 = 0 := by omega
                          have re' : at0 + nd - at0 = nd := by omega
                          have rf : at0 < bc := by omega
                          have rg : ((at0 : Int) + (nd : Int)).toNat ≤ bc := by omega
                          have rh : ¬ bc < at0 + nd := by omega
                          have ri' : ¬ at0 + nd < at0 := by omega
                          have HLd := Lib.hid (fun w' (x : Ext wn w') => HLd0.out _ _ _ w' (hup.ext x))
                          clear hup hfr hIn hI
                          go_region_held3 (fun w' => w'.cell? ⟨ws.heap.size, 0, Option.none⟩ = some (.int .u8 st.k) ∧ w'.cell? ⟨ws.heap.size, 1, Option.none⟩ = some (.int .u8 st.y) ∧ w'.cell? ⟨ws.heap.size, 2, Option.none⟩ = some (.int .i64 st.a) ∧ w'.cell? ⟨ws.heap.size, 3, Option.none⟩ = some (.int .i64 st.b) ∧ w'.cell? ⟨ws.heap.size, 4, Option.none⟩ = some (.bool st.f)) (first | exact ⟨q0, q1, q2, q3, q4⟩ | exact ⟨p0, p1, p2, p3, p4⟩ | go_keep) (first
                            | (go_at_call 53; (refine (HLd.out _ ?_).mono ?_); (focus (repeat (first | (with_reducible exact Ext.refl _) | (with_reducible apply Ext.drew) | (with_reducible apply Ext.drewN)))); intro e wl hh; obtain ⟨vl, cl, rfl, il, xl⟩ := hh; have Xl : Hid (Ext wn wl) := Lib.hid (Ext.trans (by (repeat (first | (with_reducible exact Ext.refl _) | (with_reducible apply Ext.drew) | (with_reducible apply Ext.drewN)))) xl); have Il := Lib.hid il; have p0 := Xl.out.cell q0; have p1 := Xl.out.cell q1; have p2 := Xl.out.cell q2; have p3 := Xl.out.cell q3; have p4 := Xl.out.cell q4; clear il xl))
                          have htn : (si (sw rows k) j).need.toNat = nd := by rw [HNd.out]; rfl
                          have hjr : j < (sw rows k).length := by have := He2.out; omega
                          have hjr2 := hjr
                          have hbadR := fun hb => ldRow_bad (r := sw rows k) (k := j) hjr (bf := bf.drop at0) (acc := nw) hb
                          have hnextR := fun hb => ldRow_next (r := sw rows k) (k := j) hjr (bf := bf.drop at0) (acc := nw) hb
                          rw [htn, ← Hst.out, List.drop_drop] at hnextR
                          rw [htn, ← Hst.out] at hbadR
                          have hmdl := fun (h : st.lerr ((bf.drop at0).take nd) = 0) => lmade_len h
                          have hmkb := St.make_bd st
                          obtain ⟨er, her⟩ : ∃ er, er = st.lerr ((bf.drop at0).take nd) := ⟨_, rfl⟩
                          obtain ⟨md, hmd⟩ : ∃ md, md = st.lmade ((bf.drop at0).take nd) := ⟨_, rfl⟩
                          rw [← her] at hbadR hnextR hmdl ⊢
                          rw [← hmd] at hnextR hmdl Il
                          have Xs := Lib.hid (Xn.out.trans Xl.out)
                          have HHl := Lib.hid (And.intro (own_ext HH.out.1 Xs.out) (HH.out.2.trans Xs.out))
                          have HBdR := Lib.hid hbadR; have HNxR := Lib.hid hnextR
                          clear hbadR hnextR her hmd htn hjr q0 q1 q2 q3 q4 p0 p1 p2 p3 p4 hsl hsl2
                          by_cases he : er = 0
                          · have he' : (er != 0) = false := by rw [he]; rfl
                            have hml := hmdl he
                            have hml4 : md.length ≤ 4 := by omega
                            have HNl2 := Lib.hid (show ((nw ++ md).length : Int) = rmake ((sw rows k).take (j + 1)) from by rw [take_succ_si hjr2, rmake_snoc, ← Hst.out, ← HNl.out, List.length_append]; omega)
                            have hnx := HNxR.out he
                            have HNx := Lib.hid (HLR.out.trans hnx)
                            have hsz := HHl.out.2.size
                            have HTk2 := Lib.hid (show ((at0 + nd : Nat) : Int) = rneed ((sw rows k).take (j + 1)) by rw [HTk.out, ← HAt.out]; omega)
                            have hmm : (md.map (Value.int .i64)).length = md.length := List.length_map _
                            clear he hmdl hml hnx hjr2
                            go_wp2_with (at_builtin; go_loud (refine app_own eiInt rfl _ _ rfl w8.heap.size _ nw.length _ rfl HHl.out.1 _ _ _ rfl Il.out (onesI _) ?g1 ?g2 hsz ?_))
                            case g1 => rw [List.length_map]; omega
                            case g2 => rw [List.length_map]; omega
                            intro v' w' hown hbel
                            have HO2 := Lib.hid (show w'.ownsRow w8.heap.size 3 1 v' (nw ++ md).length ((nw ++ md).map (Value.int .i64)) ∧ Ext w8 w' from ⟨by rw [List.length_append, List.map_append]; simpa using hown, Below.trans HHl.out.2 hbel⟩)
                            clear hown hbel
                            go_wp2
                            go_roundw
                            case rel => exact ⟨j + 1, at0 + nd, nw ++ md, by omega, by go_num, by go_num, by rw [List.length_append]; omega, HO2, HTk2, HNl2, HNx⟩
                            case measure => simp [intOf]; omega
                          · have he' : (er != 0) = true := by rw [bne, beq_eq_false_iff_ne.2 he]; rfl
                            have hrow : ldRow (sw rows k) bf [] = (er, []) := HLR.out.trans (HBdR.out he)
                            have hcl : cloads rows = (er, []) := by
                              rw [HCl.out, HE.out, ldRows_bad (by rw [← Hn.out]; exact hlt) (by rw [hrow]; exact he), hrow]
                            have HF := Lib.hid (show ∀ w', Ext W w' → RetLL w (cloads rows).2 (cloads rows).1 (.returned (.tuple #[.slice none 0 0, .int .i64 er])) w' from fun w' x => by
                              rw [hcl]; exact ⟨_, 0, rfl, ISS.nil _ _, XW.out.trans x⟩)
                            clear hrow hcl he hmdl hjr2
                            go_wp2
                            go_ret2
                            exact HF.out _ (X88.out.trans HHl.out.2)
                      · exfalso
                        have h1 := HBf.out
                        have h2 := rchk_zero (HG.out k hlt)
                        rw [z4, List.length_nil] at h1
                        omega
                    · obtain rfl : m = j := by omega
                      have hE2 := He2.out
                      have hrow : ldRow (sw rows k) bf [] = (0, nw) := HLR.out.trans (ldRow_end (by omega))
                      have hnext := ldRows_next (r := rows) (k := k) (by rw [← Hn.out]; exact hlt) (bf := bf) (acc := acc) (by rw [hrow])
                      rw [hrow] at hnext
                      have HE' := Lib.hid (HE.out.trans hnext)
                      have hnl : k + 1 < n → (nw.length : Int) = rneed (sw rows (k + 1)) := fun h => by
                        have h1 := HNl.out
                        rw [List.take_of_length_le (by omega)] at h1
                        rw [h1, HFt.out k (by omega)]
                      have HNl' := Lib.hid hnl
                      have hiv := (IV.of_own HH.out.1).1
                      obtain ⟨ya, yn, yc, hnf, hnn⟩ := hiv.form
                      subst hnf
                      have HU := Lib.hid (And.intro (HO8.out.later HH.out.2) hiv)
                      have hlen : acc.length ≤ 100000 := by omega
                      clear hE2 hrow hnext hnl hiv hnn
                      go_wp2_with (at_builtin; go_loud (refine app_list rfl _ _ rfl w5 _ acc rfl HU.out.1 _ nw HU.out.2 ws.heap.size rfl rfl hlen ?_))
                      intro v6 w6 hco hiv6
                      have HC := Lib.hid (And.intro hco hiv6)
                      clear hco hiv6
                      go_wp2
                      go_roundw
                      case rel => exact ⟨k + 1, nw, acc ++ [nw], ya, yn, yc, by omega, by go_num, rfl, by simp; omega, Lib.hid HC.out.2, Lib.hid HC.out.1, HE', HNl'⟩
                      case measure => simp [intOf]; omega
                · obtain rfl : n = k := by omega
                  have hcl2 : cloads rows = (0, acc) := by rw [HCl.out, HE.out]; exact ldRows_end (by rw [← Hn.out]; exact Nat.le_refl _)
                  obtain ⟨oa, on, oc, hof, _⟩ := HO.out.form
                  subst hof
                  obtain ⟨cI, hI⟩ := HO.out.iss
                  have HF := Lib.hid (show RetLL w (cloads rows).2 (cloads rows).1 (.returned (.tuple #[.slice oa on oc, .int .i64 0])) wr from by
                    rw [hcl2]; exact ⟨_, cI, rfl, hI, XW.out.trans X8.out⟩)
                  clear hcl2 hI
                  go_wp2
                  go_ret2
                  exact HF.out
end Go.Proofs.Ytlmkcojimhbmiaa
/- ganseyref12.Loads: its list lies in a block of numbers. -/
namespace Go.Proofs.Ytlmkcojimhbmiaa
set_option linter.unusedVariables false
set_option linter.unusedSimpArgs false
set_option maxRecDepth 8000
open Go Go.RowKit

def RetLV (w0 : World) (xs : List Int) (err : Int) (e : Ending) (w' : World) : Prop := ∃ v, e = .returned (.tuple #[v, .int .i64 err]) ∧ IV w' v xs ∧ Ext w0 w'
theorem IV.lit1 (w : World) (x : Int) : IV (w.alloc (.cells #[.int .i64 x] 3)) (.slice (some ⟨w.heap.size, 0, Option.none⟩) 1 1) [x] :=
  .inr ⟨_, 1, fun _ => .int .i64 x, rfl, Nat.le_refl _, by unfold maxLen; omega, World.rowIs_alloc w #[.int .i64 x] 3 (fun _ => .int .i64 x) (fun i hi => by simp at hi; subst hi; rfl), fun i hi => by
    obtain rfl : i = 0 := by simpa using hi
    rfl⟩
set_option maxHeartbeats 4000000 in
theorem RLoads2_calls (s : St) (v : Value) (c : Nat) (xs : List Int) (w : World) (h : IS .i64 w v c xs) (hs : 0 ≤ s.k ∧ 0 ≤ s.y) : Calls Try.prog 53 #[s.val, v] w (RetLV w (s.lmade xs) (s.lerr xs)) := by
  have HB := Lib.hid (fun w' (x : Ext (w.alloc (.cells #[.int .u8 s.k, .int .u8 s.y, .int .i64 s.a, .int .i64 s.b, .bool s.f] 67)) w') => ((B5.new w s 67).ext x).at)
  have HV := Lib.hid (fun w' => Valid_calls s w' hs)
  have HNe := Lib.hid (fun w' => RNeeds_calls s w' hs)
  have HMa := Lib.hid (fun w' => RMakes_calls s w' hs)
  have hv : s.vld = if s.chk = 0 then 1 else 0 := rfl
  have hcc := St.chk_cases s
  have hnb := St.need_bd s
  have hmb := St.make_bd s
  have hn45 : s.chk = 0 → (s.k = 4 ∨ s.k = 5) → s.need = 2 := fun h h4 => by unfold St.need; rw [if_neg (by omega), if_neg (by omega), if_pos h4]
  have hn67 : s.chk = 0 → (s.k = 6 ∨ s.k = 7) → s.need = 1 := fun h h4 => by unfold St.need; rw [if_neg (by omega), if_neg (by omega), if_neg (by omega), if_neg (by omega)]
  have hm1 : s.chk = 0 → s.k ≠ 8 → s.make = 1 := fun h h8 => by unfold St.make; rw [if_neg (by omega), if_neg h8]
  have e1 : s.chk ≠ 0 → s.lerr xs = 1 := lerr_chk
  have e5 : s.chk = 0 → (xs.length : Int) ≠ s.need → s.lerr xs = 5 := lerr_len
  have eb : s.chk = 0 → (xs.length : Int) = s.need → ∀ i, i < xs.length → (gi xs i < 1 ∨ 3 < gi xs i) → s.lerr xs = 1 := fun a b i c d => lerr_bad a b c d
  have ei : s.chk = 0 → (xs.length : Int) = s.need → (∀ i, i < xs.length → 1 ≤ gi xs i ∧ gi xs i ≤ 3) → s.lerr xs = if s.k = 4 ∨ s.k = 5 then (if 4 < gi xs 0 + gi xs 1 then 9 else 0) else if s.k = 6 ∧ gi xs 0 = 3 then 9 else 0 := lerr_in
  have hbad : ∀ w' e, Ext w w' → s.lerr xs = e → e ≠ 0 → RetLV w (s.lmade xs) (s.lerr xs) (.returned (.tuple #[.slice none 0 0, .int .i64 e])) w' := fun w' e x h1 h2 => by
    rw [lmade_err (by omega), h1]; exact ⟨_, rfl, .inl ⟨rfl, rfl⟩, x⟩
  have hgood : ∀ w' u ys, Ext w w' → s.lerr xs = 0 → (if s.k = 6 then [gi xs 0 + 1] else if s.k = 7 then [gi xs 0] else List.replicate s.make.toNat 1) = ys → IV w' u ys → RetLV w (s.lmade xs) (s.lerr xs) (.returned (.tuple #[u, .int .i64 0])) w' := fun w' u ys x h1 h2 h3 => by
    have : s.lmade xs = ys := by unfold St.lmade; rw [if_neg (by omega)]; exact h2
    rw [this, h1]; exact ⟨u, rfl, h3, x⟩
  obtain ⟨ao, n, c', rfl, hn, rfl, hIS⟩ := h.out
  rw [← hn] at e5 eb ei
  obtain ⟨k, y, a, b, f⟩ := s
  unfold St.val at *
  simp only [] at HB HV HNe HMa hs hn45 hn67 hm1 ei hgood ⊢
  generalize St.need ⟨k, y, a, b, f⟩ = N at *
  generalize St.make ⟨k, y, a, b, f⟩ = M at *
  generalize St.vld ⟨k, y, a, b, f⟩ = V at *
  generalize St.chk ⟨k, y, a, b, f⟩ = C at *
  generalize St.lerr ⟨k, y, a, b, f⟩ xs = E at *
  generalize St.lmade ⟨k, y, a, b, f⟩ xs = L at *
  obtain ⟨W, hW⟩ : ∃ W, W = w.alloc (.cells #[.int .u8 k, .int .u8 y, .int .i64 a, .int .i64 b, .bool f] 67) := ⟨_, rfl⟩
  have xW : Ext w W := by rw [hW]; exact (Ext.refl w).alloc _
  rw [← hW] at HB
  have XW := Lib.hid xW; have HW := Lib.hid hW; have HI := Lib.hid (hIS.ext xW); have HBad := Lib.hid hbad; have HGood := Lib.hid hgood
  by_cases hC : C = 0
  · rw [if_pos hC] at hv
    subst hv
    by_cases hnN : (n : Int) = N
    · have HEb := Lib.hid (fun i hi hb => eb hC hnN i hi hb); have HEi := Lib.hid (fun hg => ei hC hnN hg); have H45 := Lib.hid (hn45 hC); have H67 := Lib.hid (hn67 hC); have HM1 := Lib.hid (hm1 hC)
      have tn : ((n : Int) != N) = false := by rw [hnN]; simp
      have hn4 : n ≤ 4 := by omega
      have HNn := Lib.hid hnN
      clear hcc e1 e5 eb ei hbad hgood hn45 hn67 hm1 hC h hIS hn xW hnN hs
      have hb0 := HB.out W (Ext.refl W)
      rw [hW] at hb0
      clear hW
      go_enter Try.func53, Try.ntmps53
      obtain ⟨c0, c1, c2, c3, c4⟩ := hb0
      simp only [Nat.zero_add] at c0 c1 c2 c3 c4
      go_wp2_with fail
      rw [← HW.out]
      refine (HV.out _).mono ?_
      rintro e w1 ⟨rfl, x1⟩
      have hb1 := HB.out _ x1
      have X1 := Lib.hid x1
      obtain ⟨c0, c1, c2, c3, c4⟩ := hb1
      simp only [Nat.zero_add] at c0 c1 c2 c3 c4
      clear x1 HV
      go_wp2_with fail
      refine (HNe.out _).mono ?_
      rintro e w2 ⟨rfl, x2⟩
      have X2 := Lib.hid (X1.out.trans x2)
      clear x2 HNe c0 c1 c2 c3 c4
      go_wp2
      go_loopw [6] (fun i wr => ∃ j : Nat, j ≤ n ∧ i = .int .i64 j ∧ Hid (Ext W wr) ∧ Hid (∀ i, i < j → 1 ≤ gi xs i ∧ gi xs i ≤ 3)) (fun i _ => n - (intOf i).toNat)
      case atStart => exact ⟨0, Nat.zero_le _, rfl, X2, Lib.hid (fun i hi => by omega)⟩
      case round =>
        obtain ⟨j, hj, rfl, HX, HG⟩ := hrel
        by_cases hlt : j < n
        · obtain ⟨bb, oo, rfl, hc⟩ := HI.out.at hlt
          replace hc := HX.out.cell (hc j hlt)
          have heb := HEb.out j hlt
          have HG2 := Lib.hid (show (1 ≤ gi xs j ∧ gi xs j ≤ 3) → ∀ i, i < j + 1 → 1 ≤ gi xs i ∧ gi xs i ≤ 3 from fun hh i hi => by
            by_cases e : i = j
            · rw [e]; exact hh
            · exact HG.out i (by omega))
          generalize gi xs j = z at *
          by_cases z1 : z = 1
          · have HG3 := Lib.hid (HG2.out (by omega))
            clear heb
            subst z1
            go_wp2
            go_roundw
            case rel => exact ⟨j + 1, by omega, by go_num, HX, HG3⟩
            case measure => simp [intOf]; omega
          by_cases z2 : z = 2
          · have HG3 := Lib.hid (HG2.out (by omega))
            clear heb z1
            subst z2
            go_wp2
            go_roundw
            case rel => exact ⟨j + 1, by omega, by go_num, HX, HG3⟩
            case measure => simp [intOf]; omega
          by_cases z3 : z = 3
          · have HG3 := Lib.hid (HG2.out (by omega))
            clear heb z1 z2
            subst z3
            go_wp2
            go_roundw
            case rel => exact ⟨j + 1, by omega, by go_num, HX, HG3⟩
            case measure => simp [intOf]; omega
          · have HF := Lib.hid (HBad.out wr 1 (XW.out.trans HX.out) (heb (by omega)) (by decide))
            have t1 : (z != 1) = true := by rw [bne, beq_eq_false_iff_ne.2 z1]; rfl
            have t2 : (z != 2) = true := by rw [bne, beq_eq_false_iff_ne.2 z2]; rfl
            have t3 : (z != 3) = true := by rw [bne, beq_eq_false_iff_ne.2 z3]; rfl
            clear heb z1 z2 z3
            go_wp2
            go_ret2
            exact HF.out
        · obtain rfl : n = j := by omega
          have hE := HEi.out HG.out
          have hb3 := HB.out _ HX.out
          obtain ⟨c0, c1, c2, c3, c4⟩ := hb3
          simp only [Nat.zero_add] at c0 c1 c2 c3 c4
          have tl : ¬ ((n : Int) < n) := by omega
          have hNn := HNn.out
          by_cases k45 : k = 4 ∨ k = 5
          · rw [if_pos k45] at hE
            have h2 := H45.out k45
            have hM := HM1.out (by omega)
            have hn2 : n = 2 := by omega
            subst hn2
            obtain ⟨bb, oo, rfl, hc⟩ := HI.out.at (show 0 < 2 by omega)
            have i0 := HX.out.cell (hc 0 (by omega))
            have i1 := HX.out.cell (hc 1 (by omega))
            rw [Nat.add_zero] at i0
            have g0 := HG.out 0 (by omega)
            have g1 := HG.out 1 (by omega)
            generalize gi xs 0 = x0 at *
            generalize gi xs 1 = x1 at *
            have wx : IntKind.i64.wrap (x0 + x1) = x0 + x1 := IntWalk.i64_in _ ⟨by omega, by omega⟩
            by_cases h4 : 4 < x0 + x1
            · rw [if_pos h4] at hE
              have HF := Lib.hid (fun w' x => HBad.out w' 9 x hE (by decide))
              clear hE h2 hM hNn hc
              rcases k45 with rfl | rfl
              all_goals
                go_wp2
                go_quiet (fail)
                go_wp2
                go_ret2
                exact HF.out _ (XW.out.trans (by first | exact HX.out.drewN _ | exact HX.out))
            · rw [if_neg h4] at hE
              clear h2 hNn hc
              rcases k45 with rfl | rfl
              all_goals
                have HE := Lib.hid hE; have HM := Lib.hid hM
                clear hE hM
                go_wp2
                go_quiet (fail)
                obtain ⟨wk, hwk⟩ : ∃ wk, wk = wr.drewN nq := ⟨_, rfl⟩
                have hxk : Ext W wk := by rw [hwk]; exact HX.out.drewN nq
                rw [← hwk]
                have hlit := IV.lit1 wk (1)
                have HF := Lib.hid (HGood.out (wk.alloc (.cells #[.int .i64 1] 3)) _ _ ((XW.out.trans hxk).alloc _) HE.out (by rw [if_neg (by omega), if_neg (by omega), HM.out]; rfl) hlit)
                clear hlit hxk hwk c0 c1 c2 c3 c4 i0 i1
                go_wp2
                go_ret2
                exact HF.out
          rw [if_neg k45] at hE
          have b4 : (k == 4) = false := beq_eq_false_iff_ne.2 (by omega)
          have b5 : (k == 5) = false := beq_eq_false_iff_ne.2 (by omega)
          clear k45
          by_cases k6 : k = 6
          · have h1 := H67.out (.inl k6)
            have hn1 : n = 1 := by omega
            subst hn1; subst k6
            obtain ⟨bb, oo, rfl, hc⟩ := HI.out.at (show 0 < 1 by omega)
            have i0 := HX.out.cell (hc 0 (by omega))
            rw [Nat.add_zero] at i0
            have g0 := HG.out 0 (by omega)
            generalize gi xs 0 = x0 at *
            by_cases h3 : x0 = 3
            · rw [if_pos ⟨rfl, h3⟩] at hE
              have HF := Lib.hid (HBad.out wr 9 (XW.out.trans HX.out) hE (by decide))
              clear hE h1 hNn hc
              subst h3
              go_wp2
              go_ret2
              exact HF.out
            · rw [if_neg (fun h => h3 h.2)] at hE
              have b3 : (x0 == 3) = false := beq_eq_false_iff_ne.2 h3
              have wx : IntKind.i64.wrap (x0 + 1) = x0 + 1 := IntWalk.i64_in _ ⟨by omega, by omega⟩
              clear h1 hNn hc h3
              have hlit := IV.lit1 wr (x0 + 1)
              have HF := Lib.hid (HGood.out (wr.alloc (.cells #[.int .i64 (x0 + 1)] 3)) _ _ ((XW.out.trans HX.out).alloc _) hE (by rw [if_pos rfl]) hlit)
              clear hlit hE
              go_wp2
              go_ret2
              exact HF.out
          have b6 : (k == 6) = false := beq_eq_false_iff_ne.2 k6
          rw [if_neg (fun h => k6 h.1)] at hE
          by_cases k7 : k = 7
          · have h1 := H67.out (.inr k7)
            have hn1 : n = 1 := by omega
            subst hn1; subst k7
            obtain ⟨bb, oo, rfl, hc⟩ := HI.out.at (show 0 < 1 by omega)
            have i0 := HX.out.cell (hc 0 (by omega))
            rw [Nat.add_zero] at i0
            generalize gi xs 0 = x0 at *
            clear h1 hNn hc
            have hlit := IV.lit1 wr (x0)
            have HF := Lib.hid (HGood.out (wr.alloc (.cells #[.int .i64 (x0)] 3)) _ _ ((XW.out.trans HX.out).alloc _) hE (by rw [if_neg (by omega), if_pos rfl]) hlit)
            clear hlit hE
            go_wp2
            go_ret2
            exact HF.out
          have b7 : (k == 7) = false := beq_eq_false_iff_ne.2 k7
          have HE := Lib.hid hE
          have hys : (if k = 6 then [gi xs 0 + 1] else if k = 7 then [gi xs 0] else List.replicate M.toNat 1) = List.replicate M.toNat 1 := by rw [if_neg k6, if_neg k7]
          have HYs := Lib.hid hys
          obtain ⟨m, hm⟩ : ∃ m : Nat, M = m := ⟨M.toNat, by omega⟩
          have hm4 : m ≤ 4 := by omega
          have HM2 := Lib.hid hm
          rw [hm] at HMa
          clear hE hys k6 k7 hNn hm
          obtain ⟨wk, hwk⟩ : ∃ wk : World, wk = wr := ⟨_, rfl⟩
          have HXk := Lib.hid (show Ext W wk by rw [hwk]; exact HX.out)
          rw [← hwk] at c0 c1 c2 c3 c4 ⊢
          clear hwk HX
          go_wp2
          go_loopw [7, 8] (fun l i wr => ∃ j : Nat, j ≤ m ∧ i = .int .i64 j ∧ Hid (wr.ownsRow W.heap.size 3 1 l j ((List.replicate j (1 : Int)).map (Value.int .i64)) ∧ Ext W wr)) (fun _ i _ => m - (intOf i).toNat)
          case atStart => exact ⟨0, Nat.zero_le _, rfl, Lib.hid ⟨World.ownsRow_nil _ _ _ _, HXk.out⟩⟩
          case round =>
            obtain ⟨j, hj, rfl, H⟩ := hrel
            have hb5 := HB.out _ H.out.2
            obtain ⟨c0, c1, c2, c3, c4⟩ := hb5
            simp only [Nat.zero_add] at c0 c1 c2 c3 c4
            go_wp2_with fail
            refine (HMa.out _).mono ?_
            rintro e w4 ⟨rfl, x4⟩
            have H4 := Lib.hid (And.intro (own_ext H.out.1 x4) (H.out.2.trans x4))
            clear x4 c0 c1 c2 c3 c4
            by_cases hjl : j < m
            · have hsz := H4.out.2.size
              go_wp2_with (at_builtin; refine app_own eiInt rfl _ _ rfl W.heap.size _ j _ rfl (H4.out.1.alloc _) _ _ _ rfl (VS.one _ _ _) (one1 _) ?d1 ?d2 ?d3 ?_)
              any_goals (first | omega | (simp; done) | (simp only [List.length_cons, List.length_nil]; omega) | (simp; omega))
              intro v' w' hown hbel
              have HO := Lib.hid (show w'.ownsRow W.heap.size 3 1 v' (j + 1) ((List.replicate (j + 1) (1 : Int)).map (Value.int .i64)) ∧ Ext W w' from ⟨by rw [rep_snoc, List.map_replicate]; exact hown, Below.trans (H4.out.2.alloc _) hbel⟩)
              clear hown hbel
              go_wp2
              go_roundw
              case rel => exact ⟨j + 1, by omega, by go_num, HO⟩
              case measure => simp [intOf]; omega
            · obtain rfl : m = j := by omega
              have hI := (IV.of_own H4.out.1).1
              have HF := Lib.hid (HGood.out _ _ _ (XW.out.trans H4.out.2) HE.out (by rw [HYs.out, HM2.out, Int.toNat_natCast]) hI)
              clear hI
              go_wp2
              go_ret2
              exact HF.out
    · have HF := Lib.hid (fun w' x => HBad.out w' 5 x (e5 hC hnN) (by decide))
      have tn : ((n : Int) != N) = true := by rw [bne, beq_eq_false_iff_ne.2 hnN]; rfl
      clear hcc e1 e5 eb ei hbad hgood hn45 hn67 hm1 hC h hIS hn xW hnN hs
      have hb0 := HB.out W (Ext.refl W)
      rw [hW] at hb0
      clear hW
      go_enter Try.func53, Try.ntmps53
      obtain ⟨c0, c1, c2, c3, c4⟩ := hb0
      simp only [Nat.zero_add] at c0 c1 c2 c3 c4
      go_wp2_with fail
      rw [← HW.out]
      refine (HV.out _).mono ?_
      rintro e w1 ⟨rfl, x1⟩
      have hb1 := HB.out _ x1
      have X1 := Lib.hid x1
      obtain ⟨c0, c1, c2, c3, c4⟩ := hb1
      simp only [Nat.zero_add] at c0 c1 c2 c3 c4
      clear x1 HV
      go_wp2_with fail
      refine (HNe.out _).mono ?_
      rintro e w2 ⟨rfl, x2⟩
      have HF2 := Lib.hid (HF.out _ (XW.out.trans (X1.out.trans x2)))
      clear x2 HNe c0 c1 c2 c3 c4
      go_wp2
      go_ret2
      exact HF2.out
  · have HF := Lib.hid (fun w' x => HBad.out w' 1 x (e1 hC) (by decide))
    rw [if_neg hC] at hv
    subst hv
    clear hcc e1 e5 eb ei hbad hgood hn45 hn67 hm1 hC h hIS hn xW hs
    have hb0 := HB.out W (Ext.refl W)
    rw [hW] at hb0
    clear hW
    go_enter Try.func53, Try.ntmps53
    obtain ⟨c0, c1, c2, c3, c4⟩ := hb0
    simp only [Nat.zero_add] at c0 c1 c2 c3 c4
    go_wp2_with fail
    rw [← HW.out]
    refine (HV.out _).mono ?_
    rintro e w1 ⟨rfl, x1⟩
    have HF2 := Lib.hid (HF.out _ (XW.out.trans x1))
    clear x1 HV
    go_wp2
    go_ret2
    exact HF2.out
end Go.Proofs.Ytlmkcojimhbmiaa
