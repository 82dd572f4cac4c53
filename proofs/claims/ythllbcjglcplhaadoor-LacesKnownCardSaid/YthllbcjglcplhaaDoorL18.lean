/- Texts of this claim in one file: libraries and walks. -/
import Derived.Deep.RegionHeld3
import Derived.Test.YthllbcjglcplhaaDoorL1
import Derived.Test.YthllbcjglcplhaaDoorL14
import Derived.Test.YthllbcjglcplhaaDoorL15
import Derived.Test.YthllbcjglcplhaaDoorL17
/- ganseyref13.Loads. -/
namespace Go.Proofs.YthllbcjglcplhaaDoor
set_option linter.unusedVariables false
set_option linter.unusedSimpArgs false
set_option maxRecDepth 8000
open Go Go.RowKit

/-- Lists of numbers and an error are returned. -/
def RetLL (w0 : World) (rows : List (List Int)) (err : Int) (e : Ending) (w' : World) : Prop := ∃ v c, e = .returned (.tuple #[v, .int .i64 err]) ∧ ISS .i64 w' v c rows ∧ Ext w0 w'

theorem slice_mid (b o bn bc at0 nd : Nat) (h : at0 + nd ≤ bc) (hne : ¬ bc = at0) (w : World) : (Instr.slice 68 (.slice (some ⟨b, o, none⟩) bn bc) (some (.int .i64 (at0 : Int))) (some (.int .i64 ((at0 : Int) + (nd : Int)))) none).run Tryd.prog w = .ok (.slice (some ⟨b, o + at0, none⟩) nd (bc - at0)) w := by
  have hz : ∀ w', (sizeOf (Tryd.prog.elem 68)).run Tryd.prog w' = .ok 1 w' := fun w' => by kernel_rfl
  rw [run_slice_lh w 68 _ _ _ Tryd.underlying68 .i64 .i64 _ _ (by omega) (by omega) (by omega), hz]
  simp only [Result.andThen, sliced]
  rw [if_neg (by simpa using hne)]
  have e : ((at0 : Int) + (nd : Int)).toNat = at0 + nd := by omega
  rw [e]
  simp [Addr.add]
theorem rneed_app' (a b : List St) : rneed (a ++ b) = rneed a + rneed b := by
  induction a with
  | nil => simp [rneed]
  | cons s a ih => rw [List.cons_append, rneed_cons, rneed_cons, ih]; omega
set_option maxHeartbeats 8000000 in
theorem RCLoads_calls (v : Value) (c : Nat) (rows : List (List St)) (w : World) (h : RR w v c rows) (hs : ∀ k, k < rows.length → ∀ i, i < (sw rows k).length → 0 ≤ (si (sw rows k) i).k ∧ 0 ≤ (si (sw rows k) i).y) :
    Calls Tryd.prog 19 #[.agg #[v]] w (RetLL w (cloads rows).2 (cloads rows).1) := by
  obtain ⟨ao, n, rfl, hn, hc, hcm, hat⟩ := h.open
  unfold maxLen at hcm
  obtain ⟨W, hW⟩ : ∃ W, W = w.alloc (.cells #[.slice ao n c] 28) := ⟨_, rfl⟩
  have xW : Ext w W := by rw [hW]; exact (Ext.refl w).alloc _
  have b0 : W.cell? ⟨w.heap.size, 0, none⟩ = some (.slice ao n c) := by rw [hW, World.cell?_alloc_at (hn := rfl)]; rfl
  have HBx := Lib.hid (fun w' (x : Ext W w') => x.cell b0); have XW := Lib.hid xW
  have hbad : ∀ e w', cerr rows = e → e ≠ 0 → Ext W w' → RetLL w (cloads rows).2 (cloads rows).1 (.returned (.tuple #[.slice none 0 0, .int .i64 e])) w' := fun e w' h1 h2 x => by
    have : cloads rows = (e, []) := by unfold cloads; rw [if_pos (by omega), h1]
    rw [this]; exact ⟨_, 0, rfl, ISS.nil _ _, xW.trans x⟩
  have HBad := Lib.hid hbad
  by_cases h31 : 31 < n
  · have HF := Lib.hid (fun w' x => HBad.out 3 w' (cerr_long (rows := rows) (by omega)) (by decide) x)
    have h31' : (31 : Int) < (n : Int) := by omega
    have HW := Lib.hid hW
    rw [hW] at b0
    clear hn hat h31 h hs hbad xW hW
    go_enter Tryd.func19, Tryd.ntmps19
    go_wp2
    rw [← HW.out]
    go_ret2
    exact HF.out _ (Ext.refl _)
  have h31' : ¬ (31 : Int) < (n : Int) := by omega
  by_cases h2 : n % 2 = 0
  · have HF := Lib.hid (fun w' x => HBad.out 1 w' (cerr_even (rows := rows) (by omega) (by omega)) (by decide) x)
    have h2' : ((n : Int) % 2 == 0) = true := by rw [beq_iff_eq]; omega
    have HW := Lib.hid hW
    rw [hW] at b0
    clear hn hat h31 h2 h hs hbad xW hW
    go_enter Tryd.func19, Tryd.ntmps19
    go_wp2
    rw [← HW.out]
    go_ret2
    exact HF.out _ (Ext.refl _)
  have h2' : ((n : Int) % 2 == 0) = false := by rw [beq_eq_false_iff_ne]; omega
  have hrow : ∀ k, k < n → (∀ i, i < k → rchk (sw rows i) = 0) → rchk (sw rows k) ≠ 0 → cerr rows = rchk (sw rows k) := fun k hk hg hb => cerr_row (by omega) (by omega) (by omega) hg hb
  have hfit : (∀ i, i < n → rchk (sw rows i) = 0) → ∀ k, k + 1 < n → rneed (sw rows (k + 1)) ≠ rmake (sw rows k) → cerr rows = 14 := fun hg k hk hb => cerr_fit (by omega) (by omega) (fun i hi => hg i (by omega)) (by omega) hb
  have hok : (∀ i, i < n → rchk (sw rows i) = 0) → (∀ k, k + 1 < n → rneed (sw rows (k + 1)) = rmake (sw rows k)) → cerr rows = 0 := fun hg hf => cerr_ok (by omega) (by omega) (fun i hi => hg i (by omega)) (fun k hk => hf k (by omega))
  have hs2 : ∀ k, k < n → ∀ i, i < (sw rows k).length → 0 ≤ (si (sw rows k) i).k ∧ 0 ≤ (si (sw rows k) i).y := fun k hk => hs k (by omega)
  have HA := Lib.hid hat; have HRow := Lib.hid hrow; have HFit := Lib.hid hfit; have HOk := Lib.hid hok; have HS := Lib.hid hs2; have Hn := Lib.hid hn
  have hn31 : n ≤ 31 := by omega
  have hn1 : 1 ≤ n := by omega
  have HW := Lib.hid hW
  rw [hW] at b0
  clear hat hrow hfit hok hn h31 h2 h hs hbad xW hs2 hW
  go_enter Tryd.func19, Tryd.ntmps19
  go_wp2
  rw [← HW.out]
  clear b0 HW
  go_loopw [4, 5] (fun i _ wr => ∃ k : Nat, k ≤ n ∧ i = .int .i64 k ∧ Hid (Ext W wr) ∧ Hid (∀ i, i < k → rchk (sw rows i) = 0)) (fun i _ _ => n - (intOf i).toNat)
  case atStart => exact ⟨0, Nat.zero_le _, rfl, Lib.hid (Ext.refl _), Lib.hid (fun i hi => by omega)⟩
  case round =>
    obtain ⟨k, hk, rfl, HX, HG⟩ := hrel
    have b1 := HBx.out _ HX.out
    by_cases hlt : k < n
    · obtain ⟨b, o, a, m, d, rfl, hc0, hr0⟩ := HA.out k hlt
      replace hc0 := (XW.out.trans HX.out).cell hc0
      have hcl := RRow_calls _ _ _ wr (hr0.ext (XW.out.trans HX.out)) (HS.out k hlt)
      have hbd : rchk (sw rows k) ≠ 0 → cerr rows = rchk (sw rows k) := fun hb => HRow.out k hlt HG.out hb
      have hgg : rchk (sw rows k) = 0 → ∀ i, i < k + 1 → rchk (sw rows i) = 0 := fun h i hi => by
        by_cases e : i = k
        · rw [e]; exact h
        · exact HG.out i (by omega)
      generalize rchk (sw rows k) = E at hcl hbd hgg
      have HCl := Lib.hid hcl
      clear hcl hr0
      by_cases hE : E = 0
      · have tq : (E != 0) = false := by rw [hE]; rfl
        have HG2 := Lib.hid (hgg hE)
        clear hbd hgg hE
        go_wp2_with fail
        refine HCl.out.mono ?_
        rintro e w1 ⟨rfl, x1⟩
        have HX2 := Lib.hid (HX.out.trans x1)
        clear x1 hc0 b1 HCl
        go_wp2
        go_roundw
        case rel => exact ⟨k + 1, by omega, by go_num, HX2, HG2⟩
        case measure => simp [intOf]; omega
      · have tq : (E != 0) = true := by rw [bne, beq_eq_false_iff_ne.2 hE]; rfl
        have HF := Lib.hid (fun w' x => HBad.out E w' (hbd hE) hE x)
        clear hbd hgg hE
        go_wp2_with fail
        refine HCl.out.mono ?_
        rintro e w1 ⟨rfl, x1⟩
        have HF2 := Lib.hid (HF.out _ (HX.out.trans x1))
        clear x1 hc0 b1 HCl
        go_wp2
        go_ret2
        exact HF2.out
    · obtain rfl : n = k := by omega
      obtain ⟨wo, rfl⟩ : ∃ wo : World, wo = wr := ⟨_, rfl⟩
      clear hlt hk HRow
      go_wp2
      go_loopw [6] (fun i wr => ∃ k : Nat, k + 1 ≤ n ∧ i = .int .i64 ((k : Int) + 1) ∧ Hid (Ext W wr) ∧ Hid (∀ j, j < k → rneed (sw rows (j + 1)) = rmake (sw rows j))) (fun i _ => n - (intOf i).toNat)
      case atStart => exact ⟨0, by omega, rfl, HX, Lib.hid (fun j hj => by omega)⟩
      case round =>
        obtain ⟨k, hk, rfl, Hy, HF⟩ := hrel
        have b2 := HBx.out _ Hy.out
        by_cases hlt : k + 1 < n
        · obtain ⟨b, o, a, m, d, rfl, hcl, hrs⟩ := HA.out (k + 1) hlt
          obtain ⟨b', o', a', m', d', hbo, hcl', hrs'⟩ := HA.out k (by omega)
          obtain ⟨rfl, rfl⟩ : b = b' ∧ o = o' := by simpa using hbo
          have xwy := XW.out.trans Hy.out
          replace hcl := xwy.cell hcl; replace hcl' := xwy.cell hcl'
          have hg1 := rchk_zero (HG.out (k + 1) hlt)
          have hg2 := rchk_zero (HG.out k (by omega))
          have hN := fun w' (x : Ext wr w') => RRowNeeds_calls _ d (sw rows (k + 1)) w' ((hrs.ext xwy).ext x) (by omega) (HS.out _ hlt)
          have hM := fun w' (x : Ext wr w') => RRowMakes_calls _ d' (sw rows k) w' ((hrs'.ext xwy).ext x) (by omega) (HS.out _ (by omega))
          have hbk := HFit.out HG.out k hlt
          have hnx : rneed (sw rows (k + 1)) = rmake (sw rows k) → ∀ j, j < k + 1 → rneed (sw rows (j + 1)) = rmake (sw rows j) := fun h0 i hi => by
            by_cases e : i = k
            · rw [e]; exact h0
            · exact HF.out i (by omega)
          generalize rneed (sw rows (k + 1)) = A at hN hbk hnx
          generalize rmake (sw rows k) = B at hM hbk hnx
          have HN := Lib.hid hN; have HM := Lib.hid hM; have HBk := Lib.hid hbk; have HNx := Lib.hid hnx
          clear hN hM hbk hnx hg1 hg2 hrs hrs' hbo xwy
          have t1 : (0 : Int) ≤ (k : Int) + 1 := by omega
          have t2 : ((k : Int) + 1).toNat = k + 1 := by omega
          have t3 : (k : Int) + 1 < n := by omega
          have t4 : IntKind.i64.wrap ((k : Int) + 1 - 1) = (k : Int) := by rw [show (k : Int) + 1 - 1 = k by omega]; exact IntWalk.i64_in _ ⟨by omega, by omega⟩
          have t5 : (k : Int) < n := by omega
          have t6 : IntKind.i64.wrap (k : Int) = (k : Int) := IntWalk.i64_in _ ⟨by omega, by omega⟩
          have t7 : (0 : Int) ≤ (k : Int) := by omega
          go_wp2
          go_region_held3 (fun w' => w'.cell? ⟨w.heap.size, 0, Option.none⟩ = some (.slice (some ⟨b, o, Option.none⟩) n c) ∧ w'.cell? ⟨b, o + (k + 1), Option.none⟩ = some (.slice a m d) ∧ w'.cell? ⟨b, o + k, Option.none⟩ = some (.slice a' m' d')) (first | exact ⟨b2, hcl, hcl'⟩ | exact ⟨q2, q0, q1⟩ | exact ⟨p2, p0, p1⟩ | go_keep) (first
            | (go_at_call 27; (refine (HN.out _ ?_).mono ?_); (focus (repeat (first | (with_reducible exact Ext.refl _) | (with_reducible apply Ext.drew) | (with_reducible apply Ext.drewN)))); rintro e w4 ⟨rfl, x4⟩; have X4 : Hid (Ext wr w4) := Lib.hid (Ext.trans (by (repeat (first | (with_reducible exact Ext.refl _) | (with_reducible apply Ext.drew) | (with_reducible apply Ext.drewN)))) x4); have q0 := X4.out.cell hcl; have q1 := X4.out.cell hcl'; have q2 := X4.out.cell b2; clear x4)
            | (go_at_call 28; (refine (HM.out _ ?_).mono ?_); (focus (refine X4.out.trans ?_; (repeat (first | (with_reducible exact Ext.refl _) | (with_reducible apply Ext.drew) | (with_reducible apply Ext.drewN))))); rintro e w5 ⟨rfl, x5⟩; have X5 : Hid (Ext wr w5) := Lib.hid (X4.out.trans (Ext.trans (by (repeat (first | (with_reducible exact Ext.refl _) | (with_reducible apply Ext.drew) | (with_reducible apply Ext.drewN)))) x5)); have p0 := X5.out.cell hcl; have p1 := X5.out.cell hcl'; have p2 := X5.out.cell b2; clear x5))
          have HX := Lib.hid (Hy.out.trans X5.out)
          clear q0 q1 q2 p0 p1 p2 X4 X5 hcl hcl' HN HM t1 t2 t3 t4 t5 t6 t7 b2
          by_cases hq : A = B
          · have hq' : (A != B) = false := by rw [bne, beq_iff_eq.2 hq]; rfl
            have HN2 := Lib.hid (HNx.out hq)
            clear hq HNx HBk
            go_wp2
            go_roundw
            case rel => exact ⟨k + 1, by omega, by go_num, HX, HN2⟩
            case measure => simp [intOf]; omega
          · have hq' : (A != B) = true := by rw [bne, beq_eq_false_iff_ne.2 hq]; rfl
            have HB2 := Lib.hid (HBad.out 14 _ (HBk.out hq) (by decide) HX.out)
            clear hq HNx HBk
            go_wp2
            go_ret2
            exact HB2.out
        · have hnk : n = k + 1 := by omega
          have hce := HOk.out HG.out (fun j hj => HF.out j (by omega))
          have hz := fun i (hi : i < n) => rchk_zero (HG.out i hi)
          have hfitA := fun j (hj : j + 1 < n) => HF.out j (by omega)
          have hz0 := hz 0 (by omega)
          obtain ⟨N, hN⟩ : ∃ N : Nat, rneed (sw rows 0) = N := ⟨(rneed (sw rows 0)).toNat, by have := rneed_bd (sw rows 0); omega⟩
          have hN16 : 1 ≤ N ∧ N ≤ 16 := by omega
          obtain ⟨F, hFd⟩ : ∃ F, F = List.replicate N (1 : Int) := ⟨_, rfl⟩
          have hfst : first rows = F := by unfold first; rw [hN, hFd]; rfl
          have hcl : cloads rows = ldRows (rows.drop 0) F [F] := by unfold cloads; rw [if_neg (by omega), hfst]; rfl
          obtain ⟨b, o, a, m, d, rfl, hc0, hr0⟩ := HA.out 0 (by omega)
          rw [Nat.add_zero] at hc0
          obtain ⟨w5, hw5⟩ : ∃ w5 : World, w5 = wr := ⟨_, rfl⟩
          have X5 := Lib.hid (show Ext W w5 by rw [hw5]; exact Hy.out)
          have HC0 := Lib.hid (fun w' (x : Ext W w') => (XW.out.trans x).cell hc0)
          have hNe := fun w' (x : Ext W w') => RRowNeeds_calls _ d (sw rows 0) w' (hr0.ext (XW.out.trans x)) (by omega) (HS.out 0 (by omega))
          rw [hN] at hNe
          have HNe := Lib.hid hNe; have HCl := Lib.hid hcl; have HZ := Lib.hid hz; have HFt := Lib.hid hfitA; have HN0 := Lib.hid hN; have HN9 := Lib.hid hN; have HFd := Lib.hid hFd
          have tl : ¬ ((k : Int) + 1 < n) := by omega
          have tn : (0 : Int) < n := by omega
          rw [← hw5] at b2 ⊢
          clear hw5 hz hfitA hz0 hN hFd hfst hcl hc0 hr0 hNe hce hnk hlt
          go_wp2
          clear b2 tl
          go_loopw [7, 8] (fun u i wr => ∃ j : Nat, j ≤ N ∧ i = .int .i64 j ∧ Hid (wr.ownsRow w5.heap.size 3 1 u j ((List.replicate j (1 : Int)).map (Value.int .i64)) ∧ Ext w5 wr)) (fun _ i _ => N - (intOf i).toNat)
          case atStart => exact ⟨0, Nat.zero_le _, rfl, Lib.hid ⟨World.ownsRow_nil _ _ _ _, Ext.refl _⟩⟩
          case round =>
            obtain ⟨j, hj, rfl, H⟩ := hrel
            have b2 := HBx.out _ (X5.out.trans H.out.2)
            have c2 := HC0.out _ (X5.out.trans H.out.2)
            have hcall := HNe.out _ (X5.out.trans H.out.2)
            have HCa := Lib.hid hcall
            clear hcall
            go_wp2_with fail
            refine HCa.out.mono ?_
            rintro e w6 ⟨rfl, x6⟩
            have H6 := Lib.hid (And.intro (own_ext H.out.1 x6) (H.out.2.trans x6))
            clear x6 b2 c2 HCa
            by_cases hjl : j < N
            · have hsz := H6.out.2.size
              go_wp2_with (at_builtin; refine app_own eiInt rfl _ _ rfl w5.heap.size _ j _ rfl (H6.out.1.alloc _) _ _ _ rfl (VS.one _ _ _) (one1 _) ?d1 ?d2 ?d3 ?_)
              any_goals (first | omega | (simp; done) | (simp only [List.length_cons, List.length_nil]; omega) | (simp; omega))
              intro v' w' hown hbel
              have HO := Lib.hid (show w'.ownsRow w5.heap.size 3 1 v' (j + 1) ((List.replicate (j + 1) (1 : Int)).map (Value.int .i64)) ∧ Ext w5 w' from ⟨by rw [rep_snoc, List.map_replicate]; exact hown, Below.trans (H6.out.2.alloc _) hbel⟩)
              clear hown hbel
              go_wp2
              go_roundw
              case rel => exact ⟨j + 1, by omega, by go_num, HO⟩
              case measure => simp [intOf]; omega
            · obtain rfl : N = j := by omega
              have hiv := IV.of_own H6.out.1
              rw [← HFd.out] at hiv
              obtain ⟨na, nn, nc, hnf, hnn⟩ := hiv.1.form
              subst hnf
              have hoi := OI.one H6.out.2 hiv.1
              have hiv2 := hiv.1.ext ((Ext.refl w6).alloc (.cells #[.slice na nn nc] 68))
              obtain ⟨w7, hw7⟩ : ∃ w7, w7 = w6.alloc (.cells #[.slice na nn nc] 68) := ⟨_, rfl⟩
              have X7 := Lib.hid (show Ext w5 w7 by rw [hw7]; exact H6.out.2.alloc _)
              rw [← hw7] at hoi hiv2
              have HOI := Lib.hid hoi; have HIV := Lib.hid hiv2; have HW7 := Lib.hid hw7
              clear hiv hoi hiv2 hnn hw7 hjl H H6
              go_wp2
              rw [← HW7.out]
              clear HC0 HNe HF HN0 hN16
              go_loopw [7, 9, 10, 11, 12, 13, 14, 15, 16, 17] (fun nv ov i _ _ _ _ _ _ _ wr => ∃ (k : Nat) (bf : List Int) (acc : List (List Int)) (aa : Option Addr) (bn bc : Nat), k ≤ n ∧ i = .int .i64 k ∧ nv = .slice aa bn bc ∧ acc.length = k + 1 ∧ Hid (IV wr (.slice aa bn bc) bf) ∧ Hid (OI w5 wr ov acc) ∧ Hid (ldRows (rows.drop 0) F [F] = ldRows (rows.drop k) bf acc) ∧ Hid (k < n → (bf.length : Int) = rneed (sw rows k))) (fun _ _ i _ _ _ _ _ _ _ _ => n - (intOf i).toNat)
              case atStart => exact ⟨0, F, [F], na, nn, nc, by omega, rfl, rfl, rfl, HIV, HOI, Lib.hid rfl, Lib.hid (fun _ => by rw [HN9.out, HFd.out]; simp)⟩
              case round =>
                obtain ⟨k, bf, acc, aa, bn, bc, hk, rfl, rfl, hacl, HV, HO, HE, HB⟩ := hrel
                have X8 := Lib.hid (show Ext W wr from X5.out.trans HO.out.1)
                have b2 := HBx.out _ X8.out
                by_cases hlt : k < n
                · obtain ⟨b', o', a, m, d, hbo, hc0, hr0⟩ := HA.out k hlt
                  obtain ⟨rfl, rfl⟩ : b = b' ∧ o = o' := by simpa using hbo
                  have HC0 := Lib.hid (fun w' (x : Ext W w') => (XW.out.trans x).cell hc0)
                  obtain ⟨_, _, e1, e2, e3, e4, e5⟩ := hr0.open
                  simp only [Value.slice.injEq] at e1
                  obtain ⟨rfl, rfl, _⟩ := e1
                  have hz := HZ.out k hlt
                  have hbf := HB.out hlt
                  have hm16 : m ≤ 16 := by omega
                  obtain ⟨w8, hw8⟩ : ∃ w8 : World, w8 = wr := ⟨_, rfl⟩
                  have HV8 := Lib.hid (show IV w8 (.slice aa bn bc) bf by rw [hw8]; exact HV.out)
                  have HO8 := Lib.hid (show OI w5 w8 _ acc by rw [hw8]; exact HO.out)
                  have X88 := Lib.hid (show Ext W w8 by rw [hw8]; exact X8.out)
                  have HE5 := Lib.hid e5; have HBf := Lib.hid hbf; have He2 := Lib.hid e2
                  have HSt := Lib.hid (HS.out k hlt)
                  rw [← hw8] at b2 ⊢
                  clear hw8 hbo hc0 hr0 e2 e5 hz hbf HV HO X8 HB
                  go_wp2
                  go_loopw [11, 12, 13, 14, 15, 16, 17] (fun at' nx i _ _ _ _ ws => ∃ (j at0 : Nat) (nw : List Int), j ≤ m ∧ i = .int .i64 j ∧ at' = .int .i64 at0 ∧ nw.length ≤ 4 * j ∧ Hid (ws.ownsRow w8.heap.size 3 1 nx nw.length (nw.map (Value.int .i64)) ∧ Ext w8 ws) ∧ Hid ((at0 : Int) = rneed ((sw rows k).take j)) ∧ Hid ((nw.length : Int) = rmake ((sw rows k).take j)) ∧ Hid (ldRow (sw rows k) bf [] = ldRow ((sw rows k).drop j) (bf.drop at0) nw)) (fun _ _ i _ _ _ _ _ => m - (intOf i).toNat)
                  case atStart => exact ⟨0, 0, [], by omega, rfl, rfl, by simp, Lib.hid ⟨World.ownsRow_nil _ _ _ _, Ext.refl _⟩, Lib.hid (by simp [rneed]), Lib.hid (by simp [rmake]), Lib.hid rfl⟩
                  case round =>
                    obtain ⟨j, at0, nw, hj, rfl, rfl, hnw, HH, HAt, HNl, HLR⟩ := hrel
                    obtain ⟨ws, hws⟩ : ∃ ws : World, ws = wr := ⟨_, rfl⟩
                    rw [← hws] at HH ⊢
                    clear hws
                    have b2 := HBx.out _ (X88.out.trans HH.out.2)
                    have c2 := HC0.out _ (X88.out.trans HH.out.2)
                    by_cases hjl : j < m
                    · obtain ⟨bb, oo, rfl, e8⟩ := HE5.out j hjl
                      obtain ⟨u0, u1, u2, u3, u4⟩ := e8.ext (XW.out.trans (X88.out.trans HH.out.2))
                      have hrn : rneed (sw rows k) = rneed ((sw rows k).take (j + 1)) + rneed ((sw rows k).drop (j + 1)) := by rw [← rneed_app', List.take_append_drop]
                      have htk : rneed ((sw rows k).take (j + 1)) = rneed ((sw rows k).take j) + (si (sw rows k) j).need := by rw [take_succ_si (by have := He2.out; omega), rneed_snoc]
                      have hdb := (rneed_bd ((sw rows k).drop (j + 1))).1
                      have hnb := St.need_bd (si (sw rows k) j)
                      obtain ⟨nd, hnd⟩ : ∃ nd : Nat, (si (sw rows k) j).need = nd := ⟨((si (sw rows k) j).need).toNat, by omega⟩
                      have hat := HAt.out
                      have hbf := HBf.out
                      have hfit : at0 + nd ≤ bf.length := by omega
                      have hs0 := HSt.out j (by have := He2.out; omega)
                      have hne := fun w' => RNeeds_calls (si (sw rows k) j) w' hs0
                      have hld := fun v c xs w' (h : IS .i64 w' v c xs) => RLoads_calls (si (sw rows k) j) v c xs w' h hs0
                      rw [hnd] at hne htk hnb
                      obtain ⟨st, hst⟩ : ∃ st, st = si (sw rows k) j := ⟨_, rfl⟩
                      rw [← hst] at u0 u1 u2 u3 u4 hne hld
                      have hk5 := (B5.new ws st 49)
                      have HK5 := Lib.hid hk5
                      have HNe := Lib.hid hne; have HLd0 := Lib.hid hld; have Hst := Lib.hid hst; have HNd := Lib.hid hnd; have HTk := Lib.hid htk
                      have hat16 : at0 ≤ 16 := by have := (rchk_zero (HG.out k hlt)); omega
                      unfold St.val at HNe HLd0
                      clear hrn htk hdb hat hbf hne hld hst hk5 e8 hnd hs0
                      go_wp2_with fail
                      refine (HNe.out _).mono ?_
                      rintro e wn ⟨rfl, xn⟩
                      have q5 : At5 wn ws.heap.size 0 st := (HK5.out.ext xn).at
                      have Xn := Lib.hid (((Ext.refl ws).alloc _).trans xn)
                      clear xn u0 u1 u2 u3 u4 HNe HK5 b2 c2
                      obtain ⟨q0, q1, q2, q3, q4⟩ := q5
                      simp only [Nat.zero_add] at q1 q2 q3 q4
                      obtain ⟨cI, hI⟩ := HV8.out.is
                      obtain ⟨g1, g2, g3⟩ := hI.len
                      subst g2
                      have hbn : at0 + nd ≤ bn := by omega
                      have hIn := hI.ext (HH.out.2.trans Xn.out)
                      have wz : IntKind.i64.wrap ((at0 : Int) + nd) = (at0 : Int) + nd := IntWalk.i64_in _ ⟨by omega, by omega⟩
                      have r2 : (0 : Int) ≤ (at0 : Int) := by omega
                      have r3 : (at0 : Int) ≤ (at0 : Int) + nd := by omega
                      have r4 : (at0 : Int) + nd ≤ (bc : Int) := by omega
                      have r5 : ((at0 : Int) + nd).toNat = at0 + nd := by omega
                      have r6 : at0 + nd ≤ bc := by omega
                      have r7 : at0 ≤ at0 + nd := by omega
                      have r8 : at0 ≤ bc := by omega
                      have r9 : (at0 : Int) ≤ (bc : Int) := by omega
                      have ra : (0 : Int) ≤ (nd : Int) := by omega
                      have rb : (0 : Int) ≤ (at0 : Int) + nd := by omega
                      clear g1 g3
                      go_wp2
                      rcases hIn.from at0 (by omega) with ⟨b5, o5, haa, hfr⟩ | ⟨z1, z2, z3, z4⟩
                      · have hup := hfr.upto (m := nd) (by omega)
                        subst haa
                        by_cases hcc : bc = at0
                        · have hcc' := hcc.symm
                          subst hcc'
                          rw [if_pos rfl, Nat.sub_self] at hup
                          have re' : at0 + nd - at0 = nd := by omega
                          have ri' : ¬ at0 + nd < at0 := by omega
                          have HLd := Lib.hid (fun w' (x : Ext wn w') => HLd0.out _ _ _ w' (hup.ext x))
                          clear hup hfr hIn hI
                          go_region_held3 (fun w' => w'.cell? ⟨ws.heap.size, 0, Option.none⟩ = some (.int .u8 st.k) ∧ w'.cell? ⟨ws.heap.size, 1, Option.none⟩ = some (.int .u8 st.y) ∧ w'.cell? ⟨ws.heap.size, 2, Option.none⟩ = some (.int .i64 st.a) ∧ w'.cell? ⟨ws.heap.size, 3, Option.none⟩ = some (.int .i64 st.b) ∧ w'.cell? ⟨ws.heap.size, 4, Option.none⟩ = some (.bool st.f)) (first | exact ⟨q0, q1, q2, q3, q4⟩ | exact ⟨p0, p1, p2, p3, p4⟩ | go_keep) (first
                            | (go_at_call 46; (refine (HLd.out _ ?_).mono ?_); (focus (repeat (first | (with_reducible exact Ext.refl _) | (with_reducible apply Ext.drew) | (with_reducible apply Ext.drewN)))); intro e wl hh; obtain ⟨vl, cl, rfl, il, xl⟩ := hh; have Xl : Hid (Ext wn wl) := Lib.hid (Ext.trans (by (repeat (first | (with_reducible exact Ext.refl _) | (with_reducible apply Ext.drew) | (with_reducible apply Ext.drewN)))) xl); have Il := Lib.hid il; have p0 := Xl.out.cell q0; have p1 := Xl.out.cell q1; have p2 := Xl.out.cell q2; have p3 := Xl.out.cell q3; have p4 := Xl.out.cell q4; clear il xl))
                          have htn : (si (sw rows k) j).need.toNat = nd := by rw [HNd.out]; rfl
                          have hjr : j < (sw rows k).length := by have := He2.out; omega
                          have hjr2 := hjr
                          have hbadR := fun hb => ldRow_bad (r := sw rows k) (k := j) hjr (bf := bf.drop at0) (acc := nw) hb
                          have hnextR := fun hb => ldRow_next (r := sw rows k) (k := j) hjr (bf := bf.drop at0) (acc := nw) hb
                          rw [htn, ← Hst.out, List.drop_drop] at hnextR
                          rw [htn, ← Hst.out] at hbadR
                          have hmdl := fun (h : st.lerr ((bf.drop at0).take nd) = 0) => lmade_len h
                          have hmkb := St.make_bd st
                          obtain ⟨er, her⟩ : ∃ er, er = st.lerr ((bf.drop at0).take nd) := ⟨_, rfl⟩
                          obtain ⟨md, hmd⟩ : ∃ md, md = st.lmade ((bf.drop at0).take nd) := ⟨_, rfl⟩
                          rw [← her] at hbadR hnextR hmdl ⊢
                          rw [← hmd] at hnextR hmdl Il
                          have Xs := Lib.hid (Xn.out.trans Xl.out)
                          have HHl := Lib.hid (And.intro (own_ext HH.out.1 Xs.out) (HH.out.2.trans Xs.out))
                          have HBdR := Lib.hid hbadR; have HNxR := Lib.hid hnextR
                          clear hbadR hnextR her hmd htn hjr q0 q1 q2 q3 q4 p0 p1 p2 p3 p4
                          by_cases he : er = 0
                          · have he' : (er != 0) = false := by rw [he]; rfl
                            have hml := hmdl he
                            have hml4 : md.length ≤ 4 := by omega
                            have HNl2 := Lib.hid (show ((nw ++ md).length : Int) = rmake ((sw rows k).take (j + 1)) from by rw [take_succ_si hjr2, rmake_snoc, ← Hst.out, ← HNl.out, List.length_append]; omega)
                            have hnx := HNxR.out he
                            have HNx := Lib.hid (HLR.out.trans hnx)
                            have hsz := HHl.out.2.size
                            have HTk2 := Lib.hid (show ((at0 + nd : Nat) : Int) = rneed ((sw rows k).take (j + 1)) by rw [HTk.out, ← HAt.out]; omega)
                            have hmm : (md.map (Value.int .i64)).length = md.length := List.length_map _
                            clear he hmdl hml hnx hjr2
                            go_wp2_with (at_builtin; go_loud (refine app_own eiInt rfl _ _ rfl w8.heap.size _ nw.length _ rfl HHl.out.1 _ _ _ rfl Il.out (onesI _) ?h1 ?h2 hsz ?_))
                            case h1 => rw [List.length_map]; omega
                            case h2 => rw [List.length_map]; omega
                            intro v' w' hown hbel
                            have HO2 := Lib.hid (show w'.ownsRow w8.heap.size 3 1 v' (nw ++ md).length ((nw ++ md).map (Value.int .i64)) ∧ Ext w8 w' from ⟨by rw [List.length_append, List.map_append]; simpa using hown, Below.trans HHl.out.2 hbel⟩)
                            clear hown hbel
                            go_wp2
                            go_roundw
                            case rel => exact ⟨j + 1, at0 + nd, nw ++ md, by omega, by go_num, by go_num, by rw [List.length_append]; omega, HO2, HTk2, HNl2, HNx⟩
                            case measure => simp [intOf]; omega
                          · have he' : (er != 0) = true := by rw [bne, beq_eq_false_iff_ne.2 he]; rfl
                            have hrow : ldRow (sw rows k) bf [] = (er, []) := HLR.out.trans (HBdR.out he)
                            have hcl : cloads rows = (er, []) := by
                              rw [HCl.out, HE.out, ldRows_bad (by rw [← Hn.out]; exact hlt) (by rw [hrow]; exact he), hrow]
                            have HF := Lib.hid (show ∀ w', Ext W w' → RetLL w (cloads rows).2 (cloads rows).1 (.returned (.tuple #[.slice none 0 0, .int .i64 er])) w' from fun w' x => by
                              rw [hcl]; exact ⟨_, 0, rfl, ISS.nil _ _, XW.out.trans x⟩)
                            clear hrow hcl he hmdl hjr2
                            go_wp2
                            go_ret2
                            exact HF.out _ (X88.out.trans HHl.out.2)
                        · rw [if_neg hcc] at hup
                          have rc : ¬ bc ≤ at0 := by omega
                          have hsl := fun w' => slice_mid b5 o5 bn bc at0 nd (by omega) hcc w'
                          have hsl2 : ∀ w', (Instr.sliceAt 68 (.slice (some ⟨b5, o5, none⟩) bn bc) (some (.int .i64 (at0 : Int))) (some (.int .i64 ((at0 : Int) + (nd : Int)))) none).run Tryd.prog w' = .ok (.slice (some ⟨b5, o5 + at0, none⟩) nd (bc - at0)) w' := fun w' => by
                            rw [run_sliceAt_slice w' 68 _ _ _ _ Tryd.underlying68]; exact hsl w'
                          have rd : ¬ bc - at0 = 0 := by omega
                          have re' : at0 + nd - at0 = nd := by omega
                          have rf : at0 < bc := by omega
                          have rg : ((at0 : Int) + (nd : Int)).toNat ≤ bc := by omega
                          have rh : ¬ bc < at0 + nd := by omega
                          have ri' : ¬ at0 + nd < at0 := by omega
                          have HLd := Lib.hid (fun w' (x : Ext wn w') => HLd0.out _ _ _ w' (hup.ext x))
                          clear hup hfr hIn hI
                          go_region_held3 (fun w' => w'.cell? ⟨ws.heap.size, 0, Option.none⟩ = some (.int .u8 st.k) ∧ w'.cell? ⟨ws.heap.size, 1, Option.none⟩ = some (.int .u8 st.y) ∧ w'.cell? ⟨ws.heap.size, 2, Option.none⟩ = some (.int .i64 st.a) ∧ w'.cell? ⟨ws.heap.size, 3, Option.none⟩ = some (.int .i64 st.b) ∧ w'.cell? ⟨ws.heap.size, 4, Option.none⟩ = some (.bool st.f)) (first | exact ⟨q0, q1, q2, q3, q4⟩ | exact ⟨p0, p1, p2, p3, p4⟩ | go_keep) (first
                            | (go_at_call 46; (refine (HLd.out _ ?_).mono ?_); (focus (repeat (first | (with_reducible exact Ext.refl _) | (with_reducible apply Ext.drew) | (with_reducible apply Ext.drewN)))); intro e wl hh; obtain ⟨vl, cl, rfl, il, xl⟩ := hh; have Xl : Hid (Ext wn wl) := Lib.hid (Ext.trans (by (repeat (first | (with_reducible exact Ext.refl _) | (with_reducible apply Ext.drew) | (with_reducible apply Ext.drewN)))) xl); have Il := Lib.hid il; have p0 := Xl.out.cell q0; have p1 := Xl.out.cell q1; have p2 := Xl.out.cell q2; have p3 := Xl.out.cell q3; have p4 := Xl.out.cell q4; clear il xl))
                          have htn : (si (sw rows k) j).need.toNat = nd := by rw [HNd.out]; rfl
                          have hjr : j < (sw rows k).length := by have := He2.out; omega
                          have hjr2 := hjr
                          have hbadR := fun hb => ldRow_bad (r := sw rows k) (k := j) hjr (bf := bf.drop at0) (acc := nw) hb
                          have hnextR := fun hb => ldRow_next (r := sw rows k) (k := j) hjr (bf := bf.drop at0) (acc := nw) hb
                          rw [htn, ← Hst.out, List.drop_drop] at hnextR
                          rw [htn, ← Hst.out] at hbadR
                          have hmdl := fun (h : st.lerr ((bf.drop at0).take nd) = 0) => lmade_len h
                          have hmkb := St.make_bd st
                          obtain ⟨er, her⟩ : ∃ er, er = st.lerr ((bf.drop at0).take nd) := ⟨_, rfl⟩
                          obtain ⟨md, hmd⟩ : ∃ md, md = st.lmade ((bf.drop at0).take nd) := ⟨_, rfl⟩
                          rw [← her] at hbadR hnextR hmdl ⊢
                          rw [← hmd] at hnextR hmdl Il
                          have Xs := Lib.hid (Xn.out.trans Xl.out)
                          have HHl := Lib.hid (And.intro (own_ext HH.out.1 Xs.out) (HH.out.2.trans Xs.out))
                          have HBdR := Lib.hid hbadR; have HNxR := Lib.hid hnextR
                          clear hbadR hnextR her hmd htn hjr q0 q1 q2 q3 q4 p0 p1 p2 p3 p4 hsl hsl2
                          by_cases he : er = 0
                          · have he' : (er != 0) = false := by rw [he]; rfl
                            have hml := hmdl he
                            have hml4 : md.length ≤ 4 := by omega
                            have HNl2 := Lib.hid (show ((nw ++ md).length : Int) = rmake ((sw rows k).take (j + 1)) from by rw [take_succ_si hjr2, rmake_snoc, ← Hst.out, ← HNl.out, List.length_append]; omega)
                            have hnx := HNxR.out he
                            have HNx := Lib.hid (HLR.out.trans hnx)
                            have hsz := HHl.out.2.size
                            have HTk2 := Lib.hid (show ((at0 + nd : Nat) : Int) = rneed ((sw rows k).take (j + 1)) by rw [HTk.out, ← HAt.out]; omega)
                            have hmm : (md.map (Value.int .i64)).length = md.length := List.length_map _
                            clear he hmdl hml hnx hjr2
                            go_wp2_with (at_builtin; go_loud (refine app_own eiInt rfl _ _ rfl w8.heap.size _ nw.length _ rfl HHl.out.1 _ _ _ rfl Il.out (onesI _) ?g1 ?g2 hsz ?_))
                            case g1 => rw [List.length_map]; omega
                            case g2 => rw [List.length_map]; omega
                            intro v' w' hown hbel
                            have HO2 := Lib.hid (show w'.ownsRow w8.heap.size 3 1 v' (nw ++ md).length ((nw ++ md).map (Value.int .i64)) ∧ Ext w8 w' from ⟨by rw [List.length_append, List.map_append]; simpa using hown, Below.trans HHl.out.2 hbel⟩)
                            clear hown hbel
                            go_wp2
                            go_roundw
                            case rel => exact ⟨j + 1, at0 + nd, nw ++ md, by omega, by go_num, by go_num, by rw [List.length_append]; omega, HO2, HTk2, HNl2, HNx⟩
                            case measure => simp [intOf]; omega
                          · have he' : (er != 0) = true := by rw [bne, beq_eq_false_iff_ne.2 he]; rfl
                            have hrow : ldRow (sw rows k) bf [] = (er, []) := HLR.out.trans (HBdR.out he)
                            have hcl : cloads rows = (er, []) := by
                              rw [HCl.out, HE.out, ldRows_bad (by rw [← Hn.out]; exact hlt) (by rw [hrow]; exact he), hrow]
                            have HF := Lib.hid (show ∀ w', Ext W w' → RetLL w (cloads rows).2 (cloads rows).1 (.returned (.tuple #[.slice none 0 0, .int .i64 er])) w' from fun w' x => by
                              rw [hcl]; exact ⟨_, 0, rfl, ISS.nil _ _, XW.out.trans x⟩)
                            clear hrow hcl he hmdl hjr2
                            go_wp2
                            go_ret2
                            exact HF.out _ (X88.out.trans HHl.out.2)
                      · exfalso
                        have h1 := HBf.out
                        have h2 := rchk_zero (HG.out k hlt)
                        rw [z4, List.length_nil] at h1
                        omega
                    · obtain rfl : m = j := by omega
                      have hE2 := He2.out
                      have hrow : ldRow (sw rows k) bf [] = (0, nw) := HLR.out.trans (ldRow_end (by omega))
                      have hnext := ldRows_next (r := rows) (k := k) (by rw [← Hn.out]; exact hlt) (bf := bf) (acc := acc) (by rw [hrow])
                      rw [hrow] at hnext
                      have HE' := Lib.hid (HE.out.trans hnext)
                      have hnl : k + 1 < n → (nw.length : Int) = rneed (sw rows (k + 1)) := fun h => by
                        have h1 := HNl.out
                        rw [List.take_of_length_le (by omega)] at h1
                        rw [h1, HFt.out k (by omega)]
                      have HNl' := Lib.hid hnl
                      have hiv := (IV.of_own HH.out.1).1
                      obtain ⟨ya, yn, yc, hnf, hnn⟩ := hiv.form
                      subst hnf
                      have HU := Lib.hid (And.intro (HO8.out.later HH.out.2) hiv)
                      have hlen : acc.length ≤ 100000 := by omega
                      clear hE2 hrow hnext hnl hiv hnn
                      go_wp2_with (at_builtin; go_loud (refine app_list rfl _ _ rfl w5 _ acc rfl HU.out.1 _ nw HU.out.2 ws.heap.size rfl rfl hlen ?_))
                      intro v6 w6 hco hiv6
                      have HC := Lib.hid (And.intro hco hiv6)
                      clear hco hiv6
                      go_wp2
                      go_roundw
                      case rel => exact ⟨k + 1, nw, acc ++ [nw], ya, yn, yc, by omega, by go_num, rfl, by simp; omega, Lib.hid HC.out.2, Lib.hid HC.out.1, HE', HNl'⟩
                      case measure => simp [intOf]; omega
                · obtain rfl : n = k := by omega
                  have hcl2 : cloads rows = (0, acc) := by rw [HCl.out, HE.out]; exact ldRows_end (by rw [← Hn.out]; exact Nat.le_refl _)
                  obtain ⟨oa, on, oc, hof, _⟩ := HO.out.form
                  subst hof
                  obtain ⟨cI, hI⟩ := HO.out.iss
                  have HF := Lib.hid (show RetLL w (cloads rows).2 (cloads rows).1 (.returned (.tuple #[.slice oa on oc, .int .i64 0])) wr from by
                    rw [hcl2]; exact ⟨_, cI, rfl, hI, XW.out.trans X8.out⟩)
                  clear hcl2 hI
                  go_wp2
                  go_ret2
                  exact HF.out
end Go.Proofs.YthllbcjglcplhaaDoor
/- LacesPairs. -/
namespace Go.Proofs.YthllbcjglcplhaaDoor
set_option linter.unusedVariables false
set_option linter.unusedSimpArgs false
set_option maxRecDepth 8000
open Go Go.RowKit

theorem run_pr_equal (a b c d : Int) (w : World) : (Op.equalIn 10000 66 (.agg #[.int .i64 a, .int .i64 b]) (.agg #[.int .i64 c, .int .i64 d])).run Tryd.prog w = .ok (a == c && b == d) w := by
  have u3 := Tryd.underlying3
  have a3 := Tryd.isAgg3
  have z3 := Tryd.sizeOf3
  rw [show (10000 : Nat) = 9999 + 1 from rfl, Op.equalIn]
  simp only [Sem.run_bind, run_underlying Tryd.underlying66, Result.andThen_ok]
  simp only [Std.Legacy.Range.forIn_eq_forIn_range', Std.Legacy.Range.size, Nat.sub_zero, Nat.add_sub_cancel, Nat.div_one, List.range'_succ, List.range'_zero, List.forIn_cons, List.forIn_nil]
  go_simp
  by_cases h1 : a = c <;> by_cases h2 : b = d <;> simp [h1, h2]
theorem run_pr_neq (a b : Int) (w : World) : (binOp .neq 66 (.agg #[.int .i64 a, .int .i64 b]) (.agg #[.int .i64 a, .int .i64 b])).run Tryd.prog w = .ok (.bool false) w := by
  rw [run_neq_struct, run_pr_equal]
  simp [Result.andThen]
/-- true is returned. -/
def RetT (w0 : World) (e : Ending) (w' : World) : Prop := e = .returned (.bool true) ∧ Ext w0 w'
set_option maxHeartbeats 4000000 in
theorem LacesPairs_walk (v : Value) (c : Nat) (l : List St) (w : World) (h : RS w v c l) (hs : ∀ s ∈ l, St.In s) (hy : Sy w) : Calls Tryd.prog 7 #[v] w (RetT w) := by
  have hll : l.length ≤ 40 → l.length ≤ 10000 := by omega
  have hpr := fun (hl : l.length ≤ 40) => Pairs_calls v c l w h (hll hl)
  have hkp := fun (hl : l.length ≤ 40) w' (x : Ext w w') => Keeps_calls v c l w' (h.ext x) (by omega)
  have hs' : ∀ i, i < l.length → 0 ≤ (si l i).k ∧ 0 ≤ (si l i).y := fun i hi => by
    have := hs _ (si_mem hi); unfold St.In at this; omega
  have hnd := fun (hl : l.length ≤ 40) w' (x : Ext w w') => RRowNeeds_calls v c l w' (h.ext x) (by omega) hs'
  have hmk := fun (hl : l.length ≤ 40) w' (x : Ext w w') => RRowMakes_calls v c l w' (h.ext x) (by omega) hs'
  have hlv := fun w' (x : Ext w w') => lives20_calls w' (hy.ext x)
  obtain ⟨ao, n, rfl, hn, hc, hcm, hat⟩ := h.open
  unfold maxLen at hcm
  have HPr := Lib.hid hpr; have HKp := Lib.hid hkp; have HNd := Lib.hid hnd; have HMk := Lib.hid hmk; have HLv := Lib.hid hlv; have HA := Lib.hid hat; have Hn := Lib.hid hn
  clear h hs hy hpr hkp hnd hmk hlv hat hn hs' hll
  go_enter Tryd.func7, Tryd.ntmps7
  by_cases h40 : 40 < n
  · have t0 : (40 : Int) < n := by omega
    clear h40
    go_wp2
    go_ret
    exact ⟨rfl, Ext.refl w⟩
  have t0 : ¬ (40 : Int) < n := by omega
  have HL := Lib.hid (show l.length ≤ 40 by have := Hn.out; omega)
  go_wp2_with fail
  refine (HPr.out HL.out).mono ?_
  rintro e w1 ⟨x1, hp⟩
  obtain ⟨PE, pv, hpe, hpv⟩ : ∃ (PE : Int) (pv : Value), e = .returned (.tuple #[pv, .int .i64 PE]) ∧ ((PE = 0 ∧ (ixs isO 0 l).length = (ixs isT 0 l).length ∧ PB w1 pv (ixs isO 0 l).length (fun i => (gi (ixs isO 0 l) i, gi (ixs isT 0 l) i))) ∨ (PE = 14 ∧ (ixs isO 0 l).length ≠ (ixs isT 0 l).length ∧ pv = .slice none 0 0)) := by
    rcases hp with ⟨h1, v, h2, h3⟩ | ⟨h1, h2⟩
    · refine ⟨0, v, h2, .inl ⟨rfl, ?_, h3⟩⟩
      unfold prE at h1; split at h1
      · assumption
      · cases h1
    · refine ⟨14, _, h2, .inr ⟨rfl, ?_, rfl⟩⟩
      unfold prE at h1; split at h1
      · cases h1
      · assumption
  obtain rfl := hpe
  have HPv := Lib.hid hpv; have X1 := Lib.hid x1
  clear hp hpv x1 HPr
  obtain ⟨pa, pn, pc, hpf, hpn⟩ : ∃ pa pn pc, pv = .slice pa pn pc ∧ pc = pn := by
    rcases HPv.out with ⟨_, _, g, h, _⟩ | ⟨_, _, h⟩
    · exact ⟨_, _, _, h, rfl⟩
    · exact ⟨_, _, _, h, rfl⟩
  subst hpf
  subst hpn
  go_wp2
  go_loopw [5, 6, 7] (fun va vb i wr => ∃ k : Nat, k ≤ n ∧ i = .int .i64 k ∧ Hid (TwoL w1 wr va vb (ixs isO 0 (l.take k)) (ixs isT 0 (l.take k)))) (fun _ _ i _ => n - (intOf i).toNat)
  case atStart => exact ⟨0, Nat.zero_le _, rfl, Lib.hid (by rw [List.take_zero]; exact TwoL.nil (Ext.refl _))⟩
  case round =>
    obtain ⟨k, hk, rfl, H⟩ := hrel
    by_cases hlt : k < n
    · obtain ⟨b, o, rfl, z⟩ := HA.out k hlt
      obtain ⟨s0, s1, s2, s3, s4⟩ := z.ext (X1.out.trans H.out.x)
      have t1 : (k : Int) < n := by omega
      have htk := take_succ_si (l := l) (k := k) (by rw [← Hn.out]; exact hlt)
      have hO := ixs_snoc isO (l.take k) 0 (si l k)
      have hT := ixs_snoc isT (l.take k) 0 (si l k)
      rw [← htk, Nat.zero_add, List.length_take, Nat.min_eq_left (by rw [← Hn.out]; exact hk)] at hO hT
      have hl1 := ixs_len isO (l.take k) 0
      have hl2 := ixs_len isT (l.take k) 0
      rw [List.length_take, Nat.min_eq_left (by rw [← Hn.out]; exact hk)] at hl1 hl2
      obtain ⟨X, hX⟩ : ∃ X, X = ixs isO 0 (l.take k) := ⟨_, rfl⟩
      obtain ⟨Y, hY⟩ : ∃ Y, Y = ixs isT 0 (l.take k) := ⟨_, rfl⟩
      rw [← hX] at hO hl1 H
      rw [← hY] at hT hl2 H
      obtain ⟨S, hS⟩ : ∃ S, S = si l k := ⟨_, rfl⟩
      rw [← hS] at s0 s1 s2 s3 s4 hO hT
      have HO := Lib.hid hO; have HT := Lib.hid hT
      have HZ := Lib.hid (fun w' (x : Ext wr w') => x.cell s0)
      clear z htk hX hY hO hT hS s1 s2 s3 s4
      by_cases k3 : S.k = 3
      · have hO := HO.out; have hT := HT.out
        rw [if_pos (show isO S = true from decide_eq_true k3)] at hO
        rw [if_neg (show ¬ isT S = true by unfold isT; rw [decide_eq_true_iff]; omega), List.append_nil] at hT
        replace HO := Lib.hid hO; replace HT := Lib.hid hT
        have b3 : (S.k == 3) = true := by rw [beq_iff_eq]; exact k3
        have b4 : (S.k == 4) = false := beq_eq_false_iff_ne.2 (by omega)
        have b5 : (S.k == 5) = false := beq_eq_false_iff_ne.2 (by omega)
        have H1 := Lib.hid (H.out.later ((Ext.refl _).alloc (.cells #[.int .i64 (k : Int)] 3)))
        have hsz := H1.out.x.size
        clear hO hT k3
        go_wp2_with (at_builtin; refine app_lies eiInt rfl _ _ rfl w1.heap.size _ X.length _ rfl H1.out.a _ _ _ rfl (VS.oneAt (by simp)) (one_i _) ?a1 ?a2 ?a3 (by simp) ?_)
        any_goals (first | omega | (simp; omega) | (simp at hsz ⊢; omega))
        intro g cap w' hown hgr hlies
        have s0' := (H.out.later ((Ext.refl _).alloc (.cells #[.int .i64 (k : Int)] 3))).x
        have HN := Lib.hid (H1.out.push hown hgr (by simpa using hlies))
        have s9 : w'.cell? ⟨b, o + k * 5, none⟩ = some (.int .u8 S.k) := by
          obtain ⟨b', o', hao, z⟩ := HA.out k hlt
          simp only [Option.some.injEq, Addr.mk.injEq, and_true] at hao
          obtain ⟨rfl, rfl⟩ := hao
          have h1 := (z.ext (X1.out.trans HN.out.x)).1
          have h2 := (z.ext (X1.out.trans H.out.x)).1
          rw [s0] at h2
          simp only [Option.some.injEq, Value.int.injEq, true_and] at h2
          rw [h1, h2]
        clear hown hgr hlies s0 s0' hsz
        go_wp2
        go_roundw
        case rel => exact ⟨k + 1, by omega, by go_num, by rw [HO.out, HT.out]; exact HN⟩
        case measure => simp [intOf]; omega
      have b3 : (S.k == 3) = false := beq_eq_false_iff_ne.2 k3
      by_cases k4 : S.k = 4 ∨ S.k = 5
      · have hO := HO.out; have hT := HT.out
        rw [if_neg (show ¬ isO S = true by unfold isO; rw [decide_eq_true_iff]; exact k3), List.append_nil] at hO
        rw [if_pos (show isT S = true from decide_eq_true k4)] at hT
        replace HO := Lib.hid hO; replace HT := Lib.hid hT
        have H1 := Lib.hid (H.out.later ((Ext.refl _).alloc (.cells #[.int .i64 (k : Int)] 3)))
        have hsz := H1.out.x.size
        clear hO hT k3
        rcases k4 with k4 | k4
        · have b4 : (S.k == 4) = true := by rw [beq_iff_eq]; exact k4
          clear k4
          go_wp2_with (at_builtin; refine app_lies eiInt rfl _ _ rfl w1.heap.size _ Y.length _ rfl H1.out.b _ _ _ rfl (VS.oneAt (by simp)) (one_i _) ?a4 ?a5 ?a6 (by simp) ?_)
          any_goals (first | omega | (simp; omega) | (simp at hsz ⊢; omega))
          intro g cap w' hown hgr hlies
          have HN := Lib.hid (H1.out.swap.push hown hgr (by simpa using hlies)).swap
          clear hown hgr hlies hsz
          go_wp2
          go_roundw
          case rel => exact ⟨k + 1, by omega, by go_num, by rw [HO.out, HT.out]; exact HN⟩
          case measure => simp [intOf]; omega
        · have b4 : (S.k == 4) = false := beq_eq_false_iff_ne.2 (by omega)
          have b5 : (S.k == 5) = true := by rw [beq_iff_eq]; exact k4
          clear k4
          go_wp2_with (at_builtin; refine app_lies eiInt rfl _ _ rfl w1.heap.size _ Y.length _ rfl H1.out.b _ _ _ rfl (VS.oneAt (by simp)) (one_i _) ?a7 ?a8 ?a9 (by simp) ?_)
          any_goals (first | omega | (simp; omega) | (simp at hsz ⊢; omega))
          intro g cap w' hown hgr hlies
          have HN := Lib.hid (H1.out.swap.push hown hgr (by simpa using hlies)).swap
          clear hown hgr hlies hsz
          go_wp2
          go_roundw
          case rel => exact ⟨k + 1, by omega, by go_num, by rw [HO.out, HT.out]; exact HN⟩
          case measure => simp [intOf]; omega
      · have hO := HO.out; have hT := HT.out
        rw [if_neg (show ¬ isO S = true by unfold isO; rw [decide_eq_true_iff]; exact k3), List.append_nil] at hO
        rw [if_neg (show ¬ isT S = true by unfold isT; rw [decide_eq_true_iff]; exact k4), List.append_nil] at hT
        have b4 : (S.k == 4) = false := beq_eq_false_iff_ne.2 (by omega)
        have b5 : (S.k == 5) = false := beq_eq_false_iff_ne.2 (by omega)
        replace HO := Lib.hid hO; replace HT := Lib.hid hT
        clear hO hT k3 k4
        go_wp2
        go_roundw
        case rel => exact ⟨k + 1, by omega, by go_num, by rw [HO.out, HT.out]; exact H⟩
        case measure => simp [intOf]; omega
    · obtain rfl : k = n := by omega
      have t1 : ¬ (k : Int) < k := by omega
      have H2 := H.out
      rw [List.take_of_length_le (by rw [← Hn.out]; exact Nat.le_refl _)] at H2
      obtain ⟨ca, ha⟩ := IS.of_own H2.a
      obtain ⟨cb, hb⟩ := IS.of_own H2.b
      have X2 := Lib.hid H2.x
      obtain ⟨aa, na, rfl, hna, hnc, hmm, hea⟩ := ha.ent
      obtain ⟨ab, nb, rfl, hnb, hnc2, hmm2, heb⟩ := hb.ent
      have hlO := ixs_len isO l 0
      have HEa := Lib.hid hea; have HEb := Lib.hid heb; have HNa := Lib.hid hna; have HNb := Lib.hid hnb
      have hna40 : na ≤ 40 := by have := HL.out; omega
      clear H H2 ha hb hea heb hna hnb hlO
      go_wp2_with fail
      refine (HKp.out HL.out _ (X1.out.trans X2.out)).mono ?_
      rintro e w3 ⟨rfl, x3⟩
      have X3 := Lib.hid ((X1.out.trans X2.out).trans x3); have Y3 := Lib.hid x3
      clear x3
      go_wp2_with fail
      refine (HNd.out HL.out _ X3.out).mono ?_
      rintro e w4 ⟨rfl, x4⟩
      have X4 := Lib.hid (X3.out.trans x4); have Y4 := Lib.hid (Y3.out.trans x4)
      clear x4
      go_wp2_with fail
      refine (HMk.out HL.out _ X4.out).mono ?_
      rintro e w5 ⟨rfl, x5⟩
      have X5 := Lib.hid (X4.out.trans x5); have Y5 := Lib.hid (Y4.out.trans x5)
      have HLv5 := Lib.hid (fun w' (x : Ext w5 w') => HLv.out w' (X5.out.trans x))
      clear x5 HKp HNd HMk
      have hdk : (decide (rmake l = rneed l)) = (rneed l == rmake l) := by
        by_cases e : rmake l = rneed l
        · rw [decide_eq_true e, e]; simp
        · rw [decide_eq_false e]; exact (beq_eq_false_iff_ne.2 (fun h => e h.symm)).symm
      rw [hdk]
      obtain ⟨bb, hbb⟩ : ∃ bb, bb = (rneed l == rmake l) := ⟨_, rfl⟩
      rw [← hbb]
      have hb2 : (rneed l == rmake l) = bb := hbb.symm
      have hb3 : (bb == bb) = true := by simp
      have hb4 : (bb != bb) = false := by simp
      obtain ⟨RN, hRN⟩ : ∃ RN, RN = rneed l := ⟨_, rfl⟩
      obtain ⟨RM, hRM⟩ : ∃ RM, RM = rmake l := ⟨_, rfl⟩
      rw [← hRN, ← hRM] at hb2
      rw [← hRN, ← hRM]
      clear hdk hbb hRN hRM
      by_cases hab : na = nb
      · subst hab
        have b1 : ((na : Int) != (na : Int)) = false := by simp
        have hpv := HPv.out
        rw [← HNa.out, ← HNb.out] at hpv
        obtain ⟨hp0, g, hpg, hpc⟩ : PE = 0 ∧ ∃ g, Value.slice pa pc pc = .slice (some ⟨g, 0, none⟩) na na ∧ ∀ i, i < na → w1.cell? ⟨g, i * 2, none⟩ = some (.int .i64 (gi (ixs isO 0 l) i)) ∧ w1.cell? ⟨g, i * 2 + 1, none⟩ = some (.int .i64 (gi (ixs isT 0 l) i)) := by
          rcases hpv with ⟨h1, _, g, h2, h3⟩ | ⟨_, h2, _⟩
          · exact ⟨h1, g, h2, h3⟩
          · exact absurd rfl h2
        simp only [Value.slice.injEq] at hpg
        obtain ⟨rfl, rfl, _⟩ := hpg
        subst hp0
        have HPc := Lib.hid hpc
        clear hpv hpc
        go_wp2
        obtain ⟨wo, hwo⟩ : ∃ wo : World, wo = w5 := ⟨_, rfl⟩
        go_loopw [8] (fun i ws => ∃ j : Nat, j ≤ pc ∧ i = .int .i64 j ∧ Hid (Ext w5 ws)) (fun i _ => pc - (intOf i).toNat)
        case atStart => exact ⟨0, Nat.zero_le _, rfl, Lib.hid (Ext.refl _)⟩
        case round =>
          obtain ⟨j, hj, rfl, HJ⟩ := hrel
          by_cases hjl : j < pc
          · have t3 : (j : Int) < pc := by omega
            obtain ⟨b1', o1', rfl, ea0⟩ := HEa.out j hjl
            obtain ⟨b2', o2', rfl, eb0⟩ := HEb.out j hjl
            obtain ⟨pc0, pc1⟩ := HPc.out j hjl
            have ea := (Y5.out.trans HJ.out).cell ea0; have eb := (Y5.out.trans HJ.out).cell eb0
            have ec := (X2.out.trans (Y5.out.trans HJ.out)).cell pc0; have ed := (X2.out.trans (Y5.out.trans HJ.out)).cell pc1
            have hneq := run_pr_neq (gi (ixs isO 0 l) j) (gi (ixs isT 0 l) j)
            obtain ⟨GX, hGX⟩ : ∃ GX, GX = gi (ixs isO 0 l) j := ⟨_, rfl⟩
            obtain ⟨GY, hGY⟩ : ∃ GY, GY = gi (ixs isT 0 l) j := ⟨_, rfl⟩
            rw [← hGX, ← hGY] at hneq
            rw [← hGX] at ea ec
            rw [← hGY] at eb ed
            clear ea0 eb0 pc0 pc1 hGX hGY
            go_wp2
            go_quiet (fail)
            clear ea eb ec ed hneq
            go_wp2
            go_roundw
            case rel => exact ⟨j + 1, by omega, by go_num, by first | exact HJ | exact Lib.hid (HJ.out.drewN _)⟩
            case measure => simp [intOf]; omega
          · obtain rfl : j = pc := by omega
            have t3 : ¬ (j : Int) < (j : Int) := by omega
            go_wp2_with fail
            refine (HLv5.out _ HJ.out).mono ?_
            rintro e w6 ⟨rfl, x6⟩
            have XZ := Lib.hid (X5.out.trans (HJ.out.trans x6))
            clear x6
            go_wp2
            go_ret
            exact ⟨rfl, XZ.out⟩
      · have b1 : ((na : Int) != (nb : Int)) = true := by rw [bne, beq_eq_false_iff_ne.2 (by omega)]; rfl
        rcases HPv.out with ⟨_, hpl, _⟩ | ⟨hp0, hpl, hpv⟩
        · exact absurd (by rw [HNa.out, HNb.out, hpl]) hab
        simp only [Value.slice.injEq] at hpv
        obtain ⟨rfl, rfl, _⟩ := hpv
        subst hp0
        clear hpl hab
        go_wp2_with fail
        refine (HLv5.out _ (Ext.refl _)).mono ?_
        rintro e w6 ⟨rfl, x6⟩
        have XZ := Lib.hid (X5.out.trans x6)
        clear x6
        go_wp2
        go_ret
        exact ⟨rfl, XZ.out⟩
end Go.Proofs.YthllbcjglcplhaaDoor
