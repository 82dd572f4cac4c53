/- Texts of this claim in one file: libraries and walks. -/
import Derived.Deep.RegionHeld3
import Derived.Test.YthllbcjglcplhaaDoorL14
import Derived.Test.YthllbcjglcplhaaDoorL15
import Derived.Test.YthllbcjglcplhaaDoorL16
import Derived.Test.YthllbcjglcplhaaDoorL17
/- LacesPairs. -/
namespace Go.Proofs.YthllbcjglcplhaaDoor
set_option linter.unusedVariables false
set_option linter.unusedSimpArgs false
set_option maxRecDepth 8000
open Go Go.RowKit

theorem run_pr_equal (a b c d : Int) (w : World) : (Op.equalIn 10000 66 (.agg #[.int .i64 a, .int .i64 b]) (.agg #[.int .i64 c, .int .i64 d])).run Tryd.prog w = .ok (a == c && b == d) w := by
  have u3 := Tryd.underlying3
  have a3 := Tryd.isAgg3
  have z3 := Tryd.sizeOf3
  rw [show (10000 : Nat) = 9999 + 1 from rfl, Op.equalIn]
  simp only [Sem.run_bind, run_underlying Tryd.underlying66, Result.andThen_ok]
  simp only [Std.Legacy.Range.forIn_eq_forIn_range', Std.Legacy.Range.size, Nat.sub_zero, Nat.add_sub_cancel, Nat.div_one, List.range'_succ, List.range'_zero, List.forIn_cons, List.forIn_nil]
  go_simp
  by_cases h1 : a = c <;> by_cases h2 : b = d <;> simp [h1, h2]
theorem run_pr_neq (a b : Int) (w : World) : (binOp .neq 66 (.agg #[.int .i64 a, .int .i64 b]) (.agg #[.int .i64 a, .int .i64 b])).run Tryd.prog w = .ok (.bool false) w := by
  rw [run_neq_struct, run_pr_equal]
  simp [Result.andThen]
/-- true is returned. -/
def RetT (w0 : World) (e : Ending) (w' : World) : Prop := e = .returned (.bool true) ∧ Ext w0 w'
set_option maxHeartbeats 4000000 in
theorem LacesPairs_walk (v : Value) (c : Nat) (l : List St) (w : World) (h : RS w v c l) (hs : ∀ s ∈ l, St.In s) (hy : Sy w) : Calls Tryd.prog 7 #[v] w (RetT w) := by
  have hll : l.length ≤ 40 → l.length ≤ 10000 := by omega
  have hpr := fun (hl : l.length ≤ 40) => Pairs_calls v c l w h (hll hl)
  have hkp := fun (hl : l.length ≤ 40) w' (x : Ext w w') => Keeps_calls v c l w' (h.ext x) (by omega)
  have hs' : ∀ i, i < l.length → 0 ≤ (si l i).k ∧ 0 ≤ (si l i).y := fun i hi => by
    have := hs _ (si_mem hi); unfold St.In at this; omega
  have hnd := fun (hl : l.length ≤ 40) w' (x : Ext w w') => RRowNeeds_calls v c l w' (h.ext x) (by omega) hs'
  have hmk := fun (hl : l.length ≤ 40) w' (x : Ext w w') => RRowMakes_calls v c l w' (h.ext x) (by omega) hs'
  have hlv := fun w' (x : Ext w w') => lives20_calls w' (hy.ext x)
  obtain ⟨ao, n, rfl, hn, hc, hcm, hat⟩ := h.open
  unfold maxLen at hcm
  have HPr := Lib.hid hpr; have HKp := Lib.hid hkp; have HNd := Lib.hid hnd; have HMk := Lib.hid hmk; have HLv := Lib.hid hlv; have HA := Lib.hid hat; have Hn := Lib.hid hn
  clear h hs hy hpr hkp hnd hmk hlv hat hn hs' hll
  go_enter Tryd.func7, Tryd.ntmps7
  by_cases h40 : 40 < n
  · have t0 : (40 : Int) < n := by omega
    clear h40
    go_wp2
    go_ret
    exact ⟨rfl, Ext.refl w⟩
  have t0 : ¬ (40 : Int) < n := by omega
  have HL := Lib.hid (show l.length ≤ 40 by have := Hn.out; omega)
  go_wp2_with fail
  refine (HPr.out HL.out).mono ?_
  rintro e w1 ⟨x1, hp⟩
  obtain ⟨PE, pv, hpe, hpv⟩ : ∃ (PE : Int) (pv : Value), e = .returned (.tuple #[pv, .int .i64 PE]) ∧ ((PE = 0 ∧ (ixs isO 0 l).length = (ixs isT 0 l).length ∧ PB w1 pv (ixs isO 0 l).length (fun i => (gi (ixs isO 0 l) i, gi (ixs isT 0 l) i))) ∨ (PE = 14 ∧ (ixs isO 0 l).length ≠ (ixs isT 0 l).length ∧ pv = .slice none 0 0)) := by
    rcases hp with ⟨h1, v, h2, h3⟩ | ⟨h1, h2⟩
    · refine ⟨0, v, h2, .inl ⟨rfl, ?_, h3⟩⟩
      unfold prE at h1; split at h1
      · assumption
      · cases h1
    · refine ⟨14, _, h2, .inr ⟨rfl, ?_, rfl⟩⟩
      unfold prE at h1; split at h1
      · cases h1
      · assumption
  obtain rfl := hpe
  have HPv := Lib.hid hpv; have X1 := Lib.hid x1
  clear hp hpv x1 HPr
  obtain ⟨pa, pn, pc, hpf, hpn⟩ : ∃ pa pn pc, pv = .slice pa pn pc ∧ pc = pn := by
    rcases HPv.out with ⟨_, _, g, h, _⟩ | ⟨_, _, h⟩
    · exact ⟨_, _, _, h, rfl⟩
    · exact ⟨_, _, _, h, rfl⟩
  subst hpf
  subst hpn
  go_wp2
  go_loopw [5, 6, 7] (fun va vb i wr => ∃ k : Nat, k ≤ n ∧ i = .int .i64 k ∧ Hid (TwoL w1 wr va vb (ixs isO 0 (l.take k)) (ixs isT 0 (l.take k)))) (fun _ _ i _ => n - (intOf i).toNat)
  case atStart => exact ⟨0, Nat.zero_le _, rfl, Lib.hid (by rw [List.take_zero]; exact TwoL.nil (Ext.refl _))⟩
  case round =>
    obtain ⟨k, hk, rfl, H⟩ := hrel
    by_cases hlt : k < n
    · obtain ⟨b, o, rfl, z⟩ := HA.out k hlt
      obtain ⟨s0, s1, s2, s3, s4⟩ := z.ext (X1.out.trans H.out.x)
      have t1 : (k : Int) < n := by omega
      have htk := take_succ_si (l := l) (k := k) (by rw [← Hn.out]; exact hlt)
      have hO := ixs_snoc isO (l.take k) 0 (si l k)
      have hT := ixs_snoc isT (l.take k) 0 (si l k)
      rw [← htk, Nat.zero_add, List.length_take, Nat.min_eq_left (by rw [← Hn.out]; exact hk)] at hO hT
      have hl1 := ixs_len isO (l.take k) 0
      have hl2 := ixs_len isT (l.take k) 0
      rw [List.length_take, Nat.min_eq_left (by rw [← Hn.out]; exact hk)] at hl1 hl2
      obtain ⟨X, hX⟩ : ∃ X, X = ixs isO 0 (l.take k) := ⟨_, rfl⟩
      obtain ⟨Y, hY⟩ : ∃ Y, Y = ixs isT 0 (l.take k) := ⟨_, rfl⟩
      rw [← hX] at hO hl1 H
      rw [← hY] at hT hl2 H
      obtain ⟨S, hS⟩ : ∃ S, S = si l k := ⟨_, rfl⟩
      rw [← hS] at s0 s1 s2 s3 s4 hO hT
      have HO := Lib.hid hO; have HT := Lib.hid hT
      have HZ := Lib.hid (fun w' (x : Ext wr w') => x.cell s0)
      clear z htk hX hY hO hT hS s1 s2 s3 s4
      by_cases k3 : S.k = 3
      · have hO := HO.out; have hT := HT.out
        rw [if_pos (show isO S = true from decide_eq_true k3)] at hO
        rw [if_neg (show ¬ isT S = true by unfold isT; rw [decide_eq_true_iff]; omega), List.append_nil] at hT
        replace HO := Lib.hid hO; replace HT := Lib.hid hT
        have b3 : (S.k == 3) = true := by rw [beq_iff_eq]; exact k3
        have b4 : (S.k == 4) = false := beq_eq_false_iff_ne.2 (by omega)
        have b5 : (S.k == 5) = false := beq_eq_false_iff_ne.2 (by omega)
        have H1 := Lib.hid (H.out.later ((Ext.refl _).alloc (.cells #[.int .i64 (k : Int)] 3)))
        have hsz := H1.out.x.size
        clear hO hT k3
        go_wp2_with (at_builtin; refine app_lies eiInt rfl _ _ rfl w1.heap.size _ X.length _ rfl H1.out.a _ _ _ rfl (VS.oneAt (by simp)) (one_i _) ?a1 ?a2 ?a3 (by simp) ?_)
        any_goals (first | omega | (simp; omega) | (simp at hsz ⊢; omega))
        intro g cap w' hown hgr hlies
        have s0' := (H.out.later ((Ext.refl _).alloc (.cells #[.int .i64 (k : Int)] 3))).x
        have HN := Lib.hid (H1.out.push hown hgr (by simpa using hlies))
        have s9 : w'.cell? ⟨b, o + k * 5, none⟩ = some (.int .u8 S.k) := by
          obtain ⟨b', o', hao, z⟩ := HA.out k hlt
          simp only [Option.some.injEq, Addr.mk.injEq, and_true] at hao
          obtain ⟨rfl, rfl⟩ := hao
          have h1 := (z.ext (X1.out.trans HN.out.x)).1
          have h2 := (z.ext (X1.out.trans H.out.x)).1
          rw [s0] at h2
          simp only [Option.some.injEq, Value.int.injEq, true_and] at h2
          rw [h1, h2]
        clear hown hgr hlies s0 s0' hsz
        go_wp2
        go_roundw
        case rel => exact ⟨k + 1, by omega, by go_num, by rw [HO.out, HT.out]; exact HN⟩
        case measure => simp [intOf]; omega
      have b3 : (S.k == 3) = false := beq_eq_false_iff_ne.2 k3
      by_cases k4 : S.k = 4 ∨ S.k = 5
      · have hO := HO.out; have hT := HT.out
        rw [if_neg (show ¬ isO S = true by unfold isO; rw [decide_eq_true_iff]; exact k3), List.append_nil] at hO
        rw [if_pos (show isT S = true from decide_eq_true k4)] at hT
        replace HO := Lib.hid hO; replace HT := Lib.hid hT
        have H1 := Lib.hid (H.out.later ((Ext.refl _).alloc (.cells #[.int .i64 (k : Int)] 3)))
        have hsz := H1.out.x.size
        clear hO hT k3
        rcases k4 with k4 | k4
        · have b4 : (S.k == 4) = true := by rw [beq_iff_eq]; exact k4
          clear k4
          go_wp2_with (at_builtin; refine app_lies eiInt rfl _ _ rfl w1.heap.size _ Y.length _ rfl H1.out.b _ _ _ rfl (VS.oneAt (by simp)) (one_i _) ?a4 ?a5 ?a6 (by simp) ?_)
          any_goals (first | omega | (simp; omega) | (simp at hsz ⊢; omega))
          intro g cap w' hown hgr hlies
          have HN := Lib.hid (H1.out.swap.push hown hgr (by simpa using hlies)).swap
          clear hown hgr hlies hsz
          go_wp2
          go_roundw
          case rel => exact ⟨k + 1, by omega, by go_num, by rw [HO.out, HT.out]; exact HN⟩
          case measure => simp [intOf]; omega
        · have b4 : (S.k == 4) = false := beq_eq_false_iff_ne.2 (by omega)
          have b5 : (S.k == 5) = true := by rw [beq_iff_eq]; exact k4
          clear k4
          go_wp2_with (at_builtin; refine app_lies eiInt rfl _ _ rfl w1.heap.size _ Y.length _ rfl H1.out.b _ _ _ rfl (VS.oneAt (by simp)) (one_i _) ?a7 ?a8 ?a9 (by simp) ?_)
          any_goals (first | omega | (simp; omega) | (simp at hsz ⊢; omega))
          intro g cap w' hown hgr hlies
          have HN := Lib.hid (H1.out.swap.push hown hgr (by simpa using hlies)).swap
          clear hown hgr hlies hsz
          go_wp2
          go_roundw
          case rel => exact ⟨k + 1, by omega, by go_num, by rw [HO.out, HT.out]; exact HN⟩
          case measure => simp [intOf]; omega
      · have hO := HO.out; have hT := HT.out
        rw [if_neg (show ¬ isO S = true by unfold isO; rw [decide_eq_true_iff]; exact k3), List.append_nil] at hO
        rw [if_neg (show ¬ isT S = true by unfold isT; rw [decide_eq_true_iff]; exact k4), List.append_nil] at hT
        have b4 : (S.k == 4) = false := beq_eq_false_iff_ne.2 (by omega)
        have b5 : (S.k == 5) = false := beq_eq_false_iff_ne.2 (by omega)
        replace HO := Lib.hid hO; replace HT := Lib.hid hT
        clear hO hT k3 k4
        go_wp2
        go_roundw
        case rel => exact ⟨k + 1, by omega, by go_num, by rw [HO.out, HT.out]; exact H⟩
        case measure => simp [intOf]; omega
    · obtain rfl : k = n := by omega
      have t1 : ¬ (k : Int) < k := by omega
      have H2 := H.out
      rw [List.take_of_length_le (by rw [← Hn.out]; exact Nat.le_refl _)] at H2
      obtain ⟨ca, ha⟩ := IS.of_own H2.a
      obtain ⟨cb, hb⟩ := IS.of_own H2.b
      have X2 := Lib.hid H2.x
      obtain ⟨aa, na, rfl, hna, hnc, hmm, hea⟩ := ha.ent
      obtain ⟨ab, nb, rfl, hnb, hnc2, hmm2, heb⟩ := hb.ent
      have hlO := ixs_len isO l 0
      have HEa := Lib.hid hea; have HEb := Lib.hid heb; have HNa := Lib.hid hna; have HNb := Lib.hid hnb
      have hna40 : na ≤ 40 := by have := HL.out; omega
      clear H H2 ha hb hea heb hna hnb hlO
      go_wp2_with fail
      refine (HKp.out HL.out _ (X1.out.trans X2.out)).mono ?_
      rintro e w3 ⟨rfl, x3⟩
      have X3 := Lib.hid ((X1.out.trans X2.out).trans x3); have Y3 := Lib.hid x3
      clear x3
      go_wp2_with fail
      refine (HNd.out HL.out _ X3.out).mono ?_
      rintro e w4 ⟨rfl, x4⟩
      have X4 := Lib.hid (X3.out.trans x4); have Y4 := Lib.hid (Y3.out.trans x4)
      clear x4
      go_wp2_with fail
      refine (HMk.out HL.out _ X4.out).mono ?_
      rintro e w5 ⟨rfl, x5⟩
      have X5 := Lib.hid (X4.out.trans x5); have Y5 := Lib.hid (Y4.out.trans x5)
      have HLv5 := Lib.hid (fun w' (x : Ext w5 w') => HLv.out w' (X5.out.trans x))
      clear x5 HKp HNd HMk
      have hdk : (decide (rmake l = rneed l)) = (rneed l == rmake l) := by
        by_cases e : rmake l = rneed l
        · rw [decide_eq_true e, e]; simp
        · rw [decide_eq_false e]; exact (beq_eq_false_iff_ne.2 (fun h => e h.symm)).symm
      rw [hdk]
      obtain ⟨bb, hbb⟩ : ∃ bb, bb = (rneed l == rmake l) := ⟨_, rfl⟩
      rw [← hbb]
      have hb2 : (rneed l == rmake l) = bb := hbb.symm
      have hb3 : (bb == bb) = true := by simp
      have hb4 : (bb != bb) = false := by simp
      obtain ⟨RN, hRN⟩ : ∃ RN, RN = rneed l := ⟨_, rfl⟩
      obtain ⟨RM, hRM⟩ : ∃ RM, RM = rmake l := ⟨_, rfl⟩
      rw [← hRN, ← hRM] at hb2
      rw [← hRN, ← hRM]
      clear hdk hbb hRN hRM
      by_cases hab : na = nb
      · subst hab
        have b1 : ((na : Int) != (na : Int)) = false := by simp
        have hpv := HPv.out
        rw [← HNa.out, ← HNb.out] at hpv
        obtain ⟨hp0, g, hpg, hpc⟩ : PE = 0 ∧ ∃ g, Value.slice pa pc pc = .slice (some ⟨g, 0, none⟩) na na ∧ ∀ i, i < na → w1.cell? ⟨g, i * 2, none⟩ = some (.int .i64 (gi (ixs isO 0 l) i)) ∧ w1.cell? ⟨g, i * 2 + 1, none⟩ = some (.int .i64 (gi (ixs isT 0 l) i)) := by
          rcases hpv with ⟨h1, _, g, h2, h3⟩ | ⟨_, h2, _⟩
          · exact ⟨h1, g, h2, h3⟩
          · exact absurd rfl h2
        simp only [Value.slice.injEq] at hpg
        obtain ⟨rfl, rfl, _⟩ := hpg
        subst hp0
        have HPc := Lib.hid hpc
        clear hpv hpc
        go_wp2
        obtain ⟨wo, hwo⟩ : ∃ wo : World, wo = w5 := ⟨_, rfl⟩
        go_loopw [8] (fun i ws => ∃ j : Nat, j ≤ pc ∧ i = .int .i64 j ∧ Hid (Ext w5 ws)) (fun i _ => pc - (intOf i).toNat)
        case atStart => exact ⟨0, Nat.zero_le _, rfl, Lib.hid (Ext.refl _)⟩
        case round =>
          obtain ⟨j, hj, rfl, HJ⟩ := hrel
          by_cases hjl : j < pc
          · have t3 : (j : Int) < pc := by omega
            obtain ⟨b1', o1', rfl, ea0⟩ := HEa.out j hjl
            obtain ⟨b2', o2', rfl, eb0⟩ := HEb.out j hjl
            obtain ⟨pc0, pc1⟩ := HPc.out j hjl
            have ea := (Y5.out.trans HJ.out).cell ea0; have eb := (Y5.out.trans HJ.out).cell eb0
            have ec := (X2.out.trans (Y5.out.trans HJ.out)).cell pc0; have ed := (X2.out.trans (Y5.out.trans HJ.out)).cell pc1
            have hneq := run_pr_neq (gi (ixs isO 0 l) j) (gi (ixs isT 0 l) j)
            obtain ⟨GX, hGX⟩ : ∃ GX, GX = gi (ixs isO 0 l) j := ⟨_, rfl⟩
            obtain ⟨GY, hGY⟩ : ∃ GY, GY = gi (ixs isT 0 l) j := ⟨_, rfl⟩
            rw [← hGX, ← hGY] at hneq
            rw [← hGX] at ea ec
            rw [← hGY] at eb ed
            clear ea0 eb0 pc0 pc1 hGX hGY
            go_wp2
            go_quiet (fail)
            clear ea eb ec ed hneq
            go_wp2
            go_roundw
            case rel => exact ⟨j + 1, by omega, by go_num, by first | exact HJ | exact Lib.hid (HJ.out.drewN _)⟩
            case measure => simp [intOf]; omega
          · obtain rfl : j = pc := by omega
            have t3 : ¬ (j : Int) < (j : Int) := by omega
            go_wp2_with fail
            refine (HLv5.out _ HJ.out).mono ?_
            rintro e w6 ⟨rfl, x6⟩
            have XZ := Lib.hid (X5.out.trans (HJ.out.trans x6))
            clear x6
            go_wp2
            go_ret
            exact ⟨rfl, XZ.out⟩
      · have b1 : ((na : Int) != (nb : Int)) = true := by rw [bne, beq_eq_false_iff_ne.2 (by omega)]; rfl
        rcases HPv.out with ⟨_, hpl, _⟩ | ⟨hp0, hpl, hpv⟩
        · exact absurd (by rw [HNa.out, HNb.out, hpl]) hab
        simp only [Value.slice.injEq] at hpv
        obtain ⟨rfl, rfl, _⟩ := hpv
        subst hp0
        clear hpl hab
        go_wp2_with fail
        refine (HLv5.out _ (Ext.refl _)).mono ?_
        rintro e w6 ⟨rfl, x6⟩
        have XZ := Lib.hid (X5.out.trans x6)
        clear x6
        go_wp2
        go_ret
        exact ⟨rfl, XZ.out⟩
end Go.Proofs.YthllbcjglcplhaaDoor
/- LacesMirror. -/
namespace Go.Proofs.YthllbcjglcplhaaDoor
set_option linter.unusedVariables false
set_option linter.unusedSimpArgs false
set_option maxRecDepth 8000
open Go Go.RowKit

theorem rowE_len {W : Int} : ∀ {r : List Ho} {f : Int}, rowE W r f = true → f ≤ W → 2 * (r.length : Int) ≤ W - f
  | [], f, _, hf => by simp; omega
  | a :: t, f, e, hf => by
    obtain ⟨⟨b1, b2, b3, b4⟩, h2⟩ := rowE_cons.1 e
    have := rowE_len h2 (by omega)
    unfold Ho.lst at *
    simp only [List.length_cons]
    omega
/-- What is known of a valid lace. -/
theorem lace_bd {W : Nat} {rows : List (List Ho)} (h : lchk W rows = 0) : (2 ≤ W ∧ W ≤ 16) ∧ rows.length ≤ 31 ∧ (∀ i, i < rows.length → (ow rows i).length ≤ 1000) ∧ ∀ i, i < rows.length → ∀ h ∈ ow rows i, 0 ≤ h.p ∧ h.p ≤ 1000 := by
  obtain ⟨h1, h2, h3, h4, h5⟩ := lchk_zero h
  refine ⟨by omega, h1, fun i hi => ?_, fun i hi x hx => ?_⟩
  · have := rowE_len (h5 i hi) (by omega); omega
  · obtain ⟨a, b, _, _⟩ := rowE_all (h5 i hi) x hx
    exact ⟨a, by omega⟩
theorem lcE_ok {W : Nat} {y : Int} {rows : List (List Ho)} (h : lchk W rows = 0) (hy : 1 ≤ y ∧ y ≤ 6) : lcE W y rows = 0 ∧ lcR W y rows = lch W y rows := by
  have h1 : lcE W y rows = 0 := by unfold lcE; rw [if_neg (by omega), if_neg (by omega)]
  exact ⟨h1, by unfold lcR; rw [if_pos h1, Int.toNat_natCast]⟩
set_option maxHeartbeats 8000000 in
theorem LacesMirror_walk (wd : Int) (v : Value) (c : Nat) (chs : List (List Int)) (w : World) (h : ISS .u8 w v c chs) (hw : 0 ≤ wd ∧ wd ≤ 255) (hb : ∀ k, k < chs.length → ∀ i, i < (ri chs k).length → 0 ≤ gi (ri chs k) i ∧ gi (ri chs k) i ≤ 255) (hy : Sy w) :
    Calls Tryd.prog 8 #[.agg #[.int .u8 wd, v]] w (RetT w) := by
  have hof := fun w' (x : Ext w w') => AOf_calls wd v c chs w' (h.ext x) hw hb
  have hlv := fun w' (x : Ext w w') => lives20_calls w' (hy.ext x)
  obtain ⟨vs, caps, hV⟩ := h
  obtain ⟨ao, n, rfl, hn, hc, hcm, hat⟩ := hV.outs2
  obtain ⟨B, hB⟩ : ∃ B, B = w.alloc (.cells #[.int .u8 wd, .slice ao n c] 56) := ⟨_, rfl⟩
  have xB : Ext w B := by rw [hB]; exact (Ext.refl w).alloc _
  have hB1 := B2.new w (.int .u8 wd) (.slice ao n c) 56
  rw [← hB] at hB1
  have e0 := hB1.c0; have e1 := hB1.c1
  have HOf := Lib.hid (hof B xB); have HLv := Lib.hid hlv; have XB := Lib.hid xB; have HB := Lib.hid hB
  rw [hB] at e0 e1
  clear hV hn hc hcm hat hB xB hB1 hof hlv hw hb hy
  go_enter Tryd.func8, Tryd.ntmps8
  go_wp2_with fail
  rw [← HB.out]
  refine HOf.out.mono ?_
  rintro e w1 ⟨V, v1, c1, rows, rfl, hr, hk, hr9, x1⟩
  obtain ⟨⟨hV2, hV16⟩, hrl, hbl, hbp⟩ := lace_bd hk
  obtain ⟨hcE, hcR⟩ := lcE_ok hk (y := 1) (by omega)
  have hkm := lchk_mir hk
  obtain ⟨hmE, hmR⟩ := lcE_ok hkm (y := 1) (by omega)
  obtain ⟨⟨_, _⟩, hrlm, hblm, hbpm⟩ := lace_bd hkm
  have hlm := lch_mir (y := 1) (by omega) (lchk_zero hk).2.2.2.2
  obtain ⟨a1, n1, rfl, o1, o2, o3, o4⟩ := hr.open; clear o1 o2 o3 o4
  obtain ⟨W1, hW1⟩ : ∃ W1, W1 = w1.alloc (.cells #[.int .i64 (V : Int), .slice a1 n1 c1] 24) := ⟨_, rfl⟩
  have xW1 : Ext w1 W1 := by rw [hW1]; exact (Ext.refl w1).alloc _
  have hb3 : B2 W1 w1.heap.size (.int .i64 (V : Int)) (.slice a1 n1 c1) 24 := by rw [hW1]; exact B2.new _ _ _ _
  have HR1 := Lib.hid (hr.ext xW1); have HW1 := Lib.hid hW1; have HB3 := Lib.hid hb3; have X1 := Lib.hid (XB.out.trans (x1.trans xW1))
  have f0 := hb3.c0; have f1 := hb3.c1
  have hmr := LMirror_calls V _ _ rows W1 (hr.ext xW1) (by omega) hbl (by omega) hbp
  have HMr := Lib.hid hmr; have HcE := Lib.hid hcE; have HcR := Lib.hid hcR; have HmE := Lib.hid hmE; have HmR := Lib.hid hmR; have HLm := Lib.hid hlm; have Hkm := Lib.hid hkm; have HBlm := Lib.hid hblm; have HBpm := Lib.hid hbpm; have HRlm := Lib.hid hrlm
  rw [hW1] at f0 f1
  clear hr hk x1 xW1 hb3 hW1 hmr hcE hcR hmE hmR hlm hkm hbl hbp hblm hbpm hrlm hr9 hrl e0 e1 HOf
  go_wp2_with fail
  rw [← HW1.out]
  refine HMr.out.mono ?_
  rintro e w2 ⟨v2, rfl, hr2, x2⟩
  obtain ⟨a2, n2, rfl, o1, o2, o3, o4⟩ := hr2.open; clear o1 o2 o3 o4
  obtain ⟨c2, hc2⟩ : ∃ c2, c2 = (lmir V rows).length := ⟨_, rfl⟩
  rw [← hc2] at hr2 ⊢
  obtain ⟨W2, hW2⟩ : ∃ W2, W2 = w2.alloc (.cells #[.int .i64 (V : Int), .slice a2 n2 c2] 24) := ⟨_, rfl⟩
  have xW2 : Ext w2 W2 := by rw [hW2]; exact (Ext.refl w2).alloc _
  have hb4 : B2 W2 w2.heap.size (.int .i64 (V : Int)) (.slice a2 n2 c2) 24 := by rw [hW2]; exact B2.new _ _ _ _
  have HR2 := Lib.hid (hr2.ext xW2); have HW2 := Lib.hid hW2; have HB4 := Lib.hid hb4; have Y2 := Lib.hid (x2.trans xW2); have X2 := Lib.hid (X1.out.trans (x2.trans xW2))
  have f0 := (HB3.out.ext Y2.out).c0; have f1 := (HB3.out.ext Y2.out).c1
  have hct := LChart_calls V 1 _ _ rows W2 (HR1.out.ext Y2.out) (by omega)
  rw [HcE.out, HcR.out] at hct
  have HCt := Lib.hid hct
  rw [hW2] at f0 f1
  clear hr2 hc2 x2 xW2 hb4 hW2 hct HMr
  go_wp2_with fail
  rw [← HW2.out]
  refine HCt.out.mono ?_
  rintro e w3 ⟨v3, rfl, hr3, x3⟩
  obtain ⟨a3, n3, rfl, o1, o2, o3, o4⟩ := hr3.open; clear o1 o2 o3 o4
  obtain ⟨c3, hc3⟩ : ∃ c3, c3 = (lch V 1 rows).length := ⟨_, rfl⟩
  rw [← hc3] at hr3 ⊢
  obtain ⟨W3, hW3⟩ : ∃ W3, W3 = w3.alloc (.cells #[.slice a3 n3 c3] 28) := ⟨_, rfl⟩
  have xW3 : Ext w3 W3 := by rw [hW3]; exact (Ext.refl w3).alloc _
  have hb5 : W3.cell? ⟨w3.heap.size, 0, none⟩ = some (.slice a3 n3 c3) := by rw [hW3, World.cell?_alloc_at (hn := rfl)]; rfl
  have HR3 := Lib.hid (hr3.ext xW3); have HW3 := Lib.hid hW3; have HB5 := Lib.hid hb5; have Y3 := Lib.hid (x3.trans xW3); have Z3 := Lib.hid (Y2.out.trans (x3.trans xW3)); have X3 := Lib.hid (X2.out.trans (x3.trans xW3))
  have g0 := (HB4.out.ext Y3.out).c0; have g1 := (HB4.out.ext Y3.out).c1
  have hcm := LChart_calls V 1 _ _ (lmir V rows) W3 (HR2.out.ext Y3.out) (by omega)
  rw [HmE.out, HmR.out] at hcm
  have HCm := Lib.hid hcm
  rw [hW3] at g0 g1
  clear hr3 hc3 x3 xW3 hb5 hW3 hcm HCt f0 f1
  go_wp2_with fail
  rw [← HW3.out]
  refine HCm.out.mono ?_
  rintro e w4 ⟨v4, rfl, hr4, x4⟩
  obtain ⟨a4, n4, rfl, o1, o2, o3, o4⟩ := hr4.open; clear o1 o2 o3 o4
  obtain ⟨c4, hc4⟩ : ∃ c4, c4 = (lch V 1 (lmir V rows)).length := ⟨_, rfl⟩
  rw [← hc4] at hr4 ⊢
  obtain ⟨W4, hW4⟩ : ∃ W4, W4 = w4.alloc (.cells #[.slice a4 n4 c4] 28) := ⟨_, rfl⟩
  have xW4 : Ext w4 W4 := by rw [hW4]; exact (Ext.refl w4).alloc _
  have q0_4 : W4.cell? ⟨w4.heap.size, 0, none⟩ = some (.slice a4 n4 c4) := by rw [hW4, World.cell?_alloc_at (hn := rfl)]; rfl
  have Y4 := Lib.hid (x4.trans xW4); have Z4 := Lib.hid (Z3.out.trans (x4.trans xW4)); have X4 := Lib.hid (X3.out.trans (x4.trans xW4)); have U4 := Lib.hid (Y3.out.trans (x4.trans xW4))
  have HR4 := Lib.hid (hr4.ext xW4); have HW4 := Lib.hid hW4
  have q0_1 := (HB4.out.ext U4.out).c0; have q0_2 := (HB4.out.ext U4.out).c1
  have q0_3 := Y4.out.cell HB5.out
  have q0_5 := (HB3.out.ext Z4.out).c0; have q0_6 := (HB3.out.ext Z4.out).c1
  -- contracts
  have hk5 := fun w' (x : Ext W4 w') => RCheck20_calls V _ _ (lmir V rows) w' (HR2.out.ext (U4.out.trans x))
  rw [Hkm.out] at hk5
  have hcm5 := fun w' (x : Ext W4 w') => CMirror_calls _ _ (lch V 1 rows) w' (HR3.out.ext (Y4.out.trans x)) (by rw [lch_len]; have := HRlm.out; rw [lmir_len] at this; omega) (fun i hi => by rw [lch_len] at hi; rw [lch_sw hi, lrow_len]; omega)
  rw [← HLm.out] at hcm5
  have hdf5 := fun w' (x : Ext W4 w') u d (hu : RR w' u d (lch V 1 (lmir V rows))) => Differ_calls u _ d _ (lch V 1 (lmir V rows)) (lch V 1 (lmir V rows)) w' hu (HR4.out.ext x)
  have hlm5 := fun w' (x : Ext W4 w') => LMirror_calls V _ _ (lmir V rows) w' (HR2.out.ext (U4.out.trans x)) (by have := HRlm.out; omega) HBlm.out (by omega) HBpm.out
  rw [lmir_lmir] at hlm5
  have hhd5 := fun w' (x : Ext W4 w') u d (hu : HR w' u d rows) => hdf_c V u _ d _ rows w' hu (HR1.out.ext (Z4.out.trans x))
  simp only [dif_same] at hdf5
  have HK5 := Lib.hid hk5; have HCM5 := Lib.hid hcm5; have HDF5 := Lib.hid hdf5; have HLM5 := Lib.hid hlm5; have HHD5 := Lib.hid hhd5
  have HLv5 := Lib.hid (fun w' (x : Ext W4 w') => HLv.out w' (X4.out.trans x))
  rw [hW4] at q0_1 q0_2 q0_3 q0_4 q0_5 q0_6
  clear hr4 hc4 x4 xW4 hW4 hk5 hcm5 hdf5 hlm5 hhd5 HCm g0 g1 HLv
  go_wp2
  rw [← HW4.out]
  rw [← HW4.out] at q0_1 q0_2 q0_3 q0_4 q0_5 q0_6
  go_region_held3 (fun w' => w'.cell? ⟨w2.heap.size, 0, Option.none⟩ = some (.int .i64 (V : Int)) ∧ w'.cell? ⟨w2.heap.size, 1, Option.none⟩ = some (.slice a2 n2 c2) ∧ w'.cell? ⟨w3.heap.size, 0, Option.none⟩ = some (.slice a3 n3 c3) ∧ w'.cell? ⟨w4.heap.size, 0, Option.none⟩ = some (.slice a4 n4 c4) ∧ w'.cell? ⟨w1.heap.size, 0, Option.none⟩ = some (.int .i64 (V : Int)) ∧ w'.cell? ⟨w1.heap.size, 1, Option.none⟩ = some (.slice a1 n1 c1)) (first | (with_reducible exact ⟨q0_1, q0_2, q0_3, q0_4, q0_5, q0_6⟩) | (with_reducible exact ⟨q1_1, q1_2, q1_3, q1_4, q1_5, q1_6⟩) | (with_reducible exact ⟨q2_1, q2_2, q2_3, q2_4, q2_5, q2_6⟩) | (with_reducible exact ⟨q3_1, q3_2, q3_3, q3_4, q3_5, q3_6⟩) | (with_reducible exact ⟨q4_1, q4_2, q4_3, q4_4, q4_5, q4_6⟩) | (with_reducible exact ⟨q5_1, q5_2, q5_3, q5_4, q5_5, q5_6⟩) | (with_reducible exact ⟨q6_1, q6_2, q6_3, q6_4, q6_5, q6_6⟩) | go_keep) (first
    | (go_at_call 12; (refine (HK5.out _ ?_).mono ?_); (focus (repeat (first | (with_reducible exact Ext.refl _) | (with_reducible apply Ext.drew) | (with_reducible apply Ext.drewN) | (with_reducible apply Ext.alloc)))); intro e wa hh; obtain ⟨rfl, x⟩ := hh; have Xa : Hid (Ext W4 wa) := Lib.hid (Ext.trans (by ((repeat (first | (with_reducible exact Ext.refl _) | (with_reducible apply Ext.drew) | (with_reducible apply Ext.drewN) | (with_reducible apply Ext.alloc))); done)) x); have q1_1 := Xa.out.cell q0_1; have q1_2 := Xa.out.cell q0_2; have q1_3 := Xa.out.cell q0_3; have q1_4 := Xa.out.cell q0_4; have q1_5 := Xa.out.cell q0_5; have q1_6 := Xa.out.cell q0_6; clear x)
    | (go_at_call 31; (refine (HCM5.out _ ?_).mono ?_); (focus (refine Ext.trans Xa.out ?_; (repeat (first | (with_reducible exact Ext.refl _) | (with_reducible apply Ext.drew) | (with_reducible apply Ext.drewN) | (with_reducible apply Ext.alloc))))); intro e wb hh; obtain ⟨vb, rfl, rb, x⟩ := hh; have Xb : Hid (Ext W4 wb) := Lib.hid (Ext.trans Xa.out (Ext.trans (by ((repeat (first | (with_reducible exact Ext.refl _) | (with_reducible apply Ext.drew) | (with_reducible apply Ext.drewN) | (with_reducible apply Ext.alloc))); done)) x)); have q2_1 := Xb.out.cell q0_1; have q2_2 := Xb.out.cell q0_2; have q2_3 := Xb.out.cell q0_3; have q2_4 := Xb.out.cell q0_4; have q2_5 := Xb.out.cell q0_5; have q2_6 := Xb.out.cell q0_6; obtain ⟨ab, nb, hv, jj⟩ := rb.open; subst hv; have Rb := Lib.hid rb; clear rb jj; clear x)
    | (go_at_call 30; (refine (HDF5.out _ ?_ _ _ (Rb.out.ext ?_)).mono ?_); (focus (refine Ext.trans Xb.out ?_; (repeat (first | (with_reducible exact Ext.refl _) | (with_reducible apply Ext.drew) | (with_reducible apply Ext.drewN) | (with_reducible apply Ext.alloc))))); (focus (repeat (first | (with_reducible exact Ext.refl _) | (with_reducible apply Ext.drew) | (with_reducible apply Ext.drewN) | (with_reducible apply Ext.alloc)))); intro e wc hh; obtain ⟨rfl, x⟩ := hh; have Xc : Hid (Ext W4 wc) := Lib.hid (Ext.trans Xb.out (Ext.trans (by ((repeat (first | (with_reducible exact Ext.refl _) | (with_reducible apply Ext.drew) | (with_reducible apply Ext.drewN) | (with_reducible apply Ext.alloc))); done)) x)); have q3_1 := Xc.out.cell q0_1; have q3_2 := Xc.out.cell q0_2; have q3_3 := Xc.out.cell q0_3; have q3_4 := Xc.out.cell q0_4; have q3_5 := Xc.out.cell q0_5; have q3_6 := Xc.out.cell q0_6; clear x)
    | (go_at_call 29; (refine (HLM5.out _ ?_).mono ?_); (focus (refine Ext.trans Xc.out ?_; (repeat (first | (with_reducible exact Ext.refl _) | (with_reducible apply Ext.drew) | (with_reducible apply Ext.drewN) | (with_reducible apply Ext.alloc))))); intro e wd5 hh; obtain ⟨vd, rfl, rd, x⟩ := hh; have Xd : Hid (Ext W4 wd5) := Lib.hid (Ext.trans Xc.out (Ext.trans (by ((repeat (first | (with_reducible exact Ext.refl _) | (with_reducible apply Ext.drew) | (with_reducible apply Ext.drewN) | (with_reducible apply Ext.alloc))); done)) x)); have q4_1 := Xd.out.cell q0_1; have q4_2 := Xd.out.cell q0_2; have q4_3 := Xd.out.cell q0_3; have q4_4 := Xd.out.cell q0_4; have q4_5 := Xd.out.cell q0_5; have q4_6 := Xd.out.cell q0_6; obtain ⟨ad, nd, hv, jj⟩ := rd.open; subst hv; have Rd := Lib.hid rd; clear rd jj; clear x)
    | (go_at_call 21; (refine (HHD5.out _ ?_ _ _ (Rd.out.ext ?_)).mono ?_); (focus (refine Ext.trans Xd.out ?_; (repeat (first | (with_reducible exact Ext.refl _) | (with_reducible apply Ext.drew) | (with_reducible apply Ext.drewN) | (with_reducible apply Ext.alloc))))); (focus (repeat (first | (with_reducible exact Ext.refl _) | (with_reducible apply Ext.drew) | (with_reducible apply Ext.drewN) | (with_reducible apply Ext.alloc)))); intro e we hh; obtain ⟨rfl, x⟩ := hh; have Xe : Hid (Ext W4 we) := Lib.hid (Ext.trans Xd.out (Ext.trans (by ((repeat (first | (with_reducible exact Ext.refl _) | (with_reducible apply Ext.drew) | (with_reducible apply Ext.drewN) | (with_reducible apply Ext.alloc))); done)) x)); have q5_1 := Xe.out.cell q0_1; have q5_2 := Xe.out.cell q0_2; have q5_3 := Xe.out.cell q0_3; have q5_4 := Xe.out.cell q0_4; have q5_5 := Xe.out.cell q0_5; have q5_6 := Xe.out.cell q0_6; clear x)
    | (go_at_call 17; (refine (HLv5.out _ ?_).mono ?_); (focus (refine Ext.trans Xe.out ?_; (repeat (first | (with_reducible exact Ext.refl _) | (with_reducible apply Ext.drew) | (with_reducible apply Ext.drewN) | (with_reducible apply Ext.alloc))))); intro e wf hh; obtain ⟨rfl, x⟩ := hh; have Xf : Hid (Ext W4 wf) := Lib.hid (Ext.trans Xe.out (Ext.trans (by ((repeat (first | (with_reducible exact Ext.refl _) | (with_reducible apply Ext.drew) | (with_reducible apply Ext.drewN) | (with_reducible apply Ext.alloc))); done)) x)); have q6_1 := Xf.out.cell q0_1; have q6_2 := Xf.out.cell q0_2; have q6_3 := Xf.out.cell q0_3; have q6_4 := Xf.out.cell q0_4; have q6_5 := Xf.out.cell q0_5; have q6_6 := Xf.out.cell q0_6; clear x))
  try go_wp2
  go_ret
  exact ⟨rfl, X4.out.trans Xf.out⟩
end Go.Proofs.YthllbcjglcplhaaDoor
