/- Texts of this claim in one file: libraries and walks. -/
import Derived.Test.YthllbcjglcplhaaDoorL14
import Derived.Test.YthllbcjglcplhaaDoorL15
import Derived.Test.YthllbcjglcplhaaDoorL17
/- LacesPairs. -/
namespace Go.Proofs.YthllbcjglcplhaaDoor
set_option linter.unusedVariables false
set_option linter.unusedSimpArgs false
set_option maxRecDepth 8000
open Go Go.RowKit

theorem run_pr_equal (a b c d : Int) (w : World) : (Op.equalIn 10000 66 (.agg #[.int .i64 a, .int .i64 b]) (.agg #[.int .i64 c, .int .i64 d])).run Tryd.prog w = .ok (a == c && b == d) w := by
  have u3 := Tryd.underlying3
  have a3 := Tryd.isAgg3
  have z3 := Tryd.sizeOf3
  rw [show (10000 : Nat) = 9999 + 1 from rfl, Op.equalIn]
  simp only [Sem.run_bind, run_underlying Tryd.underlying66, Result.andThen_ok]
  simp only [Std.Legacy.Range.forIn_eq_forIn_range', Std.Legacy.Range.size, Nat.sub_zero, Nat.add_sub_cancel, Nat.div_one, List.range'_succ, List.range'_zero, List.forIn_cons, List.forIn_nil]
  go_simp
  by_cases h1 : a = c <;> by_cases h2 : b = d <;> simp [h1, h2]
theorem run_pr_neq (a b : Int) (w : World) : (binOp .neq 66 (.agg #[.int .i64 a, .int .i64 b]) (.agg #[.int .i64 a, .int .i64 b])).run Tryd.prog w = .ok (.bool false) w := by
  rw [run_neq_struct, run_pr_equal]
  simp [Result.andThen]
/-- true is returned. -/
def RetT (w0 : World) (e : Ending) (w' : World) : Prop := e = .returned (.bool true) ∧ Ext w0 w'
set_option maxHeartbeats 4000000 in
theorem LacesPairs_walk (v : Value) (c : Nat) (l : List St) (w : World) (h : RS w v c l) (hs : ∀ s ∈ l, St.In s) (hy : Sy w) : Calls Tryd.prog 7 #[v] w (RetT w) := by
  have hll : l.length ≤ 40 → l.length ≤ 10000 := by omega
  have hpr := fun (hl : l.length ≤ 40) => Pairs_calls v c l w h (hll hl)
  have hkp := fun (hl : l.length ≤ 40) w' (x : Ext w w') => Keeps_calls v c l w' (h.ext x) (by omega)
  have hs' : ∀ i, i < l.length → 0 ≤ (si l i).k ∧ 0 ≤ (si l i).y := fun i hi => by
    have := hs _ (si_mem hi); unfold St.In at this; omega
  have hnd := fun (hl : l.length ≤ 40) w' (x : Ext w w') => RRowNeeds_calls v c l w' (h.ext x) (by omega) hs'
  have hmk := fun (hl : l.length ≤ 40) w' (x : Ext w w') => RRowMakes_calls v c l w' (h.ext x) (by omega) hs'
  have hlv := fun w' (x : Ext w w') => lives20_calls w' (hy.ext x)
  obtain ⟨ao, n, rfl, hn, hc, hcm, hat⟩ := h.open
  unfold maxLen at hcm
  have HPr := Lib.hid hpr; have HKp := Lib.hid hkp; have HNd := Lib.hid hnd; have HMk := Lib.hid hmk; have HLv := Lib.hid hlv; have HA := Lib.hid hat; have Hn := Lib.hid hn
  clear h hs hy hpr hkp hnd hmk hlv hat hn hs' hll
  go_enter Tryd.func7, Tryd.ntmps7
  by_cases h40 : 40 < n
  · have t0 : (40 : Int) < n := by omega
    clear h40
    go_wp2
    go_ret
    exact ⟨rfl, Ext.refl w⟩
  have t0 : ¬ (40 : Int) < n := by omega
  have HL := Lib.hid (show l.length ≤ 40 by have := Hn.out; omega)
  go_wp2_with fail
  refine (HPr.out HL.out).mono ?_
  rintro e w1 ⟨x1, hp⟩
  obtain ⟨PE, pv, hpe, hpv⟩ : ∃ (PE : Int) (pv : Value), e = .returned (.tuple #[pv, .int .i64 PE]) ∧ ((PE = 0 ∧ (ixs isO 0 l).length = (ixs isT 0 l).length ∧ PB w1 pv (ixs isO 0 l).length (fun i => (gi (ixs isO 0 l) i, gi (ixs isT 0 l) i))) ∨ (PE = 14 ∧ (ixs isO 0 l).length ≠ (ixs isT 0 l).length ∧ pv = .slice none 0 0)) := by
    rcases hp with ⟨h1, v, h2, h3⟩ | ⟨h1, h2⟩
    · refine ⟨0, v, h2, .inl ⟨rfl, ?_, h3⟩⟩
      unfold prE at h1; split at h1
      · assumption
      · cases h1
    · refine ⟨14, _, h2, .inr ⟨rfl, ?_, rfl⟩⟩
      unfold prE at h1; split at h1
      · cases h1
      · assumption
  obtain rfl := hpe
  have HPv := Lib.hid hpv; have X1 := Lib.hid x1
  clear hp hpv x1 HPr
  obtain ⟨pa, pn, pc, hpf, hpn⟩ : ∃ pa pn pc, pv = .slice pa pn pc ∧ pc = pn := by
    rcases HPv.out with ⟨_, _, g, h, _⟩ | ⟨_, _, h⟩
    · exact ⟨_, _, _, h, rfl⟩
    · exact ⟨_, _, _, h, rfl⟩
  subst hpf
  subst hpn
  go_wp2
  go_loopw [5, 6, 7] (fun va vb i wr => ∃ k : Nat, k ≤ n ∧ i = .int .i64 k ∧ Hid (TwoL w1 wr va vb (ixs isO 0 (l.take k)) (ixs isT 0 (l.take k)))) (fun _ _ i _ => n - (intOf i).toNat)
  case atStart => exact ⟨0, Nat.zero_le _, rfl, Lib.hid (by rw [List.take_zero]; exact TwoL.nil (Ext.refl _))⟩
  case round =>
    obtain ⟨k, hk, rfl, H⟩ := hrel
    by_cases hlt : k < n
    · obtain ⟨b, o, rfl, z⟩ := HA.out k hlt
      obtain ⟨s0, s1, s2, s3, s4⟩ := z.ext (X1.out.trans H.out.x)
      have t1 : (k : Int) < n := by omega
      have htk := take_succ_si (l := l) (k := k) (by rw [← Hn.out]; exact hlt)
      have hO := ixs_snoc isO (l.take k) 0 (si l k)
      have hT := ixs_snoc isT (l.take k) 0 (si l k)
      rw [← htk, Nat.zero_add, List.length_take, Nat.min_eq_left (by rw [← Hn.out]; exact hk)] at hO hT
      have hl1 := ixs_len isO (l.take k) 0
      have hl2 := ixs_len isT (l.take k) 0
      rw [List.length_take, Nat.min_eq_left (by rw [← Hn.out]; exact hk)] at hl1 hl2
      obtain ⟨X, hX⟩ : ∃ X, X = ixs isO 0 (l.take k) := ⟨_, rfl⟩
      obtain ⟨Y, hY⟩ : ∃ Y, Y = ixs isT 0 (l.take k) := ⟨_, rfl⟩
      rw [← hX] at hO hl1 H
      rw [← hY] at hT hl2 H
      obtain ⟨S, hS⟩ : ∃ S, S = si l k := ⟨_, rfl⟩
      rw [← hS] at s0 s1 s2 s3 s4 hO hT
      have HO := Lib.hid hO; have HT := Lib.hid hT
      have HZ := Lib.hid (fun w' (x : Ext wr w') => x.cell s0)
      clear z htk hX hY hO hT hS s1 s2 s3 s4
      by_cases k3 : S.k = 3
      · have hO := HO.out; have hT := HT.out
        rw [if_pos (show isO S = true from decide_eq_true k3)] at hO
        rw [if_neg (show ¬ isT S = true by unfold isT; rw [decide_eq_true_iff]; omega), List.append_nil] at hT
        replace HO := Lib.hid hO; replace HT := Lib.hid hT
        have b3 : (S.k == 3) = true := by rw [beq_iff_eq]; exact k3
        have b4 : (S.k == 4) = false := beq_eq_false_iff_ne.2 (by omega)
        have b5 : (S.k == 5) = false := beq_eq_false_iff_ne.2 (by omega)
        have H1 := Lib.hid (H.out.later ((Ext.refl _).alloc (.cells #[.int .i64 (k : Int)] 3)))
        have hsz := H1.out.x.size
        clear hO hT k3
        go_wp2_with (at_builtin; refine app_lies eiInt rfl _ _ rfl w1.heap.size _ X.length _ rfl H1.out.a _ _ _ rfl (VS.oneAt (by simp)) (one_i _) ?a1 ?a2 ?a3 (by simp) ?_)
        any_goals (first | omega | (simp; omega) | (simp at hsz ⊢; omega))
        intro g cap w' hown hgr hlies
        have s0' := (H.out.later ((Ext.refl _).alloc (.cells #[.int .i64 (k : Int)] 3))).x
        have HN := Lib.hid (H1.out.push hown hgr (by simpa using hlies))
        have s9 : w'.cell? ⟨b, o + k * 5, none⟩ = some (.int .u8 S.k) := by
          obtain ⟨b', o', hao, z⟩ := HA.out k hlt
          simp only [Option.some.injEq, Addr.mk.injEq, and_true] at hao
          obtain ⟨rfl, rfl⟩ := hao
          have h1 := (z.ext (X1.out.trans HN.out.x)).1
          have h2 := (z.ext (X1.out.trans H.out.x)).1
          rw [s0] at h2
          simp only [Option.some.injEq, Value.int.injEq, true_and] at h2
          rw [h1, h2]
        clear hown hgr hlies s0 s0' hsz
        go_wp2
        go_roundw
        case rel => exact ⟨k + 1, by omega, by go_num, by rw [HO.out, HT.out]; exact HN⟩
        case measure => simp [intOf]; omega
      have b3 : (S.k == 3) = false := beq_eq_false_iff_ne.2 k3
      by_cases k4 : S.k = 4 ∨ S.k = 5
      · have hO := HO.out; have hT := HT.out
        rw [if_neg (show ¬ isO S = true by unfold isO; rw [decide_eq_true_iff]; exact k3), List.append_nil] at hO
        rw [if_pos (show isT S = true from decide_eq_true k4)] at hT
        replace HO := Lib.hid hO; replace HT := Lib.hid hT
        have H1 := Lib.hid (H.out.later ((Ext.refl _).alloc (.cells #[.int .i64 (k : Int)] 3)))
        have hsz := H1.out.x.size
        clear hO hT k3
        rcases k4 with k4 | k4
        · have b4 : (S.k == 4) = true := by rw [beq_iff_eq]; exact k4
          clear k4
          go_wp2_with (at_builtin; refine app_lies eiInt rfl _ _ rfl w1.heap.size _ Y.length _ rfl H1.out.b _ _ _ rfl (VS.oneAt (by simp)) (one_i _) ?a4 ?a5 ?a6 (by simp) ?_)
          any_goals (first | omega | (simp; omega) | (simp at hsz ⊢; omega))
          intro g cap w' hown hgr hlies
          have HN := Lib.hid (H1.out.swap.push hown hgr (by simpa using hlies)).swap
          clear hown hgr hlies hsz
          go_wp2
          go_roundw
          case rel => exact ⟨k + 1, by omega, by go_num, by rw [HO.out, HT.out]; exact HN⟩
          case measure => simp [intOf]; omega
        · have b4 : (S.k == 4) = false := beq_eq_false_iff_ne.2 (by omega)
          have b5 : (S.k == 5) = true := by rw [beq_iff_eq]; exact k4
          clear k4
          go_wp2_with (at_builtin; refine app_lies eiInt rfl _ _ rfl w1.heap.size _ Y.length _ rfl H1.out.b _ _ _ rfl (VS.oneAt (by simp)) (one_i _) ?a7 ?a8 ?a9 (by simp) ?_)
          any_goals (first | omega | (simp; omega) | (simp at hsz ⊢; omega))
          intro g cap w' hown hgr hlies
          have HN := Lib.hid (H1.out.swap.push hown hgr (by simpa using hlies)).swap
          clear hown hgr hlies hsz
          go_wp2
          go_roundw
          case rel => exact ⟨k + 1, by omega, by go_num, by rw [HO.out, HT.out]; exact HN⟩
          case measure => simp [intOf]; omega
      · have hO := HO.out; have hT := HT.out
        rw [if_neg (show ¬ isO S = true by unfold isO; rw [decide_eq_true_iff]; exact k3), List.append_nil] at hO
        rw [if_neg (show ¬ isT S = true by unfold isT; rw [decide_eq_true_iff]; exact k4), List.append_nil] at hT
        have b4 : (S.k == 4) = false := beq_eq_false_iff_ne.2 (by omega)
        have b5 : (S.k == 5) = false := beq_eq_false_iff_ne.2 (by omega)
        replace HO := Lib.hid hO; replace HT := Lib.hid hT
        clear hO hT k3 k4
        go_wp2
        go_roundw
        case rel => exact ⟨k + 1, by omega, by go_num, by rw [HO.out, HT.out]; exact H⟩
        case measure => simp [intOf]; omega
    · obtain rfl : k = n := by omega
      have t1 : ¬ (k : Int) < k := by omega
      have H2 := H.out
      rw [List.take_of_length_le (by rw [← Hn.out]; exact Nat.le_refl _)] at H2
      obtain ⟨ca, ha⟩ := IS.of_own H2.a
      obtain ⟨cb, hb⟩ := IS.of_own H2.b
      have X2 := Lib.hid H2.x
      obtain ⟨aa, na, rfl, hna, hnc, hmm, hea⟩ := ha.ent
      obtain ⟨ab, nb, rfl, hnb, hnc2, hmm2, heb⟩ := hb.ent
      have hlO := ixs_len isO l 0
      have HEa := Lib.hid hea; have HEb := Lib.hid heb; have HNa := Lib.hid hna; have HNb := Lib.hid hnb
      have hna40 : na ≤ 40 := by have := HL.out; omega
      clear H H2 ha hb hea heb hna hnb hlO
      go_wp2_with fail
      refine (HKp.out HL.out _ (X1.out.trans X2.out)).mono ?_
      rintro e w3 ⟨rfl, x3⟩
      have X3 := Lib.hid ((X1.out.trans X2.out).trans x3); have Y3 := Lib.hid x3
      clear x3
      go_wp2_with fail
      refine (HNd.out HL.out _ X3.out).mono ?_
      rintro e w4 ⟨rfl, x4⟩
      have X4 := Lib.hid (X3.out.trans x4); have Y4 := Lib.hid (Y3.out.trans x4)
      clear x4
      go_wp2_with fail
      refine (HMk.out HL.out _ X4.out).mono ?_
      rintro e w5 ⟨rfl, x5⟩
      have X5 := Lib.hid (X4.out.trans x5); have Y5 := Lib.hid (Y4.out.trans x5)
      have HLv5 := Lib.hid (fun w' (x : Ext w5 w') => HLv.out w' (X5.out.trans x))
      clear x5 HKp HNd HMk
      have hdk : (decide (rmake l = rneed l)) = (rneed l == rmake l) := by
        by_cases e : rmake l = rneed l
        · rw [decide_eq_true e, e]; simp
        · rw [decide_eq_false e]; exact (beq_eq_false_iff_ne.2 (fun h => e h.symm)).symm
      rw [hdk]
      obtain ⟨bb, hbb⟩ : ∃ bb, bb = (rneed l == rmake l) := ⟨_, rfl⟩
      rw [← hbb]
      have hb2 : (rneed l == rmake l) = bb := hbb.symm
      have hb3 : (bb == bb) = true := by simp
      have hb4 : (bb != bb) = false := by simp
      obtain ⟨RN, hRN⟩ : ∃ RN, RN = rneed l := ⟨_, rfl⟩
      obtain ⟨RM, hRM⟩ : ∃ RM, RM = rmake l := ⟨_, rfl⟩
      rw [← hRN, ← hRM] at hb2
      rw [← hRN, ← hRM]
      clear hdk hbb hRN hRM
      by_cases hab : na = nb
      · subst hab
        have b1 : ((na : Int) != (na : Int)) = false := by simp
        have hpv := HPv.out
        rw [← HNa.out, ← HNb.out] at hpv
        obtain ⟨hp0, g, hpg, hpc⟩ : PE = 0 ∧ ∃ g, Value.slice pa pc pc = .slice (some ⟨g, 0, none⟩) na na ∧ ∀ i, i < na → w1.cell? ⟨g, i * 2, none⟩ = some (.int .i64 (gi (ixs isO 0 l) i)) ∧ w1.cell? ⟨g, i * 2 + 1, none⟩ = some (.int .i64 (gi (ixs isT 0 l) i)) := by
          rcases hpv with ⟨h1, _, g, h2, h3⟩ | ⟨_, h2, _⟩
          · exact ⟨h1, g, h2, h3⟩
          · exact absurd rfl h2
        simp only [Value.slice.injEq] at hpg
        obtain ⟨rfl, rfl, _⟩ := hpg
        subst hp0
        have HPc := Lib.hid hpc
        clear hpv hpc
        go_wp2
        obtain ⟨wo, hwo⟩ : ∃ wo : World, wo = w5 := ⟨_, rfl⟩
        go_loopw [8] (fun i ws => ∃ j : Nat, j ≤ pc ∧ i = .int .i64 j ∧ Hid (Ext w5 ws)) (fun i _ => pc - (intOf i).toNat)
        case atStart => exact ⟨0, Nat.zero_le _, rfl, Lib.hid (Ext.refl _)⟩
        case round =>
          obtain ⟨j, hj, rfl, HJ⟩ := hrel
          by_cases hjl : j < pc
          · have t3 : (j : Int) < pc := by omega
            obtain ⟨b1', o1', rfl, ea0⟩ := HEa.out j hjl
            obtain ⟨b2', o2', rfl, eb0⟩ := HEb.out j hjl
            obtain ⟨pc0, pc1⟩ := HPc.out j hjl
            have ea := (Y5.out.trans HJ.out).cell ea0; have eb := (Y5.out.trans HJ.out).cell eb0
            have ec := (X2.out.trans (Y5.out.trans HJ.out)).cell pc0; have ed := (X2.out.trans (Y5.out.trans HJ.out)).cell pc1
            have hneq := run_pr_neq (gi (ixs isO 0 l) j) (gi (ixs isT 0 l) j)
            obtain ⟨GX, hGX⟩ : ∃ GX, GX = gi (ixs isO 0 l) j := ⟨_, rfl⟩
            obtain ⟨GY, hGY⟩ : ∃ GY, GY = gi (ixs isT 0 l) j := ⟨_, rfl⟩
            rw [← hGX, ← hGY] at hneq
            rw [← hGX] at ea ec
            rw [← hGY] at eb ed
            clear ea0 eb0 pc0 pc1 hGX hGY
            go_wp2
            go_quiet (fail)
            clear ea eb ec ed hneq
            go_wp2
            go_roundw
            case rel => exact ⟨j + 1, by omega, by go_num, by first | exact HJ | exact Lib.hid (HJ.out.drewN _)⟩
            case measure => simp [intOf]; omega
          · obtain rfl : j = pc := by omega
            have t3 : ¬ (j : Int) < (j : Int) := by omega
            go_wp2_with fail
            refine (HLv5.out _ HJ.out).mono ?_
            rintro e w6 ⟨rfl, x6⟩
            have XZ := Lib.hid (X5.out.trans (HJ.out.trans x6))
            clear x6
            go_wp2
            go_ret
            exact ⟨rfl, XZ.out⟩
      · have b1 : ((na : Int) != (nb : Int)) = true := by rw [bne, beq_eq_false_iff_ne.2 (by omega)]; rfl
        rcases HPv.out with ⟨_, hpl, _⟩ | ⟨hp0, hpl, hpv⟩
        · exact absurd (by rw [HNa.out, HNb.out, hpl]) hab
        simp only [Value.slice.injEq] at hpv
        obtain ⟨rfl, rfl, _⟩ := hpv
        subst hp0
        clear hpl hab
        go_wp2_with fail
        refine (HLv5.out _ (Ext.refl _)).mono ?_
        rintro e w6 ⟨rfl, x6⟩
        have XZ := Lib.hid (X5.out.trans x6)
        clear x6
        go_wp2
        go_ret
        exact ⟨rfl, XZ.out⟩
end Go.Proofs.YthllbcjglcplhaaDoor
