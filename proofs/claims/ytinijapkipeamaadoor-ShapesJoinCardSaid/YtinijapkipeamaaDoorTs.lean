/- shapes.Join: the walk. -/
import Derived.Test.YtinijapkipeamaaDoorTr
namespace Go.Proofs.YtinijapkipeamaaDoor
set_option linter.unusedVariables false
set_option linter.unusedSimpArgs false
set_option maxRecDepth 8000
open Go Go.RowKit

set_option maxHeartbeats 4000000 in
theorem Join_calls (v : Value) (c : Nat) (rows : List (List Int)) (w : World) (h : ISS .i64 w v c rows) (hb : ∀ i, i < rows.length → (ri rows i).length ≤ 1000) (hl : rows.length ≤ 50) :
    Calls Tryd.prog 24 #[v] w (RetIE .i64 w (jres rows).length (jres rows) (jerr rows)) := by
  have hmb := tot_bd hb
  have hb63 := fun i (hi : i < rows.length) => hb i hi
  obtain ⟨ao, n, rfl, hn, hc, hcm, hat⟩ := h.open2
  have hbad : ∀ e w', jerr rows = e → e ≠ 0 → Ext w w' → RetIE .i64 w (jres rows).length (jres rows) (jerr rows) (.returned (.tuple #[.slice none 0 0, .int .i64 e])) w' := fun e w' h1 h2 x => by
    have : jres rows = [] := by unfold jres; rw [if_neg (by omega)]
    rw [this, h1]; exact ⟨_, rfl, IS.nil _ _, x⟩
  have hE0 : n = 0 → jerr rows = 1 := fun h => jerr_empty (.inl (by omega))
  have hE1 : ∀ i, i < n → (ri rows i).length = 0 → jerr rows = 1 := fun i hi h => jerr_empty (.inr ⟨i, by omega, h⟩)
  have hE2 : (∀ i, i < n → 0 < (ri rows i).length) → ∀ i, i + 1 < n → mism rows i = true → jerr rows = 14 := fun h2 i hi hm => jerr_mism (by omega) (fun i hi => h2 i (by omega)) (by omega) hm
  have hE3 : 0 < n → (∀ i, i < n → 0 < (ri rows i).length) → (∀ i, i + 1 < n → mism rows i = false) → jerr rows = if 32 < tot rows n then 3 else 0 := fun h0 h2 h3 => by
    rw [jerr_fit (by omega) (fun i hi => h2 i (by omega)) (fun i hi => h3 i (by omega)), hn, tot_all (by omega) (fun i hi => h2 i (by omega))]
  have hmt : ∀ k, tot rows (k + 1) = tot rows k + ((ri rows k).length - 1) := fun k => rfl
  have hmbd : ∀ k, k ≤ n → 1 ≤ tot rows k ∧ tot rows k ≤ 1 + 1000 * k := fun k hk => hmb k (by omega)
  have hb2 : ∀ i, i < n → (ri rows i).length ≤ 1000 := fun i hi => hb i (by omega)
  have hfl : (∀ i, i < n → 0 < (ri rows i).length) → 0 < n → tot rows n = (jlist rows).length := fun h2 h0 => by rw [hn]; exact tot_all (by omega) (fun i hi => h2 i (by omega))
  rw [← hn] at hl
  have HR := Lib.hid hat; have HBad := Lib.hid hbad; have HE1 := Lib.hid hE1; have HE2 := Lib.hid hE2; have HE3 := Lib.hid hE3; have HT := Lib.hid hmt; have HTb := Lib.hid hmbd; have HB := Lib.hid hb2; have Hn := Lib.hid hn; have HFl := Lib.hid hfl
  unfold maxLen at hcm
  by_cases hn0 : n = 0
  · have HB0 := Lib.hid (fun w' x => HBad.out 1 w' (hE0 hn0) (by omega) x)
    clear hat hbad hE0 hE1 hE2 hE3 hmt hmbd hb2 hmb hb63 hb h hn
    subst hn0
    go_enter Tryd.func24, Tryd.ntmps24
    go_wp2
    go_ret2
    exact HB0.out _ (Ext.refl w)
  have hn1 : 0 < n := by omega
  have hnz : ((n : Int) == 0) = false := beq_eq_false_iff_ne.2 (by omega)
  clear hat hbad hE0 hE1 hE2 hE3 hmt hmbd hb2 hmb hb63 hb h hn hfl
  go_enter Tryd.func24, Tryd.ntmps24
  go_wp2
  go_loopw [4, 6, 16] (fun s _ i wr => ∃ k : Nat, k ≤ n ∧ i = .int .i64 k ∧ s = .int .i64 (tot rows k) ∧ Hid (Ext w wr) ∧ Hid (∀ i, i < k → 0 < (ri rows i).length)) (fun _ _ i _ => n - (intOf i).toNat)
  case atStart => exact ⟨0, Nat.zero_le _, rfl, rfl, Lib.hid (Ext.refl w), Lib.hid (fun i hi => by omega)⟩
  case round =>
    obtain ⟨k, hk, rfl, rfl, HX, HP⟩ := hrel
    by_cases hlt : k < n
    · obtain ⟨b, o, a, p, d, rfl, hc0, hp, hi⟩ := HR.out k hlt
      replace hc0 := HX.out.cell hc0
      have ht := HT.out k
      have htb := HTb.out k hk
      have hpb := HB.out k hlt
      rw [← hp] at ht hpb
      by_cases hz : p = 0
      · have HF := Lib.hid (HBad.out 1 wr (HE1.out k hlt (by omega)) (by omega) HX.out)
        have hz' : ((p : Int) == 0) = true := by rw [beq_iff_eq]; omega
        clear ht hpb hp hi
        subst hz
        go_wp2
        go_ret2
        exact HF.out
      · have hz' : ((p : Int) == 0) = false := by rw [beq_eq_false_iff_ne]; omega
        have HP2 := Lib.hid (show ∀ i, i < k + 1 → 0 < (ri rows i).length from fun i hi => by
          by_cases e : i = k
          · subst e; omega
          · exact HP.out i (by omega))
        have HTn := Lib.hid ht
        generalize tot rows k = T at *
        have w1 : IntKind.i64.wrap ((p : Int) - 1) = (p : Int) - 1 := IntWalk.i64_in _ ⟨by omega, by omega⟩
        have w2 : IntKind.i64.wrap ((T : Int) + ((p : Int) - 1)) = (T : Int) + ((p : Int) - 1) := IntWalk.i64_in _ ⟨by omega, by omega⟩
        have hz2 : ¬ p = 0 := hz
        clear ht hp hi
        go_wp2
        go_roundw
        case rel => exact ⟨k + 1, by omega, by go_num, by rw [HTn.out]; exact congrArg (Value.int .i64) (by omega), HX, HP2⟩
        case measure => simp [intOf]; omega
    · obtain rfl : n = k := by omega
      clear hlt
      go_wp2
      go_loopw [7] (fun i wr => ∃ k : Nat, k + 1 ≤ n ∧ i = .int .i64 ((k : Int) + 1) ∧ Hid (Ext w wr) ∧ Hid (∀ j, j < k → mism rows j = false)) (fun i _ => n - (intOf i).toNat)
      case atStart => exact ⟨0, by omega, rfl, HX, Lib.hid (fun j hj => by omega)⟩
      case round =>
        obtain ⟨k, hk2, rfl, HX2, HM⟩ := hrel
        by_cases hlt : k + 1 < n
        · obtain ⟨b, o, a, p, d, rfl, hc0, hp, hi⟩ := HR.out (k + 1) hlt
          obtain ⟨b', o', a', p', d', hbo, hc1, hp', hi'⟩ := HR.out k (by omega)
          obtain ⟨rfl, rfl⟩ : b = b' ∧ o = o' := by simpa using hbo
          replace hc0 := HX2.out.cell hc0; replace hc1 := HX2.out.cell hc1
          have hq := HP.out (k + 1) hlt
          have hq' := HP.out k (by omega)
          have hpb := HB.out (k + 1) hlt
          have hpb' := HB.out k (by omega)
          rw [← hp] at hq hpb; rw [← hp'] at hq' hpb'
          obtain ⟨b2, o2, rfl, hd0⟩ := hi.at hq
          obtain ⟨b3, o3, rfl, hd1⟩ := hi'.at hq'
          have e0 := HX2.out.cell (hd0 0 hq)
          have e1 := HX2.out.cell (hd1 (p' - 1) (by omega))
          rw [Nat.add_zero] at e0
          have hmm : mism rows k = decide (gi (ri rows (k + 1)) 0 ≠ gi (ri rows k) (p' - 1)) := by unfold mism; rw [hp']
          obtain ⟨A, hA⟩ : ∃ A, A = gi (ri rows (k + 1)) 0 := ⟨_, rfl⟩
          obtain ⟨Z, hZ⟩ : ∃ Z, Z = gi (ri rows k) (p' - 1) := ⟨_, rfl⟩
          rw [← hA] at e0 hmm; rw [← hZ] at e1 hmm
          have hX3 := HX2
          have HMm := Lib.hid hmm
          have t1 : (0 : Int) ≤ (k : Int) + 1 := by omega
          have t2 : ((k : Int) + 1).toNat = k + 1 := by omega
          have t3 : (k : Int) + 1 < n := by omega
          have t4 : IntKind.i64.wrap ((k : Int) + 1 - 1) = (k : Int) := by rw [show (k : Int) + 1 - 1 = k by omega]; exact IntWalk.i64_in _ ⟨by omega, by omega⟩
          have t5 : (k : Int) < n := by omega
          have t6 : (0 : Int) ≤ (k : Int) := by omega
          have t7 : IntKind.i64.wrap ((p' : Int) - 1) = (p' : Int) - 1 := IntWalk.i64_in _ ⟨by omega, by omega⟩
          have t8 : (0 : Int) ≤ (p' : Int) - 1 := by omega
          have t9 : ((p' : Int) - 1).toNat = p' - 1 := by omega
          have ta : (p' : Int) - 1 < p' := by omega
          have tb : (0 : Int) < p := by omega
          have tc : (1 : Int) ≤ p' := by omega
          have td : IntKind.i64.wrap (k : Int) = (k : Int) := IntWalk.i64_in _ ⟨by omega, by omega⟩
          clear hp hp' hi hi' hd0 hd1 hA hZ hmm hbo
          go_wp2
          go_quiet (fail)
          by_cases hAZ : A = Z
          · have tq : (A != Z) = false := by rw [hAZ]; simp
            have HM2 := Lib.hid (show ∀ j, j < k + 1 → mism rows j = false from fun j hj => by
              by_cases e : j = k
              · subst e; rw [HMm.out, hAZ]; simp
              · exact HM.out j (by omega))
            clear hAZ
            go_wp2
            go_roundw
            case rel => exact ⟨k + 1, by omega, by go_num, by first | exact HX2 | exact Lib.hid (HX2.out.drewN _), HM2⟩
            case measure => simp [intOf]; omega
          · have tq : (A != Z) = true := by rw [bne, beq_eq_false_iff_ne.2 hAZ]; rfl
            have HF := Lib.hid (fun w' x => HBad.out 14 w' (HE2.out HP.out k hlt (by rw [HMm.out]; simpa using hAZ)) (by omega) x)
            clear hAZ
            go_wp2
            go_ret2
            exact HF.out _ (by first | exact HX2.out | exact HX2.out.drewN _)
        · have hnk : n = k + 1 := by omega
          have hje := HE3.out (by omega) HP.out (fun i hi => HM.out i (by omega))
          have htb := HTb.out n (Nat.le_refl _)
          have hfl := HFl.out HP.out (by omega)
          have tl : ¬ ((k : Int) + 1 < n) := by omega
          have HNK := Lib.hid hnk
          clear hlt hnk
          generalize tot rows n = T at *
          by_cases h32 : 32 < T
          · have HF := Lib.hid (fun w' x => HBad.out 3 w' (by rw [hje, if_pos h32]) (by omega) x)
            have t0 : (32 : Int) < T := by omega
            clear hje h32
            go_wp2
            go_ret2
            exact HF.out _ HX2.out
          · rw [if_neg h32] at hje
            have t0 : ¬ (32 : Int) < T := by omega
            have HJE := Lib.hid hje; have HFL := Lib.hid hfl
            have hmk := run_make_lc (P := Tryd.prog) eiRow .i64 .i64 n n (by omega) (by omega) (by omega) wr
            have htake : (tails rows).flatten.length + 1 ≤ T := by
              have := HP.out 0 (by omega)
              rw [hfl]; unfold jlist; rw [List.length_append, List.length_take]; omega
            have hst : PT wr (wr.alloc (.cells (madeCells #[.slice none 0 0] n) 22)) wr.heap.size n 0 rows := ⟨(Ext.refl wr).alloc _, _, fun _ => 0, World.rowIs_made wr (.slice none 0 0) n _, fun i hi => by omega⟩
            have HST := Lib.hid hst; have HTk := Lib.hid htake
            obtain ⟨wo, rfl⟩ : ∃ wo : World, wo = wr := ⟨_, rfl⟩
            clear hje hst htake hfl h32
            go_wp2
            clear hmk
            obtain ⟨R, hR⟩ : ∃ R, R = wo.heap.size := ⟨_, rfl⟩
            rw [← hR] at HST ⊢
            have hwR : wo.heap.size ≤ R := by omega
            clear hR
            go_loopw [9, 10, 63] (fun _ _ i wr => ∃ j : Nat, j ≤ n ∧ i = .int .i64 j ∧ Hid (PT wo wr R n j rows)) (fun _ _ i _ => n - (intOf i).toNat)
            case atStart => exact ⟨0, Nat.zero_le _, rfl, HST⟩
            case round =>
              obtain ⟨j, hj, rfl, HJ⟩ := hrel
              by_cases hlt : j < n
              · obtain ⟨b, o, a, p, d, rfl, hc0, hp, hi⟩ := HR.out j hlt
                replace hc0 := (HX2.out.trans HJ.out.1).cell hc0
                have hq := HP.out j hlt
                rw [← hp] at hq
                obtain ⟨g1, g2, g3⟩ := hi.len
                rw [← hp] at g3
                obtain ⟨b5, o5, rfl, hfrom⟩ : ∃ b5 o5, a = some ⟨b5, o5, none⟩ ∧ IS .i64 w (.slice (if d = 1 then some ⟨b5, o5, none⟩ else some ⟨b5, o5 + 1, none⟩) (p - 1) (d - 1)) (d - 1) ((ri rows j).drop 1) := by
                  rcases hi.from 1 hq with ⟨b5, o5, h1, h2⟩ | ⟨h1, h2, _⟩
                  · exact ⟨b5, o5, h1, h2⟩
                  · omega
                have hput := HJ.out.put hwR hlt (hfrom.ext HX2.out)
                obtain ⟨f, cp, hrow, _⟩ := HJ.out.2
                have hcR := hrow.cell hlt
                have hfR := hrow.frozen j
                have u1 : (1 : Int) ≤ p := by omega
                have u2 : (1 : Int) ≤ d := by omega
                have u3 : 1 ≤ p := hq
                have u4 : 1 ≤ d := by omega
                have HPut := Lib.hid hput
                clear hp hi hfrom hput hrow g1 g2 g3 hq
                by_cases hd1 : d = 1
                · subst hd1
                  rw [if_pos rfl] at HPut
                  go_wp2
                  exact ⟨⟨j + 1, by omega, by go_num, HPut⟩, by simp [intOf]; omega⟩
                · rw [if_neg hd1] at HPut
                  go_wp2
                  exact ⟨⟨j + 1, by omega, by go_num, HPut⟩, by simp [intOf]; omega⟩
              · obtain rfl : n = j := by omega
                obtain ⟨b, o, a, p, d, rfl, hc0, hp, hi⟩ := HR.out 0 hn1
                have hq := HP.out 0 hn1
                rw [← hp] at hq
                replace hc0 := (HX2.out.trans HJ.out.1).cell hc0
                rw [Nat.add_zero] at hc0
                have hup := hi.upto (m := 1) hq
                have hup2 := hup.ext (HX2.out.trans HJ.out.1)
                have hiss := HJ.out.ret Hn.out (by unfold maxLen; omega)
                have hb1 := (HTk.out)
                have k1 := fun w' (x : Ext wr w') => joinedI_calls _ _ (tails rows) w' (hiss.ext x) (by omega)
                obtain ⟨b5, o5, rfl, _⟩ := hi.at hq
                have hx3 := HX2.out.trans HJ.out.1
                have k2 : ∀ (w' : World) (u : Value), Ext wr w' → IS .i64 w' u (tails rows).flatten.length (tails rows).flatten → Calls Tryd.prog 37 #[.slice (some ⟨w'.heap.size, 0, none⟩) 2 2] (w'.alloc (.cells #[.slice (some ⟨b5, o5, none⟩) 1 d, u] 22)) (RetI .i64 (w'.alloc (.cells #[.slice (some ⟨b5, o5, none⟩) 1 d, u] 22)) (jlist rows).length (jlist rows)) := fun w' u x hu => by
                  have := joinedI_calls _ _ [(ri rows 0).take 1, (tails rows).flatten] (w'.alloc (.cells #[.slice (some ⟨b5, o5, none⟩) 1 d, u] 22)) (ISS.lit2 rfl (hup2.ext x) hu) (by
                    simp only [List.flatten_cons, List.flatten_nil, List.append_nil, List.length_append, List.length_take]; omega)
                  simpa [jlist] using this
                have t00 : (0 : Int) < n := by omega
                have t11 : (1 : Int) ≤ p := by omega
                have t12 : (1 : Int) ≤ d := by have := hi.len.2.2; omega
                have K1 := Lib.hid k1; have K2 := Lib.hid k2; have HX3 := Lib.hid hx3
                clear hlt hp hi hup hup2 hiss hb1 k1 k2 hx3 hq
                clear HJ HST hk hk2 tl HE1 HE2 HT HTb HB HFl
                go_wp2
                go_region_held3 (fun w' => w'.cell? ⟨b, o, Option.none⟩ = some (.slice (some ⟨b5, o5, Option.none⟩) p d)) (first | exact hc0 | exact z0 | exact z1 | go_keep) (first
                  | (go_at_call_of 37 R; (refine (K1.out _ ?_).mono ?_); (focus (repeat (first | (with_reducible exact Ext.refl _) | (with_reducible apply Ext.drew) | (with_reducible apply Ext.drewN)))); intro e w5 hh; obtain ⟨v5, rfl, i5, x5, b9, o9, n9, c9, rfl⟩ := hh; have X5 : Hid (Ext wr w5) := Lib.hid (Ext.trans (by (repeat (first | (with_reducible exact Ext.refl _) | (with_reducible apply Ext.drew) | (with_reducible apply Ext.drewN)))) x5); have I5 := Lib.hid i5; have z0 := X5.out.cell hc0; clear i5 x5)
                  | (go_at_call 37; (refine (K2.out _ _ ?_ ?_).mono ?_); (focus (refine X5.out.trans ?_; (repeat (first | (with_reducible exact Ext.refl _) | (with_reducible apply Ext.drew) | (with_reducible apply Ext.drewN))))); (focus (refine I5.out.ext ?_; (repeat (first | (with_reducible exact Ext.refl _) | (with_reducible apply Ext.drew) | (with_reducible apply Ext.drewN))))); intro e w6 hh; obtain ⟨v6, rfl, i6, x6, b8, o8, n8, c8, rfl⟩ := hh; have X6 : Hid (Ext w5 w6) := Lib.hid (Ext.trans (Ext.alloc (by (repeat (first | (with_reducible exact Ext.refl _) | (with_reducible apply Ext.drew) | (with_reducible apply Ext.drewN)))) _) x6); have I6 := Lib.hid i6; have z1 := X6.out.cell z0; clear i6 x6))
                have HF := Lib.hid (show RetIE .i64 w (jres rows).length (jres rows) (jerr rows) (.returned (.tuple #[.slice (some ⟨b8, o8, none⟩) n8 c8, .int .i64 0])) w6 from by
                  have e : jres rows = jlist rows := by unfold jres; rw [if_pos HJE.out]
                  rw [e, HJE.out]
                  exact ⟨_, rfl, I6.out, HX3.out.trans (X5.out.trans X6.out)⟩)
                go_wp2
                go_ret2
                exact HF.out
end Go.Proofs.YtinijapkipeamaaDoor
