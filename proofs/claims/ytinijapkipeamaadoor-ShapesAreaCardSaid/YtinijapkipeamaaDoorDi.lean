/- ganseyref13.Differ. -/
import Derived.Test.YtinijapkipeamaaDoorEq
import Derived.Test.YtinijapkipeamaaDoorSm
namespace Go.Proofs.YtinijapkipeamaaDoor
set_option linter.unusedVariables false
set_option linter.unusedSimpArgs false
set_option maxRecDepth 8000
open Go Go.RowKit

def dif (l m : List (List St)) : Int := if l = m then 0 else 1
theorem dif_same (l : List (List St)) : dif l l = 0 := if_pos rfl
set_option maxHeartbeats 4000000 in
theorem Differ_calls (v1 v2 : Value) (c1 c2 : Nat) (l m : List (List St)) (w : World) (h1 : RR w v1 c1 l) (h2 : RR w v2 c2 m) :
    Calls Tryd.prog 25 #[.agg #[v1], .agg #[v2]] w fun e w' => e = .returned (.int .i64 (dif l m)) ∧ Ext w w' := by
  obtain ⟨ao, n, rfl, hn, hc, hcm, hat⟩ := h1.open
  obtain ⟨ao2, n2, rfl, hn2, hc2, hcm2, hat2⟩ := h2.open
  have hT : n = n2 → (∀ i, i < n → sw l i = sw m i) → dif l m = 0 := fun e h => if_pos (sw_ext (by omega) (fun i hi => h i (by omega)))
  have hF : (n ≠ n2 ∨ ∃ i, i < n ∧ sw l i ≠ sw m i) → dif l m = 1 := fun h => if_neg (fun e => by
    rcases h with h | ⟨i, _, h⟩
    · rw [e] at hn; omega
    · rw [e] at h; exact h rfl)
  generalize dif l m = R at hT hF ⊢
  obtain ⟨W, hW⟩ : ∃ W, W = (w.alloc (.cells #[.slice ao n c1] 26)).alloc (.cells #[.slice ao2 n2 c2] 26) := ⟨_, rfl⟩
  have xW : Ext w W := by rw [hW]; exact ((Ext.refl w).alloc _).alloc _
  have hb1 : W.cell? ⟨w.heap.size, 0, none⟩ = some (.slice ao n c1) := by
    rw [hW]; exact ((Ext.refl _).alloc _).cell (by rw [World.cell?_alloc_at (hn := rfl)]; rfl)
  have hb2 : W.cell? ⟨w.heap.size + 1, 0, none⟩ = some (.slice ao2 n2 c2) := by
    rw [hW, World.cell?_alloc_at (hn := by simp)]; rfl
  have HA := Lib.hid hat; have HA2 := Lib.hid hat2; have HT := Lib.hid hT; have HF := Lib.hid hF; have XW := Lib.hid xW
  clear hat hat2 hT hF hn hn2 h1 h2
  unfold maxLen at hcm hcm2
  have HB1 := Lib.hid (fun w' (x : Ext W w') => x.cell hb1); have HB2 := Lib.hid (fun w' (x : Ext W w') => x.cell hb2)
  go_enter Tryd.func25, Tryd.ntmps25
  by_cases hl : n = n2
  · subst hl
    rw [hW] at hb1 hb2
    go_wp2
    rw [← hW]
    clear hb1 hb2 hW
    go_loopw [5, 6] (fun i _ wr => ∃ k : Nat, k ≤ n ∧ i = .int .i64 k ∧ Hid (Ext W wr) ∧ Hid (∀ i, i < k → sw l i = sw m i)) (fun i _ _ => n - (intOf i).toNat)
    case atStart => exact ⟨0, Nat.zero_le _, rfl, Lib.hid (Ext.refl _), Lib.hid (fun i hi => by omega)⟩
    case round =>
      obtain ⟨k, hk, rfl, Hx, HS⟩ := hrel
      have b1 := HB1.out _ Hx.out
      have b2 := HB2.out _ Hx.out
      by_cases hlt : k < n
      · obtain ⟨b, o, a, p, d, rfl, p0, r1⟩ := HA.out k hlt
        obtain ⟨bb, oo, aa, pp, dd, rfl, q0, r2⟩ := HA2.out k hlt
        have P0 := Lib.hid (fun w' (x : Ext W w') => (XW.out.trans x).cell p0); have Q0 := Lib.hid (fun w' (x : Ext W w') => (XW.out.trans x).cell q0)
        replace p0 := (XW.out.trans Hx.out).cell p0
        replace q0 := (XW.out.trans Hx.out).cell q0
        obtain ⟨_, _, e1, e2, e3, e4, e5⟩ := r1.open
        obtain ⟨_, _, f1, f2, f3, f4, f5⟩ := r2.open
        simp only [Value.slice.injEq] at e1 f1
        obtain ⟨rfl, rfl, _⟩ := e1
        obtain ⟨rfl, rfl, _⟩ := f1
        have HE5 := Lib.hid e5; have HF5 := Lib.hid f5
        have t7 : (0 : Int) ≤ (k : Int) := by omega
        have t8 : (k : Int) < n := by omega
        unfold maxLen at e4 f4
        by_cases hpp : p = pp
        · have tq : ((p : Int) != (pp : Int)) = false := by rw [hpp]; simp
          have HR1 := Lib.hid (show (∀ i, i < p → si (sw l k) i = si (sw m k) i) → ∀ i, i < k + 1 → sw l i = sw m i from fun h i hi => by
            by_cases e : i = k
            · rw [e]; exact si_ext (by omega) (fun i hi => h i (by omega))
            · exact HS.out i (by omega))
          have HR2 := Lib.hid (show ∀ i, i < p → si (sw l k) i ≠ si (sw m k) i → R = 1 from fun i hi h => HF.out (.inr ⟨k, hlt, fun e => h (by rw [e])⟩))
          subst hpp
          clear e2 f2 e5 f5 r1 r2
          go_wp2
          go_quiet (fail)
          obtain ⟨wk, hwk⟩ : ∃ wk, wk = wr.drewN nq := ⟨_, rfl⟩
          have Hk := Lib.hid (show Ext W wk by rw [hwk]; exact Hx.out.drewN nq)
          rw [← hwk]
          clear b1 b2 p0 q0 hwk
          go_wp2
          go_loopw [6] (fun i ws => ∃ j : Nat, j ≤ p ∧ i = .int .i64 j ∧ Hid (Ext wk ws) ∧ Hid (∀ i, i < j → si (sw l k) i = si (sw m k) i)) (fun i _ => p - (intOf i).toNat)
          case atStart => exact ⟨0, Nat.zero_le _, rfl, Lib.hid (Ext.refl _), Lib.hid (fun i hi => by omega)⟩
          case round =>
            obtain ⟨j, hj, rfl, Hy, HU⟩ := hrel
            have b1 := HB1.out _ (Hk.out.trans Hy.out)
            have b2 := HB2.out _ (Hk.out.trans Hy.out)
            have p0 := P0.out _ (Hk.out.trans Hy.out)
            have q0 := Q0.out _ (Hk.out.trans Hy.out)
            by_cases hjl : j < p
            · obtain ⟨e6, e7, rfl, e8⟩ := HE5.out j hjl
              obtain ⟨f6, f7, rfl, f8⟩ := HF5.out j hjl
              obtain ⟨s0, s1, s2, s3, s4⟩ := e8.ext (XW.out.trans (Hk.out.trans Hy.out))
              obtain ⟨u0, u1, u2, u3, u4⟩ := f8.ext (XW.out.trans (Hk.out.trans Hy.out))
              have hq := fun w => run_st_neq (si (sw l k) j) (si (sw m k) j) w
              have hR1 : St.eqb (si (sw l k) j) (si (sw m k) j) = false → R = 1 := fun h => HR2.out j hjl (eqb_false h)
              have hR2 : St.eqb (si (sw l k) j) (si (sw m k) j) = true → ∀ i, i < j + 1 → si (sw l k) i = si (sw m k) i := fun h i hi => by
                by_cases e : i = j
                · rw [e]; exact eqb_true h
                · exact HU.out i (by omega)
              obtain ⟨S, hS⟩ : ∃ S, S = si (sw l k) j := ⟨_, rfl⟩
              obtain ⟨T, hT⟩ : ∃ T, T = si (sw m k) j := ⟨_, rfl⟩
              rw [← hS] at s0 s1 s2 s3 s4 hq hR1 hR2
              rw [← hT] at u0 u1 u2 u3 u4 hq hR1 hR2
              generalize St.eqb S T = q at hq hR1 hR2
              have H1 := Lib.hid hR1; have H2 := Lib.hid hR2
              have g1 : (0 : Int) ≤ (j : Int) := by omega
              have g2 : (j : Int) < p := by omega
              clear hR1 hR2 hS hT e8 f8
              go_wp2
              go_quiet (fail)
              clear hq s0 s1 s2 s3 s4 u0 u1 u2 u3 u4 p0 q0 b1 b2
              cases q
              · have hR := H1.out rfl
                subst hR
                clear H1 H2
                go_wp2
                go_ret
                exact ⟨rfl, XW.out.trans (Hk.out.trans (by first | exact Hy.out | exact Hy.out.drewN _))⟩
              · have HU2 := Lib.hid (H2.out rfl)
                clear H1 H2
                go_wp2
                go_roundw
                case rel => exact ⟨j + 1, by omega, by go_num, by first | exact Hy | exact Lib.hid (Hy.out.drewN _), HU2⟩
                case measure => simp [intOf]; omega
            · obtain rfl : p = j := by omega
              have HS2 := Lib.hid (HR1.out HU.out)
              go_wp2
              go_roundw
              case rel => exact ⟨k + 1, by omega, by go_num, Lib.hid (Hk.out.trans Hy.out), HS2⟩
              case measure => simp [intOf]; omega
        · have tq : ((p : Int) != (pp : Int)) = true := by rw [bne, beq_eq_false_iff_ne.2 (by omega)]; rfl
          have hR := HF.out (.inr ⟨k, hlt, fun e => hpp (by rw [e2, f2, e])⟩)
          subst hR
          clear e2 f2 e5 f5 r1 r2 hpp
          go_wp2
          go_quiet (fail)
          go_wp2
          go_ret
          exact ⟨rfl, XW.out.trans (by first | exact Hx.out | exact Hx.out.drewN _)⟩
      · obtain rfl : n = k := by omega
        have hR := HT.out trivial HS.out
        subst hR
        go_wp2
        go_ret
        exact ⟨rfl, XW.out.trans Hx.out⟩
  · have hR := HF.out (.inl hl)
    subst hR
    have t1 : ¬ ((n : Int) = n2) := by omega
    rw [hW] at hb1 hb2
    go_wp2
    go_ret
    exact ⟨rfl, by rw [← hW]; exact XW.out⟩
end Go.Proofs.YtinijapkipeamaaDoor
