/- Texts of this claim in one file: libraries and walks. -/
import Derived.Deep.RegionHeld3
import Derived.Test.YtinijapkipeamaaDoorMKnown5
import Derived.Test.YtinijapkipeamaaDoorMKnown8
import Derived.Test.YtinijapkipeamaaDoorMKnown9
/- ganseyref13.Differ. -/
namespace Go.Proofs.YtinijapkipeamaaDoor
set_option linter.unusedVariables false
set_option linter.unusedSimpArgs false
set_option maxRecDepth 8000
open Go Go.RowKit

def dif (l m : List (List St)) : Int := if l = m then 0 else 1
theorem dif_same (l : List (List St)) : dif l l = 0 := if_pos rfl
set_option maxHeartbeats 4000000 in
theorem Differ_calls (v1 v2 : Value) (c1 c2 : Nat) (l m : List (List St)) (w : World) (h1 : RR w v1 c1 l) (h2 : RR w v2 c2 m) :
    Calls Tryd.prog 25 #[.agg #[v1], .agg #[v2]] w fun e w' => e = .returned (.int .i64 (dif l m)) ∧ Ext w w' := by
  obtain ⟨ao, n, rfl, hn, hc, hcm, hat⟩ := h1.open
  obtain ⟨ao2, n2, rfl, hn2, hc2, hcm2, hat2⟩ := h2.open
  have hT : n = n2 → (∀ i, i < n → sw l i = sw m i) → dif l m = 0 := fun e h => if_pos (sw_ext (by omega) (fun i hi => h i (by omega)))
  have hF : (n ≠ n2 ∨ ∃ i, i < n ∧ sw l i ≠ sw m i) → dif l m = 1 := fun h => if_neg (fun e => by
    rcases h with h | ⟨i, _, h⟩
    · rw [e] at hn; omega
    · rw [e] at h; exact h rfl)
  generalize dif l m = R at hT hF ⊢
  obtain ⟨W, hW⟩ : ∃ W, W = (w.alloc (.cells #[.slice ao n c1] 26)).alloc (.cells #[.slice ao2 n2 c2] 26) := ⟨_, rfl⟩
  have xW : Ext w W := by rw [hW]; exact ((Ext.refl w).alloc _).alloc _
  have hb1 : W.cell? ⟨w.heap.size, 0, none⟩ = some (.slice ao n c1) := by
    rw [hW]; exact ((Ext.refl _).alloc _).cell (by rw [World.cell?_alloc_at (hn := rfl)]; rfl)
  have hb2 : W.cell? ⟨w.heap.size + 1, 0, none⟩ = some (.slice ao2 n2 c2) := by
    rw [hW, World.cell?_alloc_at (hn := by simp)]; rfl
  have HA := Lib.hid hat; have HA2 := Lib.hid hat2; have HT := Lib.hid hT; have HF := Lib.hid hF; have XW := Lib.hid xW
  clear hat hat2 hT hF hn hn2 h1 h2
  unfold maxLen at hcm hcm2
  have HB1 := Lib.hid (fun w' (x : Ext W w') => x.cell hb1); have HB2 := Lib.hid (fun w' (x : Ext W w') => x.cell hb2)
  go_enter Tryd.func25, Tryd.ntmps25
  by_cases hl : n = n2
  · subst hl
    rw [hW] at hb1 hb2
    go_wp2
    rw [← hW]
    clear hb1 hb2 hW
    go_loopw [5, 6] (fun i _ wr => ∃ k : Nat, k ≤ n ∧ i = .int .i64 k ∧ Hid (Ext W wr) ∧ Hid (∀ i, i < k → sw l i = sw m i)) (fun i _ _ => n - (intOf i).toNat)
    case atStart => exact ⟨0, Nat.zero_le _, rfl, Lib.hid (Ext.refl _), Lib.hid (fun i hi => by omega)⟩
    case round =>
      obtain ⟨k, hk, rfl, Hx, HS⟩ := hrel
      have b1 := HB1.out _ Hx.out
      have b2 := HB2.out _ Hx.out
      by_cases hlt : k < n
      · obtain ⟨b, o, a, p, d, rfl, p0, r1⟩ := HA.out k hlt
        obtain ⟨bb, oo, aa, pp, dd, rfl, q0, r2⟩ := HA2.out k hlt
        have P0 := Lib.hid (fun w' (x : Ext W w') => (XW.out.trans x).cell p0); have Q0 := Lib.hid (fun w' (x : Ext W w') => (XW.out.trans x).cell q0)
        replace p0 := (XW.out.trans Hx.out).cell p0
        replace q0 := (XW.out.trans Hx.out).cell q0
        obtain ⟨_, _, e1, e2, e3, e4, e5⟩ := r1.open
        obtain ⟨_, _, f1, f2, f3, f4, f5⟩ := r2.open
        simp only [Value.slice.injEq] at e1 f1
        obtain ⟨rfl, rfl, _⟩ := e1
        obtain ⟨rfl, rfl, _⟩ := f1
        have HE5 := Lib.hid e5; have HF5 := Lib.hid f5
        have t7 : (0 : Int) ≤ (k : Int) := by omega
        have t8 : (k : Int) < n := by omega
        unfold maxLen at e4 f4
        by_cases hpp : p = pp
        · have tq : ((p : Int) != (pp : Int)) = false := by rw [hpp]; simp
          have HR1 := Lib.hid (show (∀ i, i < p → si (sw l k) i = si (sw m k) i) → ∀ i, i < k + 1 → sw l i = sw m i from fun h i hi => by
            by_cases e : i = k
            · rw [e]; exact si_ext (by omega) (fun i hi => h i (by omega))
            · exact HS.out i (by omega))
          have HR2 := Lib.hid (show ∀ i, i < p → si (sw l k) i ≠ si (sw m k) i → R = 1 from fun i hi h => HF.out (.inr ⟨k, hlt, fun e => h (by rw [e])⟩))
          subst hpp
          clear e2 f2 e5 f5 r1 r2
          go_wp2
          go_quiet (fail)
          obtain ⟨wk, hwk⟩ : ∃ wk, wk = wr.drewN nq := ⟨_, rfl⟩
          have Hk := Lib.hid (show Ext W wk by rw [hwk]; exact Hx.out.drewN nq)
          rw [← hwk]
          clear b1 b2 p0 q0 hwk
          go_wp2
          go_loopw [6] (fun i ws => ∃ j : Nat, j ≤ p ∧ i = .int .i64 j ∧ Hid (Ext wk ws) ∧ Hid (∀ i, i < j → si (sw l k) i = si (sw m k) i)) (fun i _ => p - (intOf i).toNat)
          case atStart => exact ⟨0, Nat.zero_le _, rfl, Lib.hid (Ext.refl _), Lib.hid (fun i hi => by omega)⟩
          case round =>
            obtain ⟨j, hj, rfl, Hy, HU⟩ := hrel
            have b1 := HB1.out _ (Hk.out.trans Hy.out)
            have b2 := HB2.out _ (Hk.out.trans Hy.out)
            have p0 := P0.out _ (Hk.out.trans Hy.out)
            have q0 := Q0.out _ (Hk.out.trans Hy.out)
            by_cases hjl : j < p
            · obtain ⟨e6, e7, rfl, e8⟩ := HE5.out j hjl
              obtain ⟨f6, f7, rfl, f8⟩ := HF5.out j hjl
              obtain ⟨s0, s1, s2, s3, s4⟩ := e8.ext (XW.out.trans (Hk.out.trans Hy.out))
              obtain ⟨u0, u1, u2, u3, u4⟩ := f8.ext (XW.out.trans (Hk.out.trans Hy.out))
              have hq := fun w => run_st_neq (si (sw l k) j) (si (sw m k) j) w
              have hR1 : St.eqb (si (sw l k) j) (si (sw m k) j) = false → R = 1 := fun h => HR2.out j hjl (eqb_false h)
              have hR2 : St.eqb (si (sw l k) j) (si (sw m k) j) = true → ∀ i, i < j + 1 → si (sw l k) i = si (sw m k) i := fun h i hi => by
                by_cases e : i = j
                · rw [e]; exact eqb_true h
                · exact HU.out i (by omega)
              obtain ⟨S, hS⟩ : ∃ S, S = si (sw l k) j := ⟨_, rfl⟩
              obtain ⟨T, hT⟩ : ∃ T, T = si (sw m k) j := ⟨_, rfl⟩
              rw [← hS] at s0 s1 s2 s3 s4 hq hR1 hR2
              rw [← hT] at u0 u1 u2 u3 u4 hq hR1 hR2
              generalize St.eqb S T = q at hq hR1 hR2
              have H1 := Lib.hid hR1; have H2 := Lib.hid hR2
              have g1 : (0 : Int) ≤ (j : Int) := by omega
              have g2 : (j : Int) < p := by omega
              clear hR1 hR2 hS hT e8 f8
              go_wp2
              go_quiet (fail)
              clear hq s0 s1 s2 s3 s4 u0 u1 u2 u3 u4 p0 q0 b1 b2
              cases q
              · have hR := H1.out rfl
                subst hR
                clear H1 H2
                go_wp2
                go_ret
                exact ⟨rfl, XW.out.trans (Hk.out.trans (by first | exact Hy.out | exact Hy.out.drewN _))⟩
              · have HU2 := Lib.hid (H2.out rfl)
                clear H1 H2
                go_wp2
                go_roundw
                case rel => exact ⟨j + 1, by omega, by go_num, by first | exact Hy | exact Lib.hid (Hy.out.drewN _), HU2⟩
                case measure => simp [intOf]; omega
            · obtain rfl : p = j := by omega
              have HS2 := Lib.hid (HR1.out HU.out)
              go_wp2
              go_roundw
              case rel => exact ⟨k + 1, by omega, by go_num, Lib.hid (Hk.out.trans Hy.out), HS2⟩
              case measure => simp [intOf]; omega
        · have tq : ((p : Int) != (pp : Int)) = true := by rw [bne, beq_eq_false_iff_ne.2 (by omega)]; rfl
          have hR := HF.out (.inr ⟨k, hlt, fun e => hpp (by rw [e2, f2, e])⟩)
          subst hR
          clear e2 f2 e5 f5 r1 r2 hpp
          go_wp2
          go_quiet (fail)
          go_wp2
          go_ret
          exact ⟨rfl, XW.out.trans (by first | exact Hx.out | exact Hx.out.drewN _)⟩
      · obtain rfl : n = k := by omega
        have hR := HT.out trivial HS.out
        subst hR
        go_wp2
        go_ret
        exact ⟨rfl, XW.out.trans Hx.out⟩
  · have hR := HF.out (.inl hl)
    subst hR
    have t1 : ¬ ((n : Int) = n2) := by omega
    rw [hW] at hb1 hb2
    go_wp2
    go_ret
    exact ⟨rfl, by rw [← hW]; exact XW.out⟩
end Go.Proofs.YtinijapkipeamaaDoor
/- The chapter's examples, in plain Lean. -/
namespace Go.Proofs.YtinijapkipeamaaDoor
set_option linter.unusedVariables false
set_option linter.unusedSimpArgs false
set_option maxRecDepth 20000
open Go Go.RowKit

def outl (k : Nat) : List Int := match k with | 0 => [4, 5] | 1 => [4, 4, 5, 5] | 2 => [4, 6] | 3 => [5, 4] | _ => [6, 4]
def cn (k : Nat) : Int := match k with | 0 => 1 | 1 => -1 | 2 => 0 | 3 => -1 | _ => 0
def txl (k : Nat) : List Int := match k with
  | 0 => [107, 32, 107, 32, 107, 32, 111, 32, 107, 10]
  | 1 => [107, 32, 107, 32, 107, 32, 107, 32, 107, 10, 107, 32, 111, 32, 107, 32, 107, 32, 107, 10, 107, 32, 107, 32, 107, 32, 107, 10]
  | 2 => [107, 32, 111, 32, 107, 32, 107, 32, 111, 32, 107, 10]
  | 3 => [107, 32, 107, 32, 107, 32, 47, 10]
  | _ => [47, 32, 107, 32, 107, 32, 47, 10]
theorem outl_facts : ∀ k, k < 5 → cherr (outl k) 1 = 0 ∧ oerr (outl k) = 0 ∧ cent (outl k) = cn k ∧ ctx (chres (outl k) 1) = txl k
  | 0, _ => by refine ⟨?_, ?_, ?_, ?_⟩ <;> decide
  | 1, _ => by refine ⟨?_, ?_, ?_, ?_⟩ <;> decide
  | 2, _ => by refine ⟨?_, ?_, ?_, ?_⟩ <;> decide
  | 3, _ => by refine ⟨?_, ?_, ?_, ?_⟩ <;> decide
  | 4, _ => by refine ⟨?_, ?_, ?_, ?_⟩ <;> decide
theorem slope_facts : serr 4 7 2 = 0 ∧ serr 7 4 2 = 0 ∧ serr 2 8 2 = 14 ∧ serr 8 2 4 = 0 ∧ sres 4 7 2 = [4, 6, 7] ∧ sres 7 4 2 = [7, 6, 4] ∧ sres 8 2 4 = [8, 7, 5, 4, 2] := by decide
theorem area_fact : area [4, 4, 5, 5] 4 = 14 := by decide
/-- The examples in memory. -/
def livW (w : World) : World := ((((((((w.alloc (.cells #[.int .i64 4, .int .i64 5] 3)).alloc (.cells #[.int .i64 4, .int .i64 4, .int .i64 5, .int .i64 5] 3)).alloc (.cells #[.int .i64 4, .int .i64 6] 3)).alloc (.cells #[.int .i64 5, .int .i64 4] 3)).alloc (.cells #[.int .i64 6, .int .i64 4] 3)).alloc
  (.cells #[.slice (some ⟨w.heap.size, 0, none⟩) 2 2, .slice (some ⟨w.heap.size + 1, 0, none⟩) 4 4, .slice (some ⟨w.heap.size + 1 + 1, 0, none⟩) 2 2, .slice (some ⟨w.heap.size + 1 + 1 + 1, 0, none⟩) 2 2, .slice (some ⟨w.heap.size + 1 + 1 + 1 + 1, 0, none⟩) 2 2] 22)).alloc
  (.cells #[.string (bstr (txl 0)), .string (bstr (txl 1)), .string (bstr (txl 2)), .string (bstr (txl 3)), .string (bstr (txl 4))] 9)).alloc (.cells #[.int .i64 1, .int .i64 (-1), .int .i64 0, .int .i64 (-1), .int .i64 0] 3))
theorem liv_at {w : World} {o : Obj} {g : Nat} (h : g = w.heap.size) : (w.alloc o).heap[g]? = some o := blk_at h
theorem liv_facts (w : World) : Ext w (livW w) ∧ ∀ k, k < 5 → (∃ b m, (livW w).cell? ⟨w.heap.size + 1 + 1 + 1 + 1 + 1, k, none⟩ = some (.slice (some ⟨b, 0, none⟩) m m) ∧ IS .i64 (livW w) (.slice (some ⟨b, 0, none⟩) m m) m (outl k)) ∧
    (livW w).cell? ⟨w.heap.size + 1 + 1 + 1 + 1 + 1 + 1, k, none⟩ = some (.string (bstr (txl k))) ∧ (livW w).cell? ⟨w.heap.size + 1 + 1 + 1 + 1 + 1 + 1 + 1, k, none⟩ = some (.int .i64 (cn k)) := by
  have X : ∀ {a b : World} (h : Ext a b) (o : Obj), Ext a (b.alloc o) := fun h o => h.alloc o
  have h6 := blk_old (o' := .cells #[.int .i64 1, .int .i64 (-1), .int .i64 0, .int .i64 (-1), .int .i64 0] 3) (blk_at (w := (((((((w.alloc (.cells #[.int .i64 4, .int .i64 5] 3)).alloc (.cells #[.int .i64 4, .int .i64 4, .int .i64 5, .int .i64 5] 3)).alloc (.cells #[.int .i64 4, .int .i64 6] 3)).alloc (.cells #[.int .i64 5, .int .i64 4] 3)).alloc (.cells #[.int .i64 6, .int .i64 4] 3)).alloc
  (.cells #[.slice (some ⟨w.heap.size, 0, none⟩) 2 2, .slice (some ⟨w.heap.size + 1, 0, none⟩) 4 4, .slice (some ⟨w.heap.size + 1 + 1, 0, none⟩) 2 2, .slice (some ⟨w.heap.size + 1 + 1 + 1, 0, none⟩) 2 2, .slice (some ⟨w.heap.size + 1 + 1 + 1 + 1, 0, none⟩) 2 2] 22)))) (o := .cells #[.string (bstr (txl 0)), .string (bstr (txl 1)), .string (bstr (txl 2)), .string (bstr (txl 3)), .string (bstr (txl 4))] 9) (g := w.heap.size + 1 + 1 + 1 + 1 + 1 + 1) (by simp))
  have b7 : (livW w).heap[w.heap.size + 1 + 1 + 1 + 1 + 1 + 1 + 1]? = some (.cells #[.int .i64 1, .int .i64 (-1), .int .i64 0, .int .i64 (-1), .int .i64 0] 3 (0, 0)) := blk_at (by simp)
  have b6 : (livW w).heap[w.heap.size + 1 + 1 + 1 + 1 + 1 + 1]? = some (.cells #[.string (bstr (txl 0)), .string (bstr (txl 1)), .string (bstr (txl 2)), .string (bstr (txl 3)), .string (bstr (txl 4))] 9 (0, 0)) := h6
  have b5 : (livW w).heap[w.heap.size + 1 + 1 + 1 + 1 + 1]? = some (.cells #[.slice (some ⟨w.heap.size, 0, none⟩) 2 2, .slice (some ⟨w.heap.size + 1, 0, none⟩) 4 4, .slice (some ⟨w.heap.size + 1 + 1, 0, none⟩) 2 2, .slice (some ⟨w.heap.size + 1 + 1 + 1, 0, none⟩) 2 2, .slice (some ⟨w.heap.size + 1 + 1 + 1 + 1, 0, none⟩) 2 2] 22 (0, 0)) :=
    blk_old (blk_old (blk_at (by simp)))
  have i0 : IS .i64 (livW w) (.slice (some ⟨w.heap.size, 0, none⟩) 2 2) 2 [4, 5] := (IS.lit (xs := [4, 5]) (n := 2) (arr := #[.int .i64 4, .int .i64 5]) (e := 3) rfl rfl rfl (by omega)).ext (X (X (X (X (X (X (X (Ext.refl _) _) _) _) _) _) _) _)
  have i1 : IS .i64 (livW w) (.slice (some ⟨w.heap.size + 1, 0, none⟩) 4 4) 4 [4, 4, 5, 5] := (IS.lit (xs := [4, 4, 5, 5]) (n := 4) (w := w.alloc (.cells #[.int .i64 4, .int .i64 5] 3)) (arr := #[.int .i64 4, .int .i64 4, .int .i64 5, .int .i64 5]) (e := 3) rfl (by simp) rfl (by omega)).ext (X (X (X (X (X (X (Ext.refl _) _) _) _) _) _) _)
  have i2 : IS .i64 (livW w) (.slice (some ⟨w.heap.size + 1 + 1, 0, none⟩) 2 2) 2 [4, 6] := (IS.lit (xs := [4, 6]) (n := 2) (w := (w.alloc (.cells #[.int .i64 4, .int .i64 5] 3)).alloc (.cells #[.int .i64 4, .int .i64 4, .int .i64 5, .int .i64 5] 3)) (arr := #[.int .i64 4, .int .i64 6]) (e := 3) rfl (by simp) rfl (by omega)).ext (X (X (X (X (X (Ext.refl _) _) _) _) _) _)
  have i3 : IS .i64 (livW w) (.slice (some ⟨w.heap.size + 1 + 1 + 1, 0, none⟩) 2 2) 2 [5, 4] := (IS.lit (xs := [5, 4]) (n := 2) (w := ((w.alloc (.cells #[.int .i64 4, .int .i64 5] 3)).alloc (.cells #[.int .i64 4, .int .i64 4, .int .i64 5, .int .i64 5] 3)).alloc (.cells #[.int .i64 4, .int .i64 6] 3)) (arr := #[.int .i64 5, .int .i64 4]) (e := 3) rfl (by simp) rfl (by omega)).ext (X (X (X (X (Ext.refl _) _) _) _) _)
  have i4 : IS .i64 (livW w) (.slice (some ⟨w.heap.size + 1 + 1 + 1 + 1, 0, none⟩) 2 2) 2 [6, 4] := (IS.lit (xs := [6, 4]) (n := 2) (w := (((w.alloc (.cells #[.int .i64 4, .int .i64 5] 3)).alloc (.cells #[.int .i64 4, .int .i64 4, .int .i64 5, .int .i64 5] 3)).alloc (.cells #[.int .i64 4, .int .i64 6] 3)).alloc (.cells #[.int .i64 5, .int .i64 4] 3)) (arr := #[.int .i64 6, .int .i64 4]) (e := 3) rfl (by simp) rfl (by omega)).ext (X (X (X (Ext.refl _) _) _) _)
  refine ⟨X (X (X (X (X (X (X (X (Ext.refl _) _) _) _) _) _) _) _) _, fun k hk => ?_⟩
  match k, hk with
  | 0, _ => exact ⟨⟨_, _, by simp [World.cell?, b5], i0⟩, by simp [World.cell?, b6], by simp [World.cell?, b7, cn]⟩
  | 1, _ => exact ⟨⟨_, _, by simp [World.cell?, b5], i1⟩, by simp [World.cell?, b6], by simp [World.cell?, b7, cn]⟩
  | 2, _ => exact ⟨⟨_, _, by simp [World.cell?, b5], i2⟩, by simp [World.cell?, b6], by simp [World.cell?, b7, cn]⟩
  | 3, _ => exact ⟨⟨_, _, by simp [World.cell?, b5], i3⟩, by simp [World.cell?, b6], by simp [World.cell?, b7, cn]⟩
  | 4, _ => exact ⟨⟨_, _, by simp [World.cell?, b5], i4⟩, by simp [World.cell?, b6], by simp [World.cell?, b7, cn]⟩
end Go.Proofs.YtinijapkipeamaaDoor
/- ganseylaw19.lives. -/
namespace Go.Proofs.YtinijapkipeamaaDoor
set_option linter.unusedVariables false
set_option linter.unusedSimpArgs false
set_option maxRecDepth 8000
open Go Go.RowKit

set_option maxHeartbeats 4000000 in
theorem lives_calls (w : World) (hy : Sy w) : Calls Tryd.prog 15 #[] w fun e w' => e = .returned (.bool true) ∧ Ext w w' := by
  obtain ⟨s1, s2, s3, s4, s5, s6, s7⟩ := slope_facts
  have k1 := fun w => Slope_calls 4 7 2 w
  have k2 := fun w => Slope_calls 7 4 2 w
  have k3 := fun w => Slope_calls 2 8 2 w
  have k4 := fun w => Slope_calls 8 2 4 w
  rw [s1, s5] at k1; rw [s2, s6] at k2; rw [s3] at k3; rw [s4, s7] at k4
  have K1 := Lib.hid k1; have K2 := Lib.hid k2; have K3 := Lib.hid k3; have K4 := Lib.hid k4
  clear k1 k2 k3 k4 s1 s2 s3 s4 s5 s6 s7
  go_enter Tryd.func15, Tryd.ntmps15
  go_wp2_with fail
  refine (K1.out _).mono ?_
  rintro e w1 ⟨v1, rfl, i1, x1⟩
  have I1 := Lib.hid i1; have X1 := Lib.hid x1
  clear i1 x1 K1
  go_wp2_with fail
  refine (K2.out _).mono ?_
  rintro e w2 ⟨v2, rfl, i2, x2⟩
  have I2 := Lib.hid i2; have X2 := Lib.hid x2
  clear i2 x2 K2
  go_wp2_with fail
  refine (K3.out _).mono ?_
  rintro e w3 ⟨v3, rfl, i3, x3⟩
  have X3 := Lib.hid x3
  clear i3 x3 K3
  go_wp2_with fail
  refine (K4.out _).mono ?_
  rintro e w4 ⟨v4, rfl, i4, x4⟩
  have I4 := Lib.hid i4; have X4 := Lib.hid x4
  clear i4 x4 K4
  have q1 := same_calls v1 (.slice (some ⟨w4.heap.size, 0, none⟩) 3 3) _ 3 _ [4, 6, 7] (w4.alloc (.cells #[.int .i64 4, .int .i64 6, .int .i64 7] 3)) (I1.out.ext (((X2.out.trans X3.out).trans X4.out).alloc _)) (IS.lit rfl rfl rfl (by omega))
  rw [show sm [4, 6, 7] [4, 6, 7] = 0 from rfl] at q1
  have Q1 := Lib.hid q1
  clear q1
  go_wp2_with fail
  refine Q1.out.mono ?_
  rintro e w5 ⟨rfl, x5⟩
  have X5 := Lib.hid (((Ext.refl w4).alloc _).trans x5)
  clear x5 Q1
  have q1 := same_calls v2 (.slice (some ⟨w5.heap.size, 0, none⟩) 3 3) _ 3 _ [7, 6, 4] (w5.alloc (.cells #[.int .i64 7, .int .i64 6, .int .i64 4] 3)) (I2.out.ext (((X3.out.trans X4.out).trans X5.out).alloc _)) (IS.lit rfl rfl rfl (by omega))
  rw [show sm [7, 6, 4] [7, 6, 4] = 0 from rfl] at q1
  have Q1 := Lib.hid q1
  clear q1
  go_wp2_with fail
  refine Q1.out.mono ?_
  rintro e w6 ⟨rfl, x6⟩
  have X6 := Lib.hid (((Ext.refl w5).alloc _).trans x6)
  clear x6 Q1
  have q1 := same_calls v4 (.slice (some ⟨w6.heap.size, 0, none⟩) 5 5) _ 5 _ [8, 7, 5, 4, 2] (w6.alloc (.cells #[.int .i64 8, .int .i64 7, .int .i64 5, .int .i64 4, .int .i64 2] 3)) (I4.out.ext ((X5.out.trans X6.out).alloc _)) (IS.lit rfl rfl rfl (by omega))
  rw [show sm [8, 7, 5, 4, 2] [8, 7, 5, 4, 2] = 0 from rfl] at q1
  have Q1 := Lib.hid q1
  clear q1
  go_wp2_with fail
  refine Q1.out.mono ?_
  rintro e w7 ⟨rfl, x7⟩
  have X7 := Lib.hid ((X1.out.trans (X2.out.trans (X3.out.trans (X4.out.trans (X5.out.trans X6.out))))).trans (((Ext.refl w6).alloc _).trans x7))
  clear x7 Q1 I1 I2 I4 X1 X2 X3 X4 X5 X6
  go_wp2
  generalize hW : World.alloc _ _ = W
  have hl : W = livW w7 := hW.symm
  obtain ⟨xl, hf⟩ := liv_facts w7
  rw [← hl] at xl hf
  have hx := X7.out.trans xl
  have HX := Lib.hid hx; have HF := Lib.hid hf; have HS := Lib.hid (hy.ext hx)
  obtain ⟨O, hO⟩ : ∃ O, O = w7.heap.size + 1 + 1 + 1 + 1 + 1 := ⟨_, rfl⟩
  rw [← hO] at HF ⊢
  clear hW hl xl hf hx hO X7 hy
  go_loopw [12, 13, 14, 15, 16] (fun i _ _ _ _ wr => ∃ k : Nat, k ≤ 5 ∧ i = .int .i64 k ∧ Hid (Ext W wr)) (fun i _ _ _ _ _ => 5 - (intOf i).toNat)
  case atStart => exact ⟨0, Nat.zero_le _, rfl, Lib.hid (Ext.refl W)⟩
  case round =>
    obtain ⟨k, hk, rfl, HW⟩ := hrel
    by_cases hlt : k < 5
    · obtain ⟨⟨b, m, c0, i0⟩, c1, c2⟩ := HF.out k hlt
      obtain ⟨f1, f2, f3, f4⟩ := outl_facts k hlt
      have hch := Chart_calls _ _ (outl k) 1 wr (i0.ext HW.out) (by omega)
      rw [f1] at hch
      have hce := fun w' (x : Ext wr w') => Centre_calls _ _ (outl k) w' ((i0.ext HW.out).ext x)
      rw [f2, f3] at hce
      simp only [if_true] at hce
      have htx := fun v c w' (h : RR w' v c (chres (outl k) 1)) (x : Ext wr w') => CText_calls v c _ w' h (HS.out.ext (HW.out.trans x))
      rw [f4] at htx
      replace c0 := HW.out.cell c0
      have HCh := Lib.hid hch; have HCe := Lib.hid hce; have HTx := Lib.hid htx
      have C0 := Lib.hid c0; have C1 := Lib.hid (HW.out.cell c1); have C2 := Lib.hid (HW.out.cell c2)
      obtain ⟨T, hT⟩ : ∃ T, T = bstr (txl k) := ⟨_, rfl⟩
      rw [← hT] at HTx C1
      generalize cn k = N at *
      clear hch hce htx c1 c2 f1 f2 f3 f4 i0 hT
      have t1 : (0 : Int) ≤ (k : Int) := by omega
      go_wp2_with fail
      refine HCh.out.mono ?_
      rintro e w8 ⟨v8, rfl, r8, x8⟩
      obtain ⟨a8, n8, rfl, q8⟩ := r8.open
      obtain ⟨w9, hw9⟩ : ∃ w9, w9 = w8.alloc (.cells #[.slice a8 n8 (chres (outl k) 1).length] 26) := ⟨_, rfl⟩
      have x9 : Ext w8 w9 := by rw [hw9]; exact (Ext.refl w8).alloc _
      have b9 : w9.cell? ⟨w8.heap.size, 0, none⟩ = some (.slice a8 n8 (chres (outl k) 1).length) := by rw [hw9, World.cell?_alloc_at (hn := rfl)]; rfl
      have R9 := Lib.hid (r8.ext x9); have X9 := Lib.hid (x8.trans x9)
      obtain ⟨cc, hcc⟩ : ∃ cc, cc = (chres (outl k) 1).length := ⟨_, rfl⟩
      rw [← hcc] at b9 R9 hw9 ⊢
      have B9 := Lib.hid b9; have HW9 := Lib.hid hw9
      have c9 := X9.out.cell C0.out
      rw [hw9] at c9
      clear hcc b9 x9 x8 r8 q8 c0 HCh hw9
      go_wp2_with fail
      rw [← HW9.out]
      clear HW9
      refine (HCe.out _ X9.out).mono ?_
      rintro e w10 ⟨rfl, x10⟩
      clear c9 HCe
      have HX10 := Lib.hid (X9.out.trans x10)
      have p1 := x10.cell B9.out
      have p2 := HX10.out.cell C1.out
      have p3 := HX10.out.cell C2.out
      have R10 := Lib.hid (R9.out.ext x10)
      clear x10
      go_wp2
      go_region_held3 (fun w' => w'.cell? ⟨w8.heap.size, 0, none⟩ = some (.slice a8 n8 cc) ∧ w'.cell? ⟨O + 1, k, none⟩ = some (.string T) ∧ w'.cell? ⟨O + 1 + 1, k, none⟩ = some (.int .i64 N))
          (first | exact ⟨p1, p2, p3⟩ | exact ⟨z1, z2, z3⟩ | go_keep) (first
          | (go_at_call 35; refine (HTx.out _ _ _ (R10.out.ext ((Ext.refl w10).drewN _)) (HX10.out.trans ((Ext.refl w10).drewN _))).mono ?_; rintro e w11 ⟨rfl, x11⟩; have X11 := Lib.hid (((Ext.refl w10).drewN _).trans x11); have z1 := X11.out.cell p1; have z2 := X11.out.cell p2; have z3 := X11.out.cell p3; clear x11))
      have HX11 := Lib.hid (HW.out.trans (HX10.out.trans X11.out))
      clear p1 p2 p3 z1 z2 z3 R10 R9 X11 HX10
      go_wp2
      go_roundw
      case rel => exact ⟨k + 1, by omega, by go_num, HX11⟩
      case measure => simp [intOf]; omega
    · obtain rfl : k = 5 := by omega
      have q1 := Area_calls (.slice (some ⟨wr.heap.size, 0, none⟩) 4 4) 4 [4, 4, 5, 5] (wr.alloc (.cells #[.int .i64 4, .int .i64 4, .int .i64 5, .int .i64 5] 3)) (IS.lit rfl rfl rfl (by omega)) (by decide) (by decide)
      rw [show area [4, 4, 5, 5] [(4 : Int), 4, 5, 5].length = 14 from area_fact] at q1
      have Q1 := Lib.hid q1
      clear q1
      go_wp2_with fail
      refine Q1.out.mono ?_
      rintro e w8 ⟨rfl, x8⟩
      have X8 := Lib.hid (HX.out.trans (HW.out.trans (((Ext.refl wr).alloc _).trans x8)))
      clear x8 Q1
      go_wp2
      go_ret
      exact ⟨rfl, X8.out⟩
end Go.Proofs.YtinijapkipeamaaDoor
/- The law ShapesChart, walked. -/
namespace Go.Proofs.YtinijapkipeamaaDoor
set_option linter.unusedVariables false
set_option linter.unusedSimpArgs false
set_option maxRecDepth 8000
open Go Go.RowKit

theorem wds_chart {l : List Int} {y : Int} (hl : oerr l = 0) (hy : 1 ≤ y ∧ y ≤ 6) : wds (chartOf l y) = l := by
  have hf := chartOf_facts hl hy
  obtain ⟨h1, h2, h3, h4, h5⟩ := oerr_zero hl
  have hlen := chartOf_len l y
  refine gi_ext (by rw [wds_len (by omega)]; omega) fun i hi => ?_
  rw [wds_len (by omega)] at hi
  match i with
  | 0 => rw [wds_zero (by omega), (hf 0 (by omega)).2.1]
  | i + 1 => rw [wds_succ (by omega), (hf i (by omega)).2.2.1]
theorem y00_chart {l : List Int} {y : Int} (hl : oerr l = 0) (hy : 1 ≤ y ∧ y ≤ 6) : y00 (chartOf l y) = y := by
  have hf := chartOf_facts hl hy
  obtain ⟨h1, h2, h3, h4, h5⟩ := oerr_zero hl
  have h := hf 0 (by omega)
  have := h4 1 (by omega)
  have hq : ((sw (chartOf l y) 0).length : Int) = gi l 1 := h.1
  exact (h.2.2.2 _ (si_mem (show 0 < (sw (chartOf l y) 0).length by omega))).2.2
theorem cherr_ok {l : List Int} {y : Int} (hl : oerr l = 0) (hy : 1 ≤ y ∧ y ≤ 6) : cherr l y = 0 := by unfold cherr; rw [if_neg (by omega), if_neg (by omega)]
theorem chres_ok {l : List Int} {y : Int} (hl : oerr l = 0) (hy : 1 ≤ y ∧ y ≤ 6) : chres l y = chartOf l y := by unfold chres; rw [if_pos (cherr_ok hl hy)]
theorem oferr_chart {l : List Int} {y : Int} (hl : oerr l = 0) (hy : 1 ≤ y ∧ y ≤ 6) : oferr (chartOf l y) = 0 := by
  unfold oferr
  rw [chartOf_loads hl hy, if_neg (by simp), wds_chart hl hy, y00_chart hl hy, if_pos ⟨cherr_ok hl hy, chres_ok hl hy⟩]

set_option maxHeartbeats 8000000 in
theorem ShapesChart_walk (f : Int) (v : Value) (c : Nat) (st : List Int) (yn : Int) (w : World) (h : IS .u8 w v c st) (hf : 0 ≤ f ∧ f ≤ 255) (hs : ∀ i, i < st.length → 0 ≤ gi st i ∧ gi st i ≤ 255) (hyn : 0 ≤ yn ∧ yn ≤ 255) (hy : Sy w) :
    Calls Tryd.prog 8 #[.agg #[.int .u8 f, v], .int .u8 yn] w fun e w' => e = .returned (.bool true) ∧ Ext w w' := by
  have hof := fun w' (x : Ext w w') => O_calls f v c st w' (h.ext x) hf hs
  obtain ⟨ao, n, c', rfl, hn, rfl, hIS⟩ := h.out
  obtain ⟨l, hl⟩ : ∃ l, l = oof f st := ⟨_, rfl⟩
  have hok : oerr l = 0 := by rw [hl]; exact oof_ok f st
  rw [← hl] at hof
  obtain ⟨Y, hY⟩ : ∃ Y, Y = 1 + yn % 6 := ⟨_, rfl⟩
  have hY6 : 1 ≤ Y ∧ Y ≤ 6 := by omega
  obtain ⟨C, hC⟩ : ∃ C, C = chartOf l Y := ⟨_, rfl⟩
  have h1 := fun w' v c (hi : IS .i64 w' v c l) => Chart_calls v c l Y w' hi (by omega)
  rw [cherr_ok hok hY6, chres_ok hok hY6, ← hC] at h1
  have h2 := fun w' v c (hi : IS .i64 w' v c l) => RChart_calls v c l Y w' hi hok
  rw [← hC] at h2
  have h3 := fun w' v1 c1 v2 c2 (a : RR w' v1 c1 C) (b : RR w' v2 c2 C) => Differ_calls v1 v2 c1 c2 C C w' a b
  rw [dif_same] at h3
  have h4 := fun w' v c (a : RR w' v c C) => CCheck_calls v c C w' a
  rw [show (cloads C).1 = 0 by rw [hC]; exact chartOf_loads hok hY6] at h4
  obtain ⟨z1, z2, z3, z4, z5⟩ := oerr_zero hok
  have hCl : C.length = l.length - 1 := by rw [hC]; exact chartOf_len l Y
  have hfc := chartOf_facts hok hY6
  rw [← hC] at hfc
  have h5 := fun w' v c (a : RR w' v c C) => Widths_calls v c C w' a (fun i hi => by have := (hfc i (by omega)).1; have := z4 (i + 1) (by omega); omega) (by omega)
  rw [show wds C = l by rw [hC]; exact wds_chart hok hY6] at h5
  have h6 := fun w' v1 c1 v2 c2 (a : IS .i64 w' v1 c1 l) (b : IS .i64 w' v2 c2 l) => same_calls v1 v2 c1 c2 l l w' a b
  rw [show sm l l = 0 from if_pos rfl] at h6
  have h7 := fun w' v c (a : RR w' v c C) => Of_calls v c C w' a (fun i hi s hs' => by have := (hfc i (by omega)).2.2.2 s hs'; omega)
  rw [show oferr C = 0 by rw [hC]; exact oferr_chart hok hY6, show wds C = l by rw [hC]; exact wds_chart hok hY6, show y00 C = Y by rw [hC]; exact y00_chart hok hY6] at h7
  simp only [if_true] at h7
  have HOo := Lib.hid hof; have K1 := Lib.hid h1; have K2 := Lib.hid h2; have K3 := Lib.hid h3; have K4 := Lib.hid h4; have K5 := Lib.hid h5; have K6 := Lib.hid h6; have K7 := Lib.hid h7
  have HL := Lib.hid (fun w' (x : Ext w w') => lives_calls w' (hy.ext x))
  obtain ⟨W, hW⟩ : ∃ W, W = w.alloc (.cells #[.int .u8 f, .slice ao n c'] 44) := ⟨_, rfl⟩
  have xW : Ext w W := by rw [hW]; exact (Ext.refl w).alloc _
  have hB := B2.new w (.int .u8 f) (.slice ao n c') 44
  have c0 := hB.c0; have c1 := hB.c1
  have XW := Lib.hid xW; have HW := Lib.hid hW
  have w1 : IntKind.u8.wrap (yn % 6) = yn % 6 := IntWalk.u8_in _ ⟨by omega, by omega⟩
  have w2 : IntKind.u8.wrap (1 + yn % 6) = Y := by rw [← hY]; exact IntWalk.u8_in _ ⟨by omega, by omega⟩
  obtain ⟨y1, y2⟩ := hY6
  obtain ⟨yn1, yn2⟩ := hyn
  clear hof h1 h2 h3 h4 h5 h6 h7 z1 z2 z3 z4 z5 hCl hfc hl hok hC h hIS hn hs hf xW hW hY hB hy
  go_enter Tryd.func8, Tryd.ntmps8
  go_wp2_with fail
  rw [← HW.out]
  refine (HOo.out _ XW.out).mono ?_
  rintro e w3 ⟨v3, k3, rfl, i3, x3⟩
  have X3 := Lib.hid (XW.out.trans x3); have I3 := Lib.hid i3
  clear x3 i3 HOo c0 c1
  go_wp2_with fail
  refine (K1.out _ _ _ I3.out).mono ?_
  rintro e w4 ⟨v4, rfl, r4, x4⟩
  obtain ⟨a4, n4, rfl, hn4, q4⟩ := r4.open
  rw [← hn4] at r4 ⊢
  clear q4 hn4
  obtain ⟨wc, hwc⟩ : ∃ wc, wc = w4.alloc (.cells #[.slice a4 n4 n4] 26) := ⟨_, rfl⟩
  have xc : Ext w4 wc := by rw [hwc]; exact (Ext.refl w4).alloc _
  have p1 : wc.cell? ⟨w4.heap.size, 0, none⟩ = some (.slice a4 n4 n4) := by rw [hwc, World.cell?_alloc_at (hn := rfl)]; rfl
  have Xc := Lib.hid (X3.out.trans (x4.trans xc)); have Rc := Lib.hid (r4.ext xc); have Ic := Lib.hid (I3.out.ext (x4.trans xc))
  have HWc := Lib.hid hwc
  clear x4 xc r4 hwc K1
  go_wp2
  rw [← HWc.out]
  go_region_held3 (fun w' => w'.cell? ⟨w4.heap.size, 0, Option.none⟩ = some (.slice a4 n4 n4)) (first | exact p1 | exact p2 | exact p3 | exact p4 | exact p5 | exact p6 | go_keep) (first
    | (go_at_call 21; (refine (K2.out _ _ _ (Ic.out.ext ?_)).mono ?_); (focus (repeat (first | (with_reducible exact Ext.refl _) | (with_reducible apply Ext.drew) | (with_reducible apply Ext.drewN)))); intro e wa hh; obtain ⟨va, ca, rfl, ra, xa⟩ := hh; have Xa : Hid (Ext wc wa) := Lib.hid (Ext.trans (by (repeat (first | (with_reducible exact Ext.refl _) | (with_reducible apply Ext.drew) | (with_reducible apply Ext.drewN)))) xa); obtain ⟨aa, na, rfl, qa⟩ := ra.open; have Ra := Lib.hid ra; have p2 := Xa.out.cell p1; clear ra xa qa)
    | (go_at_call 25; (refine (K3.out _ _ _ _ _ (Rc.out.ext ?_) (Ra.out.ext ?_)).mono ?_); (focus (refine Xa.out.trans ?_; (repeat (first | (with_reducible exact Ext.refl _) | (with_reducible apply Ext.drew) | (with_reducible apply Ext.drewN))))); (focus (repeat (first | (with_reducible exact Ext.refl _) | (with_reducible apply Ext.drew) | (with_reducible apply Ext.drewN)))); intro e wb hh; obtain ⟨rfl, xb⟩ := hh; have Xb : Hid (Ext wc wb) := Lib.hid (Xa.out.trans (Ext.trans (by (repeat (first | (with_reducible exact Ext.refl _) | (with_reducible apply Ext.drew) | (with_reducible apply Ext.drewN)))) xb)); have p3 := Xb.out.cell p1; clear xb)
    | (go_at_call 26; (refine (K4.out _ _ _ (Rc.out.ext ?_)).mono ?_); (focus (refine Xb.out.trans ?_; (repeat (first | (with_reducible exact Ext.refl _) | (with_reducible apply Ext.drew) | (with_reducible apply Ext.drewN))))); intro e wd hh; obtain ⟨rfl, xd⟩ := hh; have Xd : Hid (Ext wc wd) := Lib.hid (Xb.out.trans (Ext.trans (by (repeat (first | (with_reducible exact Ext.refl _) | (with_reducible apply Ext.drew) | (with_reducible apply Ext.drewN)))) xd)); have p4 := Xd.out.cell p1; clear xd)
    | (go_at_call 27; (refine (K5.out _ _ _ (Rc.out.ext ?_)).mono ?_); (focus (refine Xd.out.trans ?_; (repeat (first | (with_reducible exact Ext.refl _) | (with_reducible apply Ext.drew) | (with_reducible apply Ext.drewN))))); intro e we hh; obtain ⟨ve, ce, rfl, ie, xe⟩ := hh; have Xe : Hid (Ext wc we) := Lib.hid (Xd.out.trans (Ext.trans (by (repeat (first | (with_reducible exact Ext.refl _) | (with_reducible apply Ext.drew) | (with_reducible apply Ext.drewN)))) xe)); have Ie := Lib.hid ie; have p5 := Xe.out.cell p1; clear ie xe)
    | (go_at_call 19; (refine (K6.out _ _ _ _ _ (Ie.out.ext ?_) (Ic.out.ext ?_)).mono ?_); (focus (repeat (first | (with_reducible exact Ext.refl _) | (with_reducible apply Ext.drew) | (with_reducible apply Ext.drewN)))); (focus (refine Xe.out.trans ?_; (repeat (first | (with_reducible exact Ext.refl _) | (with_reducible apply Ext.drew) | (with_reducible apply Ext.drewN))))); intro e wf hh; obtain ⟨rfl, xf⟩ := hh; have Xf : Hid (Ext wc wf) := Lib.hid (Xe.out.trans (Ext.trans (by (repeat (first | (with_reducible exact Ext.refl _) | (with_reducible apply Ext.drew) | (with_reducible apply Ext.drewN)))) xf)); have p6 := Xf.out.cell p1; clear xf))
  have Xf2 := Lib.hid (Xc.out.trans Xf.out)
  clear p1 p2 p3 p4 p5
  go_wp2_with fail
  refine (K7.out _ _ _ (Rc.out.ext Xf.out)).mono ?_
  rintro e w5 ⟨v5, c5, rfl, i5, x5⟩
  have X5 := Lib.hid (Xf2.out.trans x5)
  have q := K6.out w5 v5 c5 v3 _ i5 (Ic.out.ext (Xf.out.trans x5))
  have Q := Lib.hid q
  clear i5 x5 q p6
  go_wp2_with fail
  refine Q.out.mono ?_
  rintro e w6 ⟨rfl, x6⟩
  have X6 := Lib.hid (X5.out.trans x6)
  clear x6 Q
  go_wp2_with fail
  refine (HL.out _ X6.out).mono ?_
  rintro e w7 ⟨rfl, x7⟩
  have X7 := Lib.hid (X6.out.trans x7)
  clear x7 HL
  go_wp2
  go_ret
  exact ⟨rfl, X7.out⟩
end Go.Proofs.YtinijapkipeamaaDoor
