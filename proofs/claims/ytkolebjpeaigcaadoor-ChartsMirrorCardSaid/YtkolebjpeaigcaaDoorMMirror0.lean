/- Texts of this claim in one file: libraries and walks. -/
import Derived.Deep.RegionHeld3
import Derived.RegionTactic
import Derived.Test.YtkolebjpeaigcaaDoorL2
import Derived.Test.YtkolebjpeaigcaaDoorL6
import Derived.Test.YtkolebjpeaigcaaDoorL7
import Derived.Test.YtkolebjpeaigcaaDoorL9
/- ganseylaw13.small; the law ChartsSame, walked. -/
namespace Go.Proofs.YtkolebjpeaigcaaDoor
set_option linter.unusedVariables false
set_option linter.unusedSimpArgs false
set_option maxRecDepth 8000
open Go Go.RowKit

/-- 1 for a small chart. -/
def sml (rows : List (List St)) : Int := if 40 < rows.length then 0 else if rows.any (fun r => decide (40 < r.length)) then 0 else 1
theorem sml_long {rows : List (List St)} (h : 40 < rows.length) : sml rows = 0 := if_pos h
theorem sml_bad {rows : List (List St)} (h : rows.length ≤ 40) {k : Nat} (hk : k < rows.length) (hb : 40 < (sw rows k).length) : sml rows = 0 := by
  unfold sml
  rw [if_neg (by omega), if_pos]
  rw [List.any_eq_true]
  exact ⟨sw rows k, by rw [sw_of_lt hk]; exact List.getElem_mem hk, by simpa using hb⟩
theorem sml_ok {rows : List (List St)} (h : rows.length ≤ 40) (hg : ∀ k, k < rows.length → (sw rows k).length ≤ 40) : sml rows = 1 := by
  unfold sml
  rw [if_neg (by omega), if_neg]
  rw [List.any_eq_true]
  rintro ⟨r, hr, hb⟩
  obtain ⟨i, hi, rfl⟩ := List.mem_iff_getElem.1 hr
  have := hg i hi
  rw [sw_of_lt hi] at this
  simp at hb; omega
theorem sml_one {rows : List (List St)} (h : sml rows ≠ 0) : rows.length ≤ 40 ∧ ∀ k, k < rows.length → (sw rows k).length ≤ 40 := by
  by_cases h1 : 40 < rows.length
  · exact absurd (sml_long h1) h
  · refine ⟨by omega, fun k hk => ?_⟩
    by_cases h2 : 40 < (sw rows k).length
    · exact absurd (sml_bad (by omega) hk h2) h
    · omega
theorem sml_cases (rows : List (List St)) : sml rows = 0 ∨ sml rows = 1 := by unfold sml; (repeat' split) <;> simp

set_option maxHeartbeats 1000000 in
theorem small_calls (v : Value) (c : Nat) (rows : List (List St)) (w : World) (h : RR w v c rows) : Calls Tryd.prog 14 #[.agg #[v]] w fun e w' => e = .returned (.int .i64 (sml rows)) ∧ Ext w w' := by
  obtain ⟨ao, n, rfl, hn, hc, hcm, hat⟩ := h.open
  unfold maxLen at hcm
  obtain ⟨W, hW⟩ : ∃ W, W = w.alloc (.cells #[.slice ao n c] 27) := ⟨_, rfl⟩
  have xW : Ext w W := by rw [hW]; exact (Ext.refl w).alloc _
  have b0 : W.cell? ⟨w.heap.size, 0, none⟩ = some (.slice ao n c) := by rw [hW, World.cell?_alloc_at (hn := rfl)]; rfl
  have HBx := Lib.hid (fun w' (x : Ext W w') => x.cell b0); have XW := Lib.hid xW; have HA := Lib.hid hat; have HW := Lib.hid hW
  have hsl : 40 < n → sml rows = 0 := fun h => sml_long (by omega)
  have hsb : n ≤ 40 → ∀ k, k < n → 40 < (sw rows k).length → sml rows = 0 := fun h k hk hb => sml_bad (by omega) (by omega) hb
  have hsg : n ≤ 40 → (∀ k, k < n → (sw rows k).length ≤ 40) → sml rows = 1 := fun h hg => sml_ok (by omega) (fun k hk => hg k (by omega))
  generalize sml rows = S at *
  rw [hW] at b0
  by_cases h40 : 40 < n
  · have h40' : (40 : Int) < n := by omega
    have hS := hsl h40
    subst hS
    clear hat h hn hsl hsb hsg xW hW h40
    go_enter Tryd.func14, Tryd.ntmps14
    go_wp2
    rw [← HW.out]
    go_ret
    exact ⟨rfl, XW.out⟩
  have h40' : ¬ (40 : Int) < n := by omega
  have HSb := Lib.hid (hsb (by omega)); have HSg := Lib.hid (hsg (by omega))
  clear hat h hn hsl hsb hsg xW hW
  go_enter Tryd.func14, Tryd.ntmps14
  go_wp2
  rw [← HW.out]
  clear b0 HW
  go_loopw [3] (fun i wr => ∃ k : Nat, k ≤ n ∧ i = .int .i64 k ∧ Hid (Ext W wr) ∧ Hid (∀ i, i < k → (sw rows i).length ≤ 40)) (fun i _ => n - (intOf i).toNat)
  case atStart => exact ⟨0, Nat.zero_le _, rfl, Lib.hid (Ext.refl _), Lib.hid (fun i hi => by omega)⟩
  case round =>
    obtain ⟨k, hk, rfl, HX, HG⟩ := hrel
    have b1 := HBx.out _ HX.out
    by_cases hlt : k < n
    · obtain ⟨b, o, a, m, d, rfl, hc0, hr0⟩ := HA.out k hlt
      replace hc0 := (XW.out.trans HX.out).cell hc0
      obtain ⟨_, _, e1, e2, _⟩ := hr0.open
      simp only [Value.slice.injEq] at e1
      obtain ⟨rfl, rfl, _⟩ := e1
      have He2 := Lib.hid e2
      clear hr0 e2
      by_cases hm : 40 < m
      · have hm' : (40 : Int) < m := by omega
        have hS := HSb.out k hlt (by have := He2.out; omega)
        subst hS
        clear hm
        go_wp2
        go_ret
        exact ⟨rfl, XW.out.trans HX.out⟩
      · have hm' : ¬ (40 : Int) < m := by omega
        have HG2 := Lib.hid (show ∀ i, i < k + 1 → (sw rows i).length ≤ 40 from fun i hi => by
          by_cases e : i = k
          · rw [e]; have := He2.out; omega
          · exact HG.out i (by omega))
        clear hm
        go_wp2
        go_roundw
        case rel => exact ⟨k + 1, by omega, by go_num, HX, HG2⟩
        case measure => simp [intOf]; omega
    · obtain rfl : n = k := by omega
      have hS := HSg.out HG.out
      subst hS
      have hlt' : ¬ (n : Int) < (n : Int) := by omega
      go_wp2
      go_ret
      exact ⟨rfl, XW.out.trans HX.out⟩

set_option maxHeartbeats 4000000 in
theorem ChartsSame_walk (v1 v2 : Value) (c1 c2 : Nat) (l m : List (List St)) (w : World) (h1 : RR w v1 c1 l) (h2 : RR w v2 c2 m) (hy : Sy w) (hm : Mx w) :
    Calls Tryd.prog 6 #[.agg #[v1], .agg #[v2]] w fun e w' => e = .returned (.bool true) ∧ Ext w w' := by
  have k1 := fun w' (x : Ext w w') => small_calls v1 c1 l w' (h1.ext x)
  have k2 := fun w' (x : Ext w w') => small_calls v2 c2 m w' (h2.ext x)
  have k3 := fun w' (x : Ext w w') => CSame_calls v1 v2 c1 c2 l m w' (h1.ext x) (h2.ext x)
  have k4 := fun w' (x : Ext w w') => Differ_calls v1 v2 c1 c2 l m w' (h1.ext x) (h2.ext x)
  have k5 := fun w' (x : Ext w w') => CSame_calls v1 v1 c1 c1 l l w' (h1.ext x) (h1.ext x)
  have k6 := fun w' (x : Ext w w') => lives13_calls w' (hy.ext x) (hm.ext x)
  rw [decide_eq_true (rfl : l = l)] at k5
  obtain ⟨a1, n1, rfl, hn1⟩ := h1.open
  obtain ⟨a2, n2, rfl, hn2⟩ := h2.open
  clear hn1 hn2
  obtain ⟨W, hW⟩ : ∃ W, W = (w.alloc (.cells #[.slice a1 n1 c1] 27)).alloc (.cells #[.slice a2 n2 c2] 27) := ⟨_, rfl⟩
  have xW : Ext w W := by rw [hW]; exact ((Ext.refl w).alloc _).alloc _
  have b1 : W.heap[w.heap.size]? = some (.cells #[.slice a1 n1 c1] 27 (0, 0)) := by rw [hW]; exact blk_old (blk_at rfl)
  have b2 : W.heap[w.heap.size + 1]? = some (.cells #[.slice a2 n2 c2] 27 (0, 0)) := by rw [hW]; exact blk_at (by simp)
  have d1 : W.cell? ⟨w.heap.size, 0, none⟩ = some (.slice a1 n1 c1) := by simp [World.cell?, b1]
  have d2 : W.cell? ⟨w.heap.size + 1, 0, none⟩ = some (.slice a2 n2 c2) := by simp [World.cell?, b2]
  have HD1 := Lib.hid (fun w' (x : Ext W w') => x.cell d1); have HD2 := Lib.hid (fun w' (x : Ext W w') => x.cell d2)
  have XW := Lib.hid xW; have HW := Lib.hid hW
  have K1 := Lib.hid k1; have K2 := Lib.hid k2; have K5 := Lib.hid k5; have K6 := Lib.hid k6
  rw [hW] at d1 d2
  have hs1 := sml_cases l
  have hs2 := sml_cases m
  have hdm : (decide (l = m) = true ∧ dif l m = 0) ∨ (decide (l = m) = false ∧ dif l m = 1) := by
    by_cases e : l = m
    · exact .inl ⟨decide_eq_true e, if_pos e⟩
    · exact .inr ⟨decide_eq_false e, if_neg e⟩
  generalize sml l = S1 at *
  generalize sml m = S2 at *
  have K3 := Lib.hid k3; have K4 := Lib.hid k4
  clear k1 k2 k3 k4 k5 k6 h1 h2 hy hm xW hW b1 b2
  go_enter Tryd.func6, Tryd.ntmps6
  go_wp2_with fail
  rw [← HW.out]
  refine (K1.out _ XW.out).mono ?_
  rintro e w1 ⟨rfl, x1⟩
  have X1 := Lib.hid x1
  have e1 := HD1.out _ x1; have e2 := HD2.out _ x1
  clear x1 d1 d2 HW
  rcases hs1 with rfl | rfl
  · go_wp2
    go_ret
    exact ⟨rfl, XW.out.trans X1.out⟩
  · go_wp2_with fail
    refine (K2.out _ (XW.out.trans X1.out)).mono ?_
    rintro e w2 ⟨rfl, x2⟩
    have X2 := Lib.hid (X1.out.trans x2)
    have q0_1 := HD1.out _ X2.out; have q0_2 := HD2.out _ X2.out
    clear x2 e1 e2
    rcases hs2 with rfl | rfl
    · go_wp2
      go_ret
      exact ⟨rfl, XW.out.trans X2.out⟩
    · have XX := Lib.hid (XW.out.trans X2.out)
      rcases hdm with ⟨z1, z2⟩ | ⟨z1, z2⟩
      all_goals
        have K3b := K3.out; have K4b := K4.out
        rw [z1] at K3b
        rw [z2] at K4b
        have K3c := Lib.hid K3b; have K4c := Lib.hid K4b
        clear K3b K4b K3 K4 z1 z2
        go_wp2
        go_region_held3 (fun w' => w'.cell? ⟨w.heap.size, 0, Option.none⟩ = some (.slice a1 n1 c1) ∧ w'.cell? ⟨w.heap.size + 1, 0, Option.none⟩ = some (.slice a2 n2 c2)) (first | exact ⟨q0_1, q0_2⟩ | exact ⟨q1_1, q1_2⟩ | exact ⟨q2_1, q2_2⟩ | exact ⟨q3_1, q3_2⟩ | exact ⟨q4_1, q4_2⟩ | go_keep) (first
          | (go_at_call_of 26 (Value.slice a2 n2 c2); (refine (K3c.out _ ?_).mono ?_); (focus (refine Ext.trans XX.out ?_; (repeat (first | (with_reducible exact Ext.refl _) | (with_reducible apply Ext.drew) | (with_reducible apply Ext.drewN) | (with_reducible apply Ext.alloc))))); intro e wa hh; obtain ⟨rfl, x⟩ := hh; have Xa : Hid (Ext w2 wa) := Lib.hid (Ext.trans (by (repeat (first | (with_reducible exact Ext.refl _) | (with_reducible apply Ext.drew) | (with_reducible apply Ext.drewN) | (with_reducible apply Ext.alloc)))) x); have q1_1 := Xa.out.cell q0_1; have q1_2 := Xa.out.cell q0_2; clear x)
          | (go_at_call 18; (refine (K4c.out _ ?_).mono ?_); (focus (refine Ext.trans (XX.out.trans Xa.out) ?_; (repeat (first | (with_reducible exact Ext.refl _) | (with_reducible apply Ext.drew) | (with_reducible apply Ext.drewN) | (with_reducible apply Ext.alloc))))); intro e wb hh; obtain ⟨rfl, x⟩ := hh; have Xb : Hid (Ext w2 wb) := Lib.hid (Ext.trans Xa.out (Ext.trans (by (repeat (first | (with_reducible exact Ext.refl _) | (with_reducible apply Ext.drew) | (with_reducible apply Ext.drewN) | (with_reducible apply Ext.alloc)))) x)); have q2_1 := Xb.out.cell q0_1; have q2_2 := Xb.out.cell q0_2; clear x)
          | (go_at_call 26; (refine (K5.out _ ?_).mono ?_); (focus (refine Ext.trans (XX.out.trans Xb.out) ?_; (repeat (first | (with_reducible exact Ext.refl _) | (with_reducible apply Ext.drew) | (with_reducible apply Ext.drewN) | (with_reducible apply Ext.alloc))))); intro e wd hh; obtain ⟨rfl, x⟩ := hh; have Xd : Hid (Ext w2 wd) := Lib.hid (Ext.trans Xb.out (Ext.trans (by (repeat (first | (with_reducible exact Ext.refl _) | (with_reducible apply Ext.drew) | (with_reducible apply Ext.drewN) | (with_reducible apply Ext.alloc)))) x)); have q3_1 := Xd.out.cell q0_1; have q3_2 := Xd.out.cell q0_2; clear x)
          | (go_at_call 13; (refine (K6.out _ ?_).mono ?_); (focus (refine Ext.trans (XX.out.trans Xd.out) ?_; (repeat (first | (with_reducible exact Ext.refl _) | (with_reducible apply Ext.drew) | (with_reducible apply Ext.drewN) | (with_reducible apply Ext.alloc))))); intro e we hh; obtain ⟨rfl, x⟩ := hh; have Xe : Hid (Ext w2 we) := Lib.hid (Ext.trans Xd.out (Ext.trans (by (repeat (first | (with_reducible exact Ext.refl _) | (with_reducible apply Ext.drew) | (with_reducible apply Ext.drewN) | (with_reducible apply Ext.alloc)))) x)); have q4_1 := Xe.out.cell q0_1; have q4_2 := Xe.out.cell q0_2; clear x))
        go_wp2
        go_ret
        exact ⟨rfl, XX.out.trans Xe.out⟩
end Go.Proofs.YtkolebjpeaigcaaDoor
/- Mirror images of stitches and of charts. -/
namespace Go.Proofs.YtkolebjpeaigcaaDoor
set_option linter.unusedVariables false
set_option linter.unusedSimpArgs false
set_option maxRecDepth 8000
open Go Go.RowKit

def St.mir (s : St) : St := if s.k = 8 then ⟨s.k, s.y, s.b, s.a, !s.f⟩ else s
theorem B5c {w : World} {b : Nat} {s : St} {t : TypeId} (h : B5 w b s t) : w.cell? ⟨b, 0, none⟩ = some (.int .u8 s.k) ∧ w.cell? ⟨b, 1, none⟩ = some (.int .u8 s.y) ∧ w.cell? ⟨b, 2, none⟩ = some (.int .i64 s.a) ∧ w.cell? ⟨b, 3, none⟩ = some (.int .i64 s.b) ∧ w.cell? ⟨b, 4, none⟩ = some (.bool s.f) := by
  obtain ⟨c0, c1, c2, c3, c4⟩ := h.at
  simp only [Nat.zero_add] at c1 c2 c3 c4
  exact ⟨c0, c1, c2, c3, c4⟩
set_option maxHeartbeats 1000000 in
theorem SMirror_calls (s : St) (w : World) : Calls Tryd.prog 31 #[s.val] w fun e w' => e = .returned s.mir.val ∧ Ext w w' := by
  obtain ⟨k, y, a, b, f⟩ := s
  by_cases hk : k = 8
  · have hm : St.mir ⟨k, y, a, b, f⟩ = ⟨8, y, b, a, !f⟩ := by unfold St.mir; rw [if_pos hk, hk]
    rw [hm]
    subst hk
    unfold St.val
    clear hm
    go_enter Tryd.func31, Tryd.ntmps31
    go_wp2
    exact bodyPost_ret (v := .agg #[.int .u8 8, .int .u8 y, .int .i64 b, .int .i64 a, .bool !f]) (by simp [results, Tryd.results31, go_sem]) rfl ⟨rfl, ((Ext.refl w).alloc _).alloc _⟩
  · have hm : St.mir ⟨k, y, a, b, f⟩ = ⟨k, y, a, b, f⟩ := by unfold St.mir; rw [if_neg hk]
    rw [hm]
    have hk' : (k == 8) = false := beq_eq_false_iff_ne.2 hk
    unfold St.val
    clear hm hk
    go_enter Tryd.func31, Tryd.ntmps31
    go_wp2
    exact bodyPost_ret (v := .agg #[.int .u8 k, .int .u8 y, .int .i64 a, .int .i64 b, .bool f]) (by simp [results, Tryd.results31, go_sem]) rfl ⟨rfl, ((Ext.refl w).alloc _).alloc _⟩

/-- The mirror image of a row. -/
def mirR (l : List St) : List St := (l.map St.mir).reverse
def mirC (rows : List (List St)) : List (List St) := rows.map mirR
theorem mirR_len (l : List St) : (mirR l).length = l.length := by simp [mirR]
theorem mirC_len (rows : List (List St)) : (mirC rows).length = rows.length := by simp [mirC]
theorem mirC_sw {rows : List (List St)} {i : Nat} (h : i < rows.length) : sw (mirC rows) i = mirR (sw rows i) := by
  rw [sw_of_lt (by rw [mirC_len]; exact h), sw_of_lt h]; simp [mirC]
theorem mirR_si {l : List St} {i : Nat} (h : i < l.length) : si (mirR l) (l.length - 1 - i) = (si l i).mir := by
  rw [si_of_lt (by rw [mirR_len]; omega), si_of_lt h]
  unfold mirR
  rw [List.getElem_reverse]
  simp only [List.getElem_map, List.length_map]
  congr 2; omega
/-- The last j stitches of the image are laid. -/
def mrU (l : List St) (j : Nat) : List St := List.replicate (l.length - j) St.none ++ (mirR l).drop (l.length - j)
theorem mrU_len (l : List St) {j : Nat} (h : j ≤ l.length) : (mrU l j).length = l.length := by unfold mrU; simp [mirR_len]; try omega
theorem mrU_zero (l : List St) : mrU l 0 = List.replicate l.length St.none := by
  unfold mrU; rw [List.drop_eq_nil_of_le (by rw [mirR_len]; omega)]; simp
theorem mrU_all (l : List St) : mrU l l.length = mirR l := by unfold mrU; simp
theorem mrU_set {l : List St} {j : Nat} (h : j < l.length) : (mrU l j).set (l.length - 1 - j) (si l j).mir = mrU l (j + 1) := by
  unfold mrU
  have hl := mirR_len l
  have e : l.length - j = (l.length - (j + 1)) + 1 := by omega
  have hd : (mirR l).drop (l.length - (j + 1)) = (si l j).mir :: (mirR l).drop (l.length - j) := by
    rw [List.drop_eq_getElem_cons (by omega), ← si_of_lt (by omega), show l.length - (j + 1) = l.length - 1 - j by omega, mirR_si h, show l.length - 1 - j + 1 = l.length - j by omega]
  rw [hd]
  rw [List.set_append_left _ _ (by simp; omega), e, List.replicate_succ', List.set_append_right _ _ (by simp; omega)]
  have e2 : l.length - 1 - j - (List.replicate (l.length - (j + 1)) St.none).length = 0 := by simp; omega
  rw [e2]
  simp
end Go.Proofs.YtkolebjpeaigcaaDoor
/- charts.Mirror. -/
namespace Go.Proofs.YtkolebjpeaigcaaDoor
set_option linter.unusedVariables false
set_option linter.unusedSimpArgs false
set_option maxRecDepth 8000
open Go Go.RowKit

theorem RO.put5 {w : World} {g c : Nat} {l : List St} (h : RO w g c l) {i : Nat} (hi : i < l.length) (s : St) :
    RO (((((w.setCell ⟨g, i * 5, none⟩ (.int .u8 s.k)).setCell ⟨g, i * 5 + 1, none⟩ (.int .u8 s.y)).setCell ⟨g, i * 5 + 2, none⟩ (.int .i64 s.a)).setCell ⟨g, i * 5 + 3, none⟩ (.int .i64 s.b)).setCell ⟨g, i * 5 + 4, none⟩ (.bool s.f)) g c (l.set i s) := by
  obtain ⟨h1, h2, f, h3, h4⟩ := h
  refine ⟨by simpa using h1, h2, _, ((((h3.set (i * 5) _).set (i * 5 + 1) _).set (i * 5 + 2) _).set (i * 5 + 3) _).set (i * 5 + 4) _, fun j hj => ?_⟩
  rw [List.length_set] at hj
  rw [si_set hi]
  obtain ⟨a, b, c', d, e⟩ := h4 j hj
  by_cases hji : j = i
  · subst hji
    rw [if_pos rfl]
    refine ⟨?_, ?_, ?_, ?_, ?_⟩ <;> simp
  · rw [if_neg hji]
    refine ⟨?_, ?_, ?_, ?_, ?_⟩ <;> (simp only []; rw [if_neg (by omega), if_neg (by omega), if_neg (by omega), if_neg (by omega), if_neg (by omega)]; assumption)
theorem RO.other5 {w : World} {g c b o : Nat} {l : List St} (h : RO w g c l) (hb : g ≠ b) (v0 v1 v2 v3 v4 : Value) :
    RO (((((w.setCell ⟨b, o, none⟩ v0).setCell ⟨b, o + 1, none⟩ v1).setCell ⟨b, o + 2, none⟩ v2).setCell ⟨b, o + 3, none⟩ v3).setCell ⟨b, o + 4, none⟩ v4) g c l :=
  ((((h.setOther hb _).setOther hb _).setOther hb _).setOther hb _).setOther hb _
theorem blk_other5 {w : World} {g b o : Nat} {x : Obj} (h : w.heap[g]? = some x) (hb : g ≠ b) (v0 v1 v2 v3 v4 : Value) :
    (((((w.setCell ⟨b, o, none⟩ v0).setCell ⟨b, o + 1, none⟩ v1).setCell ⟨b, o + 2, none⟩ v2).setCell ⟨b, o + 3, none⟩ v3).setCell ⟨b, o + 4, none⟩ v4).heap[g]? = some x := by
  rw [Deep.blk_setCell_other _ _ _ _ hb, Deep.blk_setCell_other _ _ _ _ hb, Deep.blk_setCell_other _ _ _ _ hb, Deep.blk_setCell_other _ _ _ _ hb, Deep.blk_setCell_other _ _ _ _ hb]; exact h
theorem cell_o5 {w : World} {b o : Nat} {a : Addr} {v : Value} (h : w.cell? a = some v) (hb : a.block ≠ b) (v0 v1 v2 v3 v4 : Value) :
    (((((w.setCell ⟨b, o, none⟩ v0).setCell ⟨b, o + 1, none⟩ v1).setCell ⟨b, o + 2, none⟩ v2).setCell ⟨b, o + 3, none⟩ v3).setCell ⟨b, o + 4, none⟩ v4).cell? a = some v := by
  have hx : ∀ (u : World) (p : Addr) (x : Value), a.block ≠ p.block → (u.setCell p x).cell? a = u.cell? a := fun u p x hp => World.cell?_of_block (Deep.blk_setCell_other _ _ _ _ hp)
  rw [hx _ _ _ hb, hx _ _ _ hb, hx _ _ _ hb, hx _ _ _ hb, hx _ _ _ hb]; exact h
/-- A stitch of row j is written. -/
theorem CS.putSt {w wr : World} {R N k j i : Nat} {rows : Nat → List St} {q cp : Nat → Nat} (h : CS w wr R N k rows q cp) (hj : j < k) (hi : i < (rows j).length) (s : St) :
    CS w (((((wr.setCell ⟨q j, i * 5, none⟩ (.int .u8 s.k)).setCell ⟨q j, i * 5 + 1, none⟩ (.int .u8 s.y)).setCell ⟨q j, i * 5 + 2, none⟩ (.int .i64 s.a)).setCell ⟨q j, i * 5 + 3, none⟩ (.int .i64 s.b)).setCell ⟨q j, i * 5 + 4, none⟩ (.bool s.f)) R N k (up rows j ((rows j).set i s)) q cp := by
  obtain ⟨h1, h2, h3, ⟨f, h4, h5⟩, h6, h7⟩ := h
  have hb := (h6 j hj).2.1
  have hR : R ≠ q j := fun e => (h6 j hj).2.2 e.symm
  refine ⟨((((h1.setCell hb _).setCell hb _).setCell hb _).setCell hb _).setCell hb _, h2, h3, ⟨f, ((((h4.setOther hR _).setOther hR _).setOther hR _).setOther hR _).setOther hR _, fun i' hi' => ?_⟩, fun i' hi' => ?_, h7⟩
  · by_cases e : i' = j
    · subst e; rw [up_at, List.length_set]; exact h5 i' hi'
    · rw [up_ne _ _ e]; exact h5 i' hi'
  · by_cases e : i' = j
    · subst e; rw [up_at]; exact ⟨(h6 i' hi').1.put5 hi s, (h6 i' hi').2⟩
    · rw [up_ne _ _ e]
      exact ⟨(h6 i' hi').1.other5 (fun c => e (h7 i' j hi' hj c)) _ _ _ _ _, (h6 i' hi').2⟩
/-- A chart is returned, its rows without spare capacity. -/
def RetCM (w0 : World) (rows : List (List St)) (e : Ending) (w' : World) : Prop := ∃ v, e = .returned (.agg #[v]) ∧ RR w' v rows.length rows ∧ Ext w0 w'
/-- The image so far, and where it lies. -/
def MI (B wr : World) (R N k M : Nat) (rows : Nat → List St) (q cp : Nat → Nat) : Prop := CS B wr R N k rows q cp ∧ wr.heap[M]? = some (.cells #[.slice (some ⟨R, 0, none⟩) N N] 27 (0, 0))

set_option maxHeartbeats 8000000 in
theorem CMirror_calls (v : Value) (c : Nat) (rows : List (List St)) (w : World) (h : RR w v c rows) (hl : rows.length ≤ 1000) (hb : ∀ i, i < rows.length → (sw rows i).length ≤ 1000) :
    Calls Tryd.prog 30 #[.agg #[v]] w (RetCM w (mirC rows)) := by
  obtain ⟨ao, N, rfl, hn, hc, hcm, hat⟩ := h.open
  unfold maxLen at hcm
  obtain ⟨B, hB⟩ : ∃ B, B = (w.alloc (.cells #[.slice ao N c] 27)).alloc (.cells #[.slice none 0 0] 27) := ⟨_, rfl⟩
  have xB : Ext w B := by rw [hB]; exact ((Ext.refl w).alloc _).alloc _
  have b0 : B.heap[w.heap.size]? = some (.cells #[.slice ao N c] 27 (0, 0)) := by rw [hB]; exact blk_old (blk_at rfl)
  have b1 : B.heap[w.heap.size + 1]? = some (.cells #[.slice none 0 0] 27 (0, 0)) := by rw [hB]; exact blk_at (by simp)
  have d0 : B.cell? ⟨w.heap.size, 0, none⟩ = some (.slice ao N c) := by simp [World.cell?, b0]
  have hmk := fun w' => run_make_lc (P := Tryd.prog) eiRows .i64 .i64 N N (by omega) (by omega) (by omega) w'
  have XB := Lib.hid xB; have HB1 := Lib.hid (fun w' (x : Ext B w') => x.block b1); have HA := Lib.hid hat; have Hn := Lib.hid hn; have HL := Lib.hid (fun i (hi : i < N) => hb i (by omega)); have HBs := Lib.hid (show B.heap.size = w.heap.size + 2 by rw [hB]; simp)
  have HD0 := Lib.hid (fun w' (x : Ext B w') => x.cell d0)
  have HBe := Lib.hid hB
  have HMs := Lib.hid (fun i (hi : i < N) => mirC_sw (rows := rows) (i := i) (by omega))
  have hN : N ≤ 1000 := by omega
  rw [hB] at d0
  clear hat h hn hb hl xB b0 b1 hB
  go_enter Tryd.func30, Tryd.ntmps30
  go_wp2
  clear d0 hmk
  rw [← HBe.out]
  obtain ⟨R, hR⟩ : ∃ R, R = w.heap.size + 1 + 1 := ⟨_, rfl⟩
  obtain ⟨M, hM⟩ : ∃ M, M = w.heap.size + 1 + 1 + 1 := ⟨_, rfl⟩
  have hst : ∃ q cp, MI B ((B.alloc (.cells (madeCells #[.slice none 0 0] N) 37)).alloc (.cells #[.slice (some ⟨R, 0, none⟩) N N] 27)) R N 0 M (fun i => mirR (sw rows i)) q cp := by
    have hbs := HBs.out
    have hRB : R = B.heap.size := by omega
    refine ⟨fun _ => 0, fun _ => 0, CS.start (((Ext.refl B).alloc _).alloc _) (by omega) (by unfold maxLen; omega) (((Ext.refl _).alloc _).row (f := fun _ => .slice none 0 0) (by rw [hRB]; exact World.rowIs_made _ _ _ _)), blk_at (by simp; omega)⟩
  have HST := Lib.hid hst
  rw [← hM, ← hR]
  have HRM := Lib.hid (And.intro hR hM)
  clear hst hR hM
  go_loopw [4, 5, 6, 7, 16, 30] (fun _ _ _ _ i _ wr => ∃ k : Nat, k ≤ N ∧ i = .int .i64 k ∧ Hid (∃ q cp, MI B wr R N k M (fun i => mirR (sw rows i)) q cp)) (fun _ _ _ _ i _ _ => N - (intOf i).toNat)
  case atStart => exact ⟨0, Nat.zero_le _, rfl, HST⟩
  case round =>
    obtain ⟨k, hk, rfl, HC⟩ := hrel
    clear HST
    obtain ⟨q, cp, hCM⟩ := HC.out
    have HCM := Lib.hid hCM
    have hm0 : wr.cell? ⟨M, 0, none⟩ = some (.slice (some ⟨R, 0, none⟩) N N) := by simp [World.cell?, hCM.2]
    by_cases hlt : k < N
    · have hlt' : (k : Int) < (N : Int) := by omega
      obtain ⟨b, o, a, m, d, rfl, hc0, hr0⟩ := HA.out k hlt
      have hrB := hr0.ext (XB.out)
      replace hc0 := (XB.out.trans hCM.1.x).cell hc0
      obtain ⟨_, _, e1, e2, _, _, e5⟩ := hrB.open
      simp only [Value.slice.injEq] at e1
      obtain ⟨rfl, rfl, _⟩ := e1
      have hm1 : m ≤ 1000 := by rw [e2]; exact HL.out k hlt
      have HE5 := Lib.hid e5; have He2 := Lib.hid e2
      obtain ⟨vk, hvk⟩ := hCM.1.ex hlt
      have hfk := hCM.1.frozen k
      have hmk := fun w' => run_make_st .i64 .i64 m (by omega) w'
      have xg : Ext wr (wr.alloc (.cells (madeCells z5 (m * 5)) 33)) := (Ext.refl wr).alloc _
      have hCA := hCM.1.later xg
      have hm0a := xg.cell hm0
      obtain ⟨vk2, hvk2⟩ := hCA.ex hlt
      have hfk2 := hCA.frozen k
      clear hr0 hrB e2 e5 hCM HC hCA xg
      go_wp2
      go_region
      all_goals
        have hCM := HCM.out
        have xg : Ext wr (wr.alloc (.cells (madeCells z5 (m * 5)) 33)) := (Ext.refl wr).alloc _
        have hCA := hCM.1.later xg
        have hRO := RO.made wr m (by unfold maxLen; omega)
        have hlt3 := hCM.1.lt
        have hMlt : M < wr.heap.size := (Array.getElem?_eq_some_iff.1 hCM.2).1
        have hql := fun i (hi : i < k) => (hCM.1.ro i hi).1.lt
        have hput := hCA.put hlt hRO (by have := hCM.1.x.size; exact this) (by omega) (fun i hi => by have := hql i hi; omega)
        rw [List.length_replicate] at hput
        have hMb2 : ((wr.alloc (.cells (madeCells z5 (m * 5)) 33)).setCell ⟨R, k, none⟩ (.slice (some ⟨wr.heap.size, 0, none⟩) m m)).heap[M]? = some (.cells #[.slice (some ⟨R, 0, none⟩) N N] 27 (0, 0)) := by
          rw [Deep.blk_setCell_other _ _ _ _ (by have := HRM.out; simp only []; omega)]; exact xg.block hCM.2
        obtain ⟨g, hg⟩ : ∃ g, g = wr.heap.size := ⟨_, rfl⟩
        have HgM := Lib.hid (show M ≠ g ∧ R ≠ g from ⟨by omega, by omega⟩)
        obtain ⟨w3, hw3⟩ : ∃ w3, w3 = ((wr.alloc (.cells (madeCells z5 (m * 5)) 33)).setCell ⟨R, k, none⟩ (.slice (some ⟨wr.heap.size, 0, none⟩) m m)).drew := ⟨_, rfl⟩
        have h3 : MI B w3 R N (k + 1) M (up (fun i => mirR (sw rows i)) k (mrU (sw rows k) 0)) (up q k g) (up cp k m) := by
          rw [hw3, mrU_zero, ← He2.out, hg]
          exact ⟨hput.later (Ext.refl _).drew, hMb2⟩
        have H3 := Lib.hid h3
        rw [← hw3, ← hg]
        clear hCM xg hCA hRO hlt3 hMlt hql hput hMb2 hg hw3 h3 hvk hfk hvk2 hfk2 hm0 hm0a hc0 hmk
        go_wp2
        go_loopw [6, 7, 30] (fun _ _ i ws => ∃ j : Nat, j ≤ m ∧ i = .int .i64 j ∧ Hid (MI B ws R N (k + 1) M (up (fun i => mirR (sw rows i)) k (mrU (sw rows k) j)) (up q k g) (up cp k m))) (fun _ _ i _ => m - (intOf i).toNat)
        case atStart => exact ⟨0, Nat.zero_le _, rfl, H3⟩
        case round =>
          obtain ⟨j, hj, rfl, HJ⟩ := hrel
          clear H3
          obtain ⟨ws, hws⟩ : ∃ ws : World, ws = wr := ⟨_, rfl⟩
          rw [← hws] at HJ ⊢
          clear hws
          by_cases hjl : j < m
          · have hjl' : (j : Int) < (m : Int) := by omega
            obtain ⟨b2, o2, rfl, e8⟩ := HE5.out j hjl
            obtain ⟨u0, u1, u2, u3, u4⟩ := e8.ext HJ.out.1.x
            obtain ⟨S, hS⟩ : ∃ S, S = si (sw rows k) j := ⟨_, rfl⟩
            rw [← hS] at u0 u1 u2 u3 u4
            have hcl := fun w' => SMirror_calls S w'
            obtain ⟨T, hT⟩ : ∃ T, T = S.mir := ⟨_, rfl⟩
            rw [← hT] at hcl
            obtain ⟨tk, ty, ta, tb, tf⟩ := T
            unfold St.val at hcl
            simp only [] at hcl
            have HTe := Lib.hid hT
            clear hT
            have HCl := Lib.hid hcl; have HSe := Lib.hid hS
            obtain ⟨p, hp⟩ : ∃ p, p = m - 1 - j := ⟨_, rfl⟩
            have hpm : p < m := by omega
            have wz1 : IntKind.i64.wrap ((m : Int) - 1) = (m : Int) - 1 := IntWalk.i64_in _ ⟨by omega, by omega⟩
            have wz2 : IntKind.i64.wrap ((m : Int) - 1 - (j : Int)) = (p : Int) := by rw [show (m : Int) - 1 - (j : Int) = (p : Int) by omega]; exact IntWalk.i64_in _ ⟨by omega, by omega⟩
            have hpi : (p : Int) < (m : Int) := by omega
            have hset := mrU_set (l := sw rows k) (j := j) (by rw [← He2.out]; exact hjl)
            rw [← He2.out, ← hp, ← hS] at hset
            have HSet := Lib.hid hset; have Hp := Lib.hid hp
            have hml : (mrU (sw rows k) j).length = m := by rw [mrU_len _ (by rw [← He2.out]; omega), He2.out]
            have HMl := Lib.hid hml
            have x6 : Ext ws (ws.alloc (.cells #[.int .u8 S.k, .int .u8 S.y, .int .i64 S.a, .int .i64 S.b, .bool S.f] 33)) := (Ext.refl ws).alloc _
            have hro := (HJ.out.1.ro k (by omega)).1
            rw [up_at, up_at, up_at] at hro
            have htg : ws.heap.size ≠ g := by have := hro.lt; omega
            obtain ⟨w6, hw6⟩ : ∃ w6, w6 = ws.alloc (.cells #[.int .u8 S.k, .int .u8 S.y, .int .i64 S.a, .int .i64 S.b, .bool S.f] 33) := ⟨_, rfl⟩
            rw [← hw6] at x6
            have hB6 : B5 w6 ws.heap.size S 33 := by rw [hw6]; exact B5.new ws S _
            obtain ⟨q0_3, q0_4, q0_5, q0_6, q0_7⟩ := B5c hB6
            have hMb := x6.block HJ.out.2
            have q0_1 : w6.cell? ⟨M, 0, none⟩ = some (.slice (some ⟨R, 0, none⟩) N N) := by simp [World.cell?, hMb]
            have q0_2 : w6.cell? ⟨R, k, none⟩ = some (.slice (some ⟨g, 0, none⟩) m m) := by
              have := (HJ.out.1.later x6).cell (i := k) (by omega) (by omega)
              rwa [up_at, up_at, up_at, hml] at this
            have HRO := Lib.hid (hro.ext x6); have X6 := Lib.hid x6; have HW6 := Lib.hid hw6
            have p0 : p * 5 < m * 5 := by omega
            have p1 : p * 5 + 1 < m * 5 := by omega
            have p2 : p * 5 + 2 < m * 5 := by omega
            have p3 : p * 5 + 3 < m * 5 := by omega
            have p4 : p * 5 + 4 < m * 5 := by omega
            obtain ⟨hMg, hRg⟩ := HgM.out
            clear e8 hS hcl hset hp hml x6 hro hw6 hB6 hMb
            go_wp2
            rw [← HW6.out]
            clear u0 u1 u2 u3 u4 HCM
            go_region_held3 (fun w' => w'.cell? ⟨M, 0, Option.none⟩ = some (.slice (some ⟨R, 0, Option.none⟩) N N) ∧ w'.cell? ⟨R, k, Option.none⟩ = some (.slice (some ⟨g, 0, Option.none⟩) m m) ∧ w'.cell? ⟨ws.heap.size, 0, Option.none⟩ = some (.int .u8 S.k) ∧ w'.cell? ⟨ws.heap.size, 1, Option.none⟩ = some (.int .u8 S.y) ∧ w'.cell? ⟨ws.heap.size, 2, Option.none⟩ = some (.int .i64 S.a) ∧ w'.cell? ⟨ws.heap.size, 3, Option.none⟩ = some (.int .i64 S.b) ∧ w'.cell? ⟨ws.heap.size, 4, Option.none⟩ = some (.bool S.f)) (first | (with_reducible exact ⟨q0_1, q0_2, q0_3, q0_4, q0_5, q0_6, q0_7⟩) | (with_reducible exact ⟨q1_1, q1_2, q1_3, q1_4, q1_5, q1_6, q1_7⟩) | with_reducible exact ⟨cell_o5 q1_1 hMg _ _ _ _ _, cell_o5 q1_2 hRg _ _ _ _ _, cell_o5 q1_3 htg _ _ _ _ _, cell_o5 q1_4 htg _ _ _ _ _, cell_o5 q1_5 htg _ _ _ _ _, cell_o5 q1_6 htg _ _ _ _ _, cell_o5 q1_7 htg _ _ _ _ _⟩ | go_keep) (first
              | (go_at_call 31; (refine (HCl.out _).mono ?_); intro e wc hh; obtain ⟨rfl, x⟩ := hh; have Xc : Hid (Ext w6 wc) := Lib.hid (Ext.trans (by (repeat (first | (with_reducible exact Ext.refl _) | (with_reducible apply Ext.drew) | (with_reducible apply Ext.drewN) | (with_reducible apply Ext.alloc)))) x); have q1_1 := Xc.out.cell q0_1; have q1_2 := Xc.out.cell q0_2; have q1_3 := Xc.out.cell q0_3; have q1_4 := Xc.out.cell q0_4; have q1_5 := Xc.out.cell q0_5; have q1_6 := Xc.out.cell q0_6; have q1_7 := Xc.out.cell q0_7; have hro := HRO.out.ext Xc.out; obtain ⟨z0, g0⟩ := hro.shapeCell p0; obtain ⟨z1, g1⟩ := hro.shapeCell p1; obtain ⟨z2, g2⟩ := hro.shapeCell p2; obtain ⟨z3, g3⟩ := hro.shapeCell p3; obtain ⟨z4, g4⟩ := hro.shapeCell p4; have f0 := hro.frozen (p * 5); have f1 := hro.frozen (p * 5 + 1); have f2 := hro.frozen (p * 5 + 2); have f3 := hro.frozen (p * 5 + 3); have f4 := hro.frozen (p * 5 + 4); clear hro; clear x))
            have hC9 := HJ.out.1.later (X6.out.trans Xc.out)
            have hq9 : (up q k g) k = g := up_at _ _ _
            have hP9 := hC9.putSt (j := k) (i := p) (by omega) (by rw [up_at, HMl.out]; exact hpm) ⟨tk, ty, ta, tb, tf⟩
            rw [hq9] at hP9
            have hD9 := hP9.congr (rows' := up (fun i => mirR (sw rows i)) k (mrU (sw rows k) (j + 1))) (fun i _ => by
              by_cases e : i = k
              · subst e; rw [up_at, up_at, up_at, HTe.out]; exact HSet.out
              · rw [up_ne _ _ e, up_ne _ _ e, up_ne _ _ e])
            have HN := Lib.hid (show MI B _ R N (k + 1) M (up (fun i => mirR (sw rows i)) k (mrU (sw rows k) (j + 1))) (up q k g) (up cp k m) from ⟨hD9, blk_other5 (Xc.out.block (X6.out.block HJ.out.2)) hMg _ _ _ _ _⟩)
            clear hC9 hq9 hP9 hD9 q0_1 q0_2 q0_3 q0_4 q0_5 q0_6 q0_7 q1_1 q1_2 q1_3 q1_4 q1_5 q1_6 q1_7 g0 g1 g2 g3 g4 f0 f1 f2 f3 f4
            go_wp2
            go_roundw
            case rel => exact ⟨j + 1, by omega, by go_num, HN⟩
            case measure => simp [intOf]; omega
          · obtain rfl : m = j := by omega
            have hjl' : ¬ (m : Int) < (m : Int) := by omega
            have HD := Lib.hid (show ∃ q cp, MI B ws R N (k + 1) M (fun i => mirR (sw rows i)) q cp from ⟨_, _, HJ.out.1.congr (rows' := fun i => mirR (sw rows i)) (fun i _ => by
              by_cases e : i = k
              · subst e; rw [up_at, He2.out, mrU_all]
              · rw [up_ne _ _ e]), HJ.out.2⟩)
            clear HJ
            go_wp2
            go_roundw
            case rel => exact ⟨k + 1, by omega, by go_num, HD⟩
            case measure => simp [intOf]; omega
    · obtain rfl : N = k := by omega
      have hlt' : ¬ (N : Int) < (N : Int) := by omega
      have b1 := HB1.out wr hCM.1.x
      have c1 : wr.cell? ⟨w.heap.size + 1, 0, none⟩ = some (.slice none 0 0) := by simp [World.cell?, b1]
      have f1 : wr.frozen? ⟨w.heap.size + 1, 0, none⟩ = false := by simp [World.frozen?, b1]
      have hP1 : w.heap.size + 1 < B.heap.size := by have := HBs.out; omega
      have HF := Lib.hid (show RetCM w (mirC rows) (.returned (.agg #[.slice (some ⟨R, 0, none⟩) N N])) (wr.setCell ⟨w.heap.size + 1, 0, none⟩ (.slice (some ⟨R, 0, none⟩) N N)) from by
        have hc := hCM.1
        refine ⟨_, rfl, ?_, (XB.out.trans hc.x).setCell (by simp) _⟩
        have h2 : CS w (wr.setCell ⟨w.heap.size + 1, 0, none⟩ (.slice (some ⟨R, 0, none⟩) N N)) R N N (fun i => mirR (sw rows i)) q cp := by
          obtain ⟨p1, p2, p3, ⟨f, p4, p5⟩, p6, p7⟩ := hc
          refine ⟨(XB.out.trans p1).setCell (by simp) _, by omega, p3, ⟨f, p4.setOther (by simp only []; omega) _, p5⟩, fun i hi => ?_, p7⟩
          obtain ⟨r1, r2, r3⟩ := p6 i hi
          exact ⟨r1.setOther (by simp only []; omega) _, by omega, r3⟩
        have := h2.rr
        rw [sw_range (l := mirC rows) (by rw [mirC_len, Hn.out]) (fun i hi => (HMs.out i hi).symm)] at this
        rw [mirC_len, ← Hn.out]; exact this)
      clear hCM HCM HC b1 hP1
      go_wp2
      exact bodyPost_ret (v := .agg #[.slice (some ⟨R, 0, none⟩) N N]) (by simp [results, Tryd.results30, go_sem, World.cell?_setCell_same, *]) rfl HF.out
end Go.Proofs.YtkolebjpeaigcaaDoor
/- Mirror images of charts, in plain Lean: the same errors. -/
namespace Go.Proofs.YtkolebjpeaigcaaDoor
set_option linter.unusedVariables false
set_option linter.unusedSimpArgs false
set_option maxRecDepth 8000
open Go Go.RowKit

theorem mir_chk (s : St) : s.mir.chk = s.chk := by
  unfold St.mir
  split
  · rename_i h8
    unfold St.chk
    simp only [h8]
    by_cases h1 : (8 : Int) < 1 ∨ (8 : Int) < 8 ∨ s.y < 1 ∨ 6 < s.y
    · rw [if_pos h1, if_pos h1]
    · rw [if_neg h1, if_neg h1]
      simp only [ne_eq, not_true_eq_false, if_false]
      by_cases h2 : s.b < 1 ∨ 4 < s.b ∨ s.a < 1 ∨ 4 - s.b < s.a
      · rw [if_pos h2, if_pos (by omega)]
      · rw [if_neg h2, if_neg (by omega)]
  · rfl
theorem mir_k (s : St) : s.mir.k = s.k := by unfold St.mir; split <;> rfl
theorem mir_need (s : St) : s.mir.need = s.need := by
  unfold St.need
  rw [mir_chk, mir_k]
  unfold St.mir
  split
  · rfl
  · (repeat' split) <;> first | rfl | (simp only []; omega)
theorem mir_make (s : St) : s.mir.make = s.make := by
  unfold St.make
  rw [mir_chk, mir_k]
  unfold St.mir
  split
  · rfl
  · (repeat' split) <;> first | rfl | (simp only []; omega)
theorem mir_mir (s : St) : s.mir.mir = s := by
  obtain ⟨k, y, a, b, f⟩ := s
  unfold St.mir
  by_cases h : k = 8
  · simp [h]
  · simp [h]
theorem mirR_mirR (l : List St) : mirR (mirR l) = l := by
  unfold mirR
  rw [List.map_reverse, List.reverse_reverse, List.map_map]
  have : ∀ s ∈ l, (St.mir ∘ St.mir) s = id s := fun s _ => mir_mir s
  rw [List.map_congr_left this, List.map_id]
theorem mirC_mirC (l : List (List St)) : mirC (mirC l) = l := by
  unfold mirC
  rw [List.map_map]
  have : ∀ s ∈ l, (mirR ∘ mirR) s = id s := fun s _ => mirR_mirR s
  rw [List.map_congr_left this, List.map_id]
theorem mirR_cons (s : St) (l : List St) : mirR (s :: l) = mirR l ++ [s.mir] := by simp [mirR]
theorem rneed_app2 (a b : List St) : rneed (a ++ b) = rneed a + rneed b := by
  induction a with
  | nil => simp [rneed]
  | cons s a ih => rw [List.cons_append, rneed_cons, rneed_cons, ih]; omega
theorem rmake_app2 (a b : List St) : rmake (a ++ b) = rmake a + rmake b := by
  induction a with
  | nil => simp [rmake]
  | cons s a ih => rw [List.cons_append, rmake_cons, rmake_cons, ih]; omega
theorem mirR_need : ∀ l : List St, rneed (mirR l) = rneed l
  | [] => rfl
  | s :: l => by rw [mirR_cons, rneed_app2, mirR_need l, rneed_cons, rneed_cons, mir_need]; simp [rneed]; omega
theorem mirR_make : ∀ l : List St, rmake (mirR l) = rmake l
  | [] => rfl
  | s :: l => by rw [mirR_cons, rmake_app2, mirR_make l, rmake_cons, rmake_cons, mir_make]; simp [rmake]; omega
theorem mirR_any : ∀ l : List St, (mirR l).any (fun s => decide (s.chk ≠ 0)) = l.any (fun s => decide (s.chk ≠ 0)) := fun l => by
  unfold mirR
  rw [List.any_reverse, List.any_map]
  congr 1
  funext s
  simp only [Function.comp, mir_chk]
theorem mirR_rchk (l : List St) : rchk (mirR l) = rchk l := by
  unfold rchk
  rw [mirR_len, mirR_any, mirR_need, mirR_make]
theorem mirC_ferr : ∀ rows : List (List St), ferr (mirC rows) = ferr rows
  | [] => rfl
  | r :: rs => by
    have ih := mirC_ferr rs
    unfold mirC at ih ⊢
    rw [List.map_cons, ferr, ferr, mirR_rchk, ih]
theorem mirC_fit (rows : List (List St)) : fitB (mirC rows) = fitB rows := by
  rw [Bool.eq_iff_iff]
  unfold fitB
  rw [List.all_eq_true, List.all_eq_true, mirC_len]
  constructor
  · intro h i hi
    have hl := List.mem_range.1 hi
    have := h i hi
    rw [mirC_sw (by omega), mirC_sw (by omega), mirR_need, mirR_make] at this
    exact this
  · intro h i hi
    have hl := List.mem_range.1 hi
    have := h i hi
    rw [mirC_sw (by omega), mirC_sw (by omega), mirR_need, mirR_make]
    exact this
theorem mirC_cerr (rows : List (List St)) : cerr (mirC rows) = cerr rows := by
  unfold cerr
  rw [mirC_len, mirC_ferr, mirC_fit]

/-! ### Loops -/
def Vl (xs : List Int) : Prop := ∀ x ∈ xs, 1 ≤ x ∧ x ≤ 3
theorem Vl.gi {xs : List Int} (h : Vl xs) : ∀ i, i < xs.length → 1 ≤ gi xs i ∧ gi xs i ≤ 3 := fun i hi => h _ (gi_mem hi)
theorem lerr_vals {s : St} {xs : List Int} (hc : s.chk = 0) (hl : (xs.length : Int) = s.need) (hv : Vl xs) : s.lerr xs = 0 ∨ s.lerr xs = 9 := by
  rw [lerr_in hc hl hv.gi]
  (repeat' split) <;> simp
theorem need45 {s : St} (hc : s.chk = 0) (h : s.k = 4 ∨ s.k = 5) : s.need = 2 := by unfold St.need; rw [if_neg (by omega), if_neg (by omega), if_pos h]
theorem need67 {s : St} (hc : s.chk = 0) (h : s.k = 6 ∨ s.k = 7) : s.need = 1 := by unfold St.need; rw [if_neg (by omega), if_neg (by omega), if_neg (by omega), if_neg (by omega)]
theorem two_of {xs : List Int} (h : xs.length = 2) : ∃ x y, xs = [x, y] := by
  match xs, h with
  | [x, y], _ => exact ⟨x, y, rfl⟩
theorem one_of {xs : List Int} (h : xs.length = 1) : ∃ x, xs = [x] := by
  match xs, h with
  | [x], _ => exact ⟨x, rfl⟩
theorem lerr_mir {s : St} {xs : List Int} (hc : s.chk = 0) (hl : (xs.length : Int) = s.need) (hv : Vl xs) : s.mir.lerr xs.reverse = s.lerr xs := by
  have hv' : Vl xs.reverse := fun x hx => hv x (by simpa using hx)
  rw [lerr_in hc hl hv.gi, lerr_in (by rw [mir_chk]; exact hc) (by rw [List.length_reverse, mir_need]; exact hl) hv'.gi, mir_k]
  by_cases h4 : s.k = 4 ∨ s.k = 5
  · rw [if_pos h4, if_pos h4]
    obtain ⟨x, y, rfl⟩ := two_of (xs := xs) (by have := need45 hc h4; omega)
    show (if 4 < y + x then (9 : Int) else 0) = if 4 < x + y then 9 else 0
    rw [Int.add_comm]
  · rw [if_neg h4, if_neg h4]
    by_cases h6 : s.k = 6
    · obtain ⟨x, rfl⟩ := one_of (xs := xs) (by have := need67 hc (.inl h6); omega)
      rfl
    · rw [if_neg (fun h => h6 h.1), if_neg (fun h => h6 h.1)]
theorem lmade_mir {s : St} {xs : List Int} (hc : s.chk = 0) (hl : (xs.length : Int) = s.need) (hv : Vl xs) : s.mir.lmade xs.reverse = (s.lmade xs).reverse := by
  unfold St.lmade
  rw [lerr_mir hc hl hv, mir_k, mir_make]
  by_cases he : s.lerr xs ≠ 0
  · rw [if_pos he, if_pos he]; rfl
  · rw [if_neg he, if_neg he]
    by_cases h6 : s.k = 6
    · rw [if_pos h6, if_pos h6]
      obtain ⟨x, rfl⟩ := one_of (xs := xs) (by have := need67 hc (.inl h6); omega)
      rfl
    · rw [if_neg h6, if_neg h6]
      by_cases h7 : s.k = 7
      · rw [if_pos h7, if_pos h7]
        obtain ⟨x, rfl⟩ := one_of (xs := xs) (by have := need67 hc (.inr h7); omega)
        rfl
      · rw [if_neg h7, if_neg h7, List.reverse_replicate]
theorem lmade_val {s : St} {xs : List Int} (hc : s.chk = 0) (hl : (xs.length : Int) = s.need) (hv : Vl xs) : Vl (s.lmade xs) := by
  have hin := lerr_in hc hl hv.gi
  unfold St.lmade
  by_cases he : s.lerr xs ≠ 0
  · rw [if_pos he]; intro x hx; cases hx
  · rw [if_neg he]
    by_cases h6 : s.k = 6
    · rw [if_pos h6]
      rw [if_neg (by omega)] at hin
      have hg := hv.gi 0 (by have := need67 hc (.inl h6); omega)
      by_cases h3 : gi xs 0 = 3
      · rw [if_pos ⟨h6, h3⟩] at hin; omega
      · intro x hx
        rw [List.mem_singleton.1 hx]; omega
    · rw [if_neg h6]
      by_cases h7 : s.k = 7
      · rw [if_pos h7]
        have hg := hv.gi 0 (by have := need67 hc (.inr h7); omega)
        intro x hx
        rw [List.mem_singleton.1 hx]; omega
      · rw [if_neg h7]
        intro x hx
        rw [List.eq_of_mem_replicate hx]; omega
/-- The loops behind a row, if it can be worked. -/
def lo : List St → List Int → Option (List Int)
  | [], _ => some []
  | s :: r, bf => if s.lerr (bf.take s.need.toNat) ≠ 0 then none else (lo r (bf.drop s.need.toNat)).map (s.lmade (bf.take s.need.toNat) ++ ·)
theorem take_app {b1 b2 : List Int} {n : Nat} (h : b1.length = n) : (b1 ++ b2).take n = b1 ∧ (b1 ++ b2).drop n = b2 := by
  subst h; simp
theorem lo_app : ∀ (r1 r2 : List St) (b1 b2 : List Int), (b1.length : Int) = rneed r1 → lo (r1 ++ r2) (b1 ++ b2) = (lo r1 b1).bind fun o1 => (lo r2 b2).map (o1 ++ ·)
  | [], r2, b1, b2, h => by
    have h0 : b1 = [] := List.eq_nil_of_length_eq_zero (by have : rneed [] = 0 := rfl; omega)
    subst h0
    simp only [List.nil_append, lo, Option.bind_some]
    cases lo r2 b2 <;> simp
  | s :: r1, r2, b1, b2, h => by
    rw [rneed_cons] at h
    have hn := St.need_bd s
    have hr := (rneed_bd r1).1
    have ht : (b1 ++ b2).take s.need.toNat = b1.take s.need.toNat := List.take_append_of_le_length (by omega)
    have hd : (b1 ++ b2).drop s.need.toNat = b1.drop s.need.toNat ++ b2 := List.drop_append_of_le_length (by omega)
    rw [List.cons_append, lo, lo, ht, hd]
    by_cases he : s.lerr (b1.take s.need.toNat) ≠ 0
    · rw [if_pos he, if_pos he]; rfl
    · rw [if_neg he, if_neg he, lo_app r1 r2 (b1.drop s.need.toNat) b2 (by rw [List.length_drop]; omega)]
      cases lo r1 (b1.drop s.need.toNat) with
      | none => rfl
      | some o1 =>
        cases lo r2 b2 with
        | none => rfl
        | some o2 => simp
theorem Vl.take {xs : List Int} (h : Vl xs) (n : Nat) : Vl (xs.take n) := fun x hx => h x (List.mem_of_mem_take hx)
theorem Vl.drop {xs : List Int} (h : Vl xs) (n : Nat) : Vl (xs.drop n) := fun x hx => h x (List.mem_of_mem_drop hx)
theorem lo_mir : ∀ (r : List St) (bf : List Int), (∀ s ∈ r, s.chk = 0) → (bf.length : Int) = rneed r → Vl bf → lo (mirR r) bf.reverse = (lo r bf).map List.reverse
  | [], bf, _, _, _ => rfl
  | s :: r, bf, hc, hl, hv => by
    rw [rneed_cons] at hl
    have hn := St.need_bd s
    have hr := (rneed_bd r).1
    have hcs := hc s (by simp)
    obtain ⟨b1, hb1⟩ : ∃ b1, b1 = bf.take s.need.toNat := ⟨_, rfl⟩
    obtain ⟨b2, hb2⟩ : ∃ b2, b2 = bf.drop s.need.toNat := ⟨_, rfl⟩
    have hbf : bf = b1 ++ b2 := by rw [hb1, hb2, List.take_append_drop]
    have hl1 : (b1.length : Int) = s.need := by rw [hb1, List.length_take]; omega
    have hl2 : (b2.length : Int) = rneed r := by rw [hb2, List.length_drop]; omega
    have hv1 : Vl b1 := by rw [hb1]; exact hv.take _
    have hv2 : Vl b2 := by rw [hb2]; exact hv.drop _
    have ih := lo_mir r b2 (fun x hx => hc x (by simp [hx])) hl2 hv2
    have hone : lo [s.mir] b1.reverse = if s.lerr b1 ≠ 0 then none else some (s.lmade b1).reverse := by
      have ht : b1.reverse.take s.mir.need.toNat = b1.reverse := List.take_of_length_le (by rw [List.length_reverse, mir_need]; omega)
      rw [lo, ht, lerr_mir hcs hl1 hv1, lmade_mir hcs hl1 hv1]
      by_cases he : s.lerr b1 ≠ 0
      · rw [if_pos he, if_pos he]
      · rw [if_neg he, if_neg he, lo]; simp
    rw [mirR_cons, hbf, List.reverse_append, lo_app _ _ _ _ (by rw [List.length_reverse, mirR_need]; exact hl2), ih, hone, lo]
    obtain ⟨ht, hd⟩ := take_app (b1 := b1) (b2 := b2) (n := s.need.toNat) (by omega)
    rw [ht, hd]
    by_cases he : s.lerr b1 ≠ 0
    · rw [if_pos he, if_pos he]; cases lo r b2 <;> rfl
    · rw [if_neg he, if_neg he]
      cases lo r b2 with
      | none => rfl
      | some o => simp
theorem lo_some : ∀ (r : List St) (bf o : List Int), (∀ s ∈ r, s.chk = 0) → (bf.length : Int) = rneed r → Vl bf → lo r bf = some o → Vl o ∧ (o.length : Int) = rmake r
  | [], bf, o, _, _, _, h => by
    rw [lo] at h
    obtain rfl := Option.some.inj h
    exact ⟨fun x hx => by (cases hx), rfl⟩
  | s :: r, bf, o, hc, hl, hv, h => by
    rw [rneed_cons] at hl
    have hn := St.need_bd s
    have hm := St.make_bd s
    have hr := (rneed_bd r).1
    have hcs := hc s (by simp)
    have hl1 : ((bf.take s.need.toNat).length : Int) = s.need := by rw [List.length_take]; omega
    rw [lo] at h
    by_cases he : s.lerr (bf.take s.need.toNat) ≠ 0
    · rw [if_pos he] at h; cases h
    · rw [if_neg he] at h
      obtain ⟨o2, ho2, rfl⟩ := Option.map_eq_some_iff.1 h
      obtain ⟨i1, i2⟩ := lo_some r _ o2 (fun x hx => hc x (by simp [hx])) (by rw [List.length_drop]; omega) (hv.drop _) ho2
      have hml := lmade_len (s := s) (xs := bf.take s.need.toNat) (by omega)
      refine ⟨fun x hx => ?_, by rw [List.length_append, rmake_cons]; omega⟩
      rcases List.mem_append.1 hx with hx | hx
      · exact lmade_val hcs hl1 (hv.take _) x hx
      · exact i1 x hx
theorem ldRow_lo : ∀ (r : List St) (bf acc : List Int), (∀ s ∈ r, s.chk = 0) → (bf.length : Int) = rneed r → Vl bf → ldRow r bf acc = match lo r bf with | some o => (0, acc ++ o) | none => (9, [])
  | [], bf, acc, _, _, _ => by rw [ldRow, lo]; simp
  | s :: r, bf, acc, hc, hl, hv => by
    rw [rneed_cons] at hl
    have hn := St.need_bd s
    have hr := (rneed_bd r).1
    have hcs := hc s (by simp)
    have hl1 : ((bf.take s.need.toNat).length : Int) = s.need := by rw [List.length_take]; omega
    have hev := lerr_vals hcs hl1 (hv.take _)
    rw [ldRow, lo]
    by_cases he : s.lerr (bf.take s.need.toNat) ≠ 0
    · rw [if_pos he, if_pos he]
      have : s.lerr (bf.take s.need.toNat) = 9 := by omega
      rw [this]
    · rw [if_neg he, if_neg he, ldRow_lo r _ _ (fun x hx => hc x (by simp [hx])) (by rw [List.length_drop]; omega) (hv.drop _)]
      cases lo r (bf.drop s.need.toNat) <;> simp
/-- Whether the rows can be worked one behind the other. -/
def lr : List (List St) → List Int → Bool
  | [], _ => true
  | r :: rs, bf => match lo r bf with
    | none => false
    | some o => lr rs o
/-- The rows fit on one another. -/
def FT : List (List St) → Nat → Prop
  | [], _ => True
  | r :: rs, n => (n : Int) = rneed r ∧ (∀ s ∈ r, s.chk = 0) ∧ FT rs (rmake r).toNat
theorem lr_mir : ∀ (rs : List (List St)) (bf : List Int), FT rs bf.length → Vl bf → lr (mirC rs) bf.reverse = lr rs bf
  | [], _, _, _ => rfl
  | r :: rs, bf, ⟨h1, h2, h3⟩, hv => by
    have hm : mirC (r :: rs) = mirR r :: mirC rs := rfl
    rw [hm, lr, lr, lo_mir r bf h2 h1 hv]
    cases ho : lo r bf with
    | none => rfl
    | some o =>
      obtain ⟨i1, i2⟩ := lo_some r bf o h2 h1 hv ho
      exact lr_mir rs o (by rw [show o.length = (rmake r).toNat by omega]; exact h3) i1
theorem ldRows_lr : ∀ (rs : List (List St)) (bf : List Int) (acc : List (List Int)), FT rs bf.length → Vl bf → (ldRows rs bf acc).1 = if lr rs bf then 0 else 9
  | [], _, _, _, _ => rfl
  | r :: rs, bf, acc, ⟨h1, h2, h3⟩, hv => by
    rw [ldRows, lr, ldRow_lo r bf [] h2 h1 hv]
    cases ho : lo r bf with
    | none => simp
    | some o =>
      obtain ⟨i1, i2⟩ := lo_some r bf o h2 h1 hv ho
      simp only [ne_eq, not_true_eq_false, if_false, List.nil_append]
      exact ldRows_lr rs o _ (by rw [show o.length = (rmake r).toNat by omega]; exact h3) i1
theorem FT_of {rows : List (List St)} (h : cerr rows = 0) : ∀ (d k n : Nat), rows.length - k = d → (k < rows.length → (n : Int) = rneed (sw rows k)) → FT (rows.drop k) n
  | 0, k, n, hd, _ => by rw [List.drop_eq_nil_of_le (by omega)]; exact trivial
  | d + 1, k, n, hd, hn => by
    obtain ⟨r1, r2, r3, r4⟩ := cerr_zero h
    rw [drop_sw (show k < rows.length by omega)]
    have hz := rchk_zero (r3 k (by omega))
    refine ⟨hn (by omega), fun s hs => ?_, FT_of h d (k + 1) _ (by omega) (fun hk => ?_)⟩
    · obtain ⟨i, hi, rfl⟩ := List.mem_iff_getElem.1 hs
      have := hz.2.2.1 i hi
      rwa [si_of_lt hi] at this
    · rw [r4 k hk]
      have := hz.2.2.2.2.2.1
      omega
theorem first_val (rows : List (List St)) : Vl (first rows) := fun x hx => by
  unfold first at hx
  rw [List.eq_of_mem_replicate hx]; omega
/-- The error of a chart without an error of its rows. -/
theorem cloads_lr {rows : List (List St)} (h : cerr rows = 0) : (cloads rows).1 = if lr rows (first rows) then 0 else 9 := by
  have hc := h
  unfold cloads
  rw [if_neg (by omega)]
  have hl : (first rows).length = (rneed (sw rows 0)).toNat := by unfold first; simp
  have hn := (rneed_bd (sw rows 0)).1
  exact ldRows_lr rows _ _ (by rw [hl]; exact FT_of h rows.length 0 _ (by omega) (fun _ => by omega)) (first_val rows)
theorem cloads_mir {rows : List (List St)} (h : cerr rows = 0) : (cloads (mirC rows)).1 = (cloads rows).1 := by
  have hm : cerr (mirC rows) = 0 := by rw [mirC_cerr]; exact h
  obtain ⟨r1, r2, r3, r4⟩ := cerr_zero h
  rw [cloads_lr h, cloads_lr hm]
  have hl : (first rows).length = (rneed (sw rows 0)).toNat := by unfold first; simp
  have hn := (rneed_bd (sw rows 0)).1
  have hf : first (mirC rows) = (first rows).reverse := by
    unfold first
    rw [mirC_sw (by omega), mirR_need, List.reverse_replicate]
  rw [hf, lr_mir rows (first rows) (by rw [hl]; exact FT_of h rows.length 0 _ (by omega) (fun _ => by omega)) (first_val rows)]
theorem mir_err (rows : List (List St)) : (cloads (mirC rows)).1 = (cloads rows).1 := by
  by_cases h : cerr rows = 0
  · exact cloads_mir h
  · unfold cloads
    rw [mirC_cerr, if_pos h, if_pos h]
end Go.Proofs.YtkolebjpeaigcaaDoor
