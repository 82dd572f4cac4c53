/- Texts of this claim in one file: libraries and walks. -/
import Derived.Test.YtkolebjpeaigcaaDoorL7
import Derived.Test.YtkolebjpeaigcaaDoorL9
import Derived.Test.YtkolebjpeaigcaaDoorL10
import Derived.Test.YtkolebjpeaigcaaDoorMMake1
/- A row of a chart of the call's own is changed: what is needed for ChartsMake. -/
namespace Go.Proofs.YtkolebjpeaigcaaDoor
set_option linter.unusedVariables false
set_option linter.unusedSimpArgs false
set_option maxRecDepth 8000
open Go Go.RowKit

/-- 'append(s, x...)' of stitches as a step of a region that draws its order. -/
theorem step_app_st {w : World} {ops : Array Oper} {o : Oper} {a : Act} {K : Act → World → Prop} {Q : Exit → Act → World → Prop} {E : Prop}
    (hg : o.guard = none) (s x : Operand) (hop : o.op = Op.call { callee := Callee.builtin Builtin.append, args := #[s, x], argTypes := #[37, 37] })
    (B : Nat) (v : Value) (n : Nat) (xs : List Value) (hs : a.eval s = v) (hown : w.ownsRow B 33 5 v n xs)
    (g c m : Nat) (l : List St) (hx : a.eval x = .slice (some ⟨g, 0, none⟩) m c) (hm : m = l.length) (hR : RO w g c l)
    (hlen : n + m ≤ 1000000) (hB : B ≤ w.heap.size)
    (hK : ∀ v' w', w'.ownsRow B 33 5 v' (n + m) (xs ++ cells l) → w.grownBy w' v.ownBlock → K (a.put o.dst v') w') :
    if Region.wanted o (yielded ops a.tmps) = true then Oper.wp Tryd.prog o a w K Q else E := by
  have hw : Region.wanted o (yielded ops a.tmps) = true := by simp [Region.wanted, hg]
  rw [if_pos hw]
  obtain ⟨i, hi, hzz⟩ := Option.map_eq_some_iff.1 (show (Tryd.prog.info? 33).map (fun i => (i.zero, i.size, i.bytes)) = some (some (.agg z5), 5, 32) by kernel_rfl)
  simp only [Prod.mk.injEq] at hzz
  obtain ⟨hz, hsz, hb⟩ := hzz
  obtain ⟨v', w', hrun, r1, r2, _⟩ := run_append_own (P := Tryd.prog) (w := w) B 37 o.type 33 i (.agg z5) 5 32 Tryd.underlying37 hi hz hsz hb rfl (by decide) v n xs hown ⟨g, 0, none⟩ m c (cells l) (by rw [cells_len, hm]) hR.news (cs_one l) (by unfold maxLen; omega) (by omega) hB
  unfold Oper.wp
  simp [execOp, hop, resolve, invoke, builtin, hs, hx, hrun, Result.andThen]
  exact hK _ w' r1 r2
theorem own0z {w : World} {B g z : Nat} {e : TypeId} (hb : w.heap[g]? = some (.cells #[] e (0, 0))) (hB : B ≤ g) : w.ownsRow B e z (.slice (some ⟨g, 0, none⟩) 0 0) 0 [] :=
  ⟨by simp, .inr ⟨g, 0, #[], rfl, hB, hb, Nat.le_refl _, by unfold maxLen; omega, by simp, by simp⟩⟩
theorem sw_set {rows : List (List St)} {k i : Nat} {l : List St} (hk : k < rows.length) : sw (rows.set k l) i = if i = k then l else sw rows i := by
  unfold sw
  by_cases h : i = k
  · subst h; simp [List.getD, hk]
  · rw [if_neg h]
    simp only [List.getD]
    rw [List.getElem?_set_ne (by omega)]
/-- A row of the chart is replaced. -/
theorem CO.setRow {w wr : World} {g n c k : Nat} {u : Value} {rows : List (List St)} {l : List St} (h : CO w wr (.slice (some ⟨g, 0, none⟩) n c) rows) (hk : k < rows.length) (hu : RV wr u l) :
    CO w (wr.setCell ⟨g, k, none⟩ u) (.slice (some ⟨g, 0, none⟩) n c) (rows.set k l) := by
  obtain ⟨h1, vs, h2, h3⟩ := h
  have hvl : vs.length = rows.length := by have := h2.1; omega
  obtain ⟨hl, ⟨hv, _⟩ | ⟨g', cap, cur, hv, hB, hb, hnc, hm, hsz, htk⟩⟩ := h2
  · cases hv
  · simp only [Value.slice.injEq, Option.some.injEq, Addr.mk.injEq] at hv
    obtain ⟨⟨rfl, _⟩, rfl, rfl⟩ := hv
    have hlt := lt_of_block hb
    have h' : wr.heap[g] = .cells cur 37 (0, 0) := by simpa [Array.getElem?_eq_getElem hlt] using hb
    have hnew : (wr.setCell ⟨g, k, none⟩ u).heap[g]? = some (.cells (cur.setIfInBounds k u) 37 (0, 0)) := by
      show (wr.heap.modify g _)[g]? = _
      rw [Array.getElem?_eq_getElem (by simpa using hlt), Array.getElem_modify_self, h']
      rfl
    refine ⟨h1.setCell hB _, vs.set k u, ⟨by rw [List.length_set, List.length_set]; exact hl, .inr ⟨g, c, _, by rw [List.length_set], hB, hnew, by rw [List.length_set]; exact hnc, hm, by rw [Array.size_setIfInBounds]; exact hsz, ?_⟩⟩, fun i hi => ?_⟩
    · rw [List.length_set, Array.toList_setIfInBounds]
      rw [Nat.mul_one] at htk ⊢
      rw [List.take_set, htk]
    · rw [List.length_set] at hi
      obtain ⟨u', a, b⟩ := h3 i hi
      rw [sw_set hk]
      by_cases e : i = k
      · subst e
        rw [if_pos rfl]
        exact ⟨u, by simp [hvl, hk], hu.setOther hb (by decide)⟩
      · rw [if_neg e]
        exact ⟨u', by rw [List.getElem?_set_ne (by omega)]; exact a, b.setOther hb (by decide)⟩
theorem Ext.base {a b : World} (h : Ext a b) : True := trivial
/-- A stitch more at the end of a row. -/
def more (rows : List (List St)) (i : Nat) (s : St) : List (List St) := rows.set i (sw rows i ++ [s])
theorem more_err {rows : List (List St)} {i : Nat} {s : St} (h : (cloads rows).1 = 0) (hi : i < rows.length) (h0 : 0 < i) (hs : s.chk = 0) (h3 : s.k ≠ 3) : (cloads (more rows i s)).1 ≠ 0 := by
  intro hc
  obtain ⟨a1, a2, a3, a4⟩ := cerr_zero (show cerr rows = 0 by
    by_cases e : cerr rows = 0
    · exact e
    · unfold cloads at h; rw [if_pos e] at h; exact absurd h e)
  obtain ⟨b1, b2, b3, b4⟩ := cerr_zero (show cerr (more rows i s) = 0 by
    by_cases e : cerr (more rows i s) = 0
    · exact e
    · unfold cloads at hc; rw [if_pos e] at hc; exact absurd hc e)
  have hl : (more rows i s).length = rows.length := by unfold more; rw [List.length_set]
  have q := b4 (i - 1) (by rw [hl]; omega)
  have q2 := a4 (i - 1) (by omega)
  rw [show i - 1 + 1 = i by omega] at q q2
  have e1 : sw (more rows i s) i = sw rows i ++ [s] := by unfold more; rw [sw_set hi, if_pos rfl]
  have e2 : sw (more rows i s) (i - 1) = sw rows (i - 1) := by unfold more; rw [sw_set hi, if_neg (by omega)]
  rw [e1, e2, rneed_snoc] at q
  have hn : s.need = if s.k = 3 then 0 else if s.k = 4 ∨ s.k = 5 then 2 else if s.k = 8 then s.a + s.b else 1 := by unfold St.need; rw [if_neg (by omega)]
  have hok := (St.chk_ok hs).2.2
  rw [if_neg h3] at hn
  by_cases e4 : s.k = 4 ∨ s.k = 5
  · rw [if_pos e4] at hn; omega
  · rw [if_neg e4] at hn
    by_cases e8 : s.k = 8
    · rw [if_pos e8] at hn; omega
    · rw [if_neg e8] at hn; omega
theorem more_in {rows : List (List St)} {i : Nat} {s : St} (h : (cloads rows).1 = 0) (hi : i < rows.length) (hs : s.chk = 0) : ∀ k, k < (more rows i s).length → ∀ j, j < (sw (more rows i s) k).length → 0 ≤ (si (sw (more rows i s) k) j).k ∧ 0 ≤ (si (sw (more rows i s) k) j).y := by
  obtain ⟨a1, a2, a3, a4⟩ := cerr_zero (show cerr rows = 0 by
    by_cases e : cerr rows = 0
    · exact e
    · unfold cloads at h; rw [if_pos e] at h; exact absurd h e)
  have hl : (more rows i s).length = rows.length := by unfold more; rw [List.length_set]
  have hg : ∀ k, k < rows.length → ∀ x ∈ sw rows k, 0 ≤ x.k ∧ 0 ≤ x.y := fun k hk x hx => by
    obtain ⟨j, hj, rfl⟩ := List.mem_iff_getElem.1 hx
    have := St.chk_ok ((rchk_zero (a3 k hk)).2.2.1 j hj)
    rw [si_of_lt hj] at this
    omega
  intro k hk j hj
  rw [hl] at hk
  have hm := si_mem hj
  unfold more at hm ⊢
  rw [sw_set hi] at hm ⊢
  by_cases e : k = i
  · rw [if_pos e] at hm ⊢
    rcases List.mem_append.1 hm with hm | hm
    · exact hg i hi _ hm
    · rw [List.mem_singleton.1 hm]
      have := St.chk_ok hs
      omega
  · rw [if_neg e] at hm ⊢
    exact hg k hk _ hm
end Go.Proofs.YtkolebjpeaigcaaDoor
/- ganseylaw13.small; the law ChartsSame, walked. -/
namespace Go.Proofs.YtkolebjpeaigcaaDoor
set_option linter.unusedVariables false
set_option linter.unusedSimpArgs false
set_option maxRecDepth 8000
open Go Go.RowKit

/-- 1 for a small chart. -/
def sml (rows : List (List St)) : Int := if 40 < rows.length then 0 else if rows.any (fun r => decide (40 < r.length)) then 0 else 1
theorem sml_long {rows : List (List St)} (h : 40 < rows.length) : sml rows = 0 := if_pos h
theorem sml_bad {rows : List (List St)} (h : rows.length ≤ 40) {k : Nat} (hk : k < rows.length) (hb : 40 < (sw rows k).length) : sml rows = 0 := by
  unfold sml
  rw [if_neg (by omega), if_pos]
  rw [List.any_eq_true]
  exact ⟨sw rows k, by rw [sw_of_lt hk]; exact List.getElem_mem hk, by simpa using hb⟩
theorem sml_ok {rows : List (List St)} (h : rows.length ≤ 40) (hg : ∀ k, k < rows.length → (sw rows k).length ≤ 40) : sml rows = 1 := by
  unfold sml
  rw [if_neg (by omega), if_neg]
  rw [List.any_eq_true]
  rintro ⟨r, hr, hb⟩
  obtain ⟨i, hi, rfl⟩ := List.mem_iff_getElem.1 hr
  have := hg i hi
  rw [sw_of_lt hi] at this
  simp at hb; omega
theorem sml_one {rows : List (List St)} (h : sml rows ≠ 0) : rows.length ≤ 40 ∧ ∀ k, k < rows.length → (sw rows k).length ≤ 40 := by
  by_cases h1 : 40 < rows.length
  · exact absurd (sml_long h1) h
  · refine ⟨by omega, fun k hk => ?_⟩
    by_cases h2 : 40 < (sw rows k).length
    · exact absurd (sml_bad (by omega) hk h2) h
    · omega
theorem sml_cases (rows : List (List St)) : sml rows = 0 ∨ sml rows = 1 := by unfold sml; (repeat' split) <;> simp

set_option maxHeartbeats 1000000 in
theorem small_calls (v : Value) (c : Nat) (rows : List (List St)) (w : World) (h : RR w v c rows) : Calls Tryd.prog 14 #[.agg #[v]] w fun e w' => e = .returned (.int .i64 (sml rows)) ∧ Ext w w' := by
  obtain ⟨ao, n, rfl, hn, hc, hcm, hat⟩ := h.open
  unfold maxLen at hcm
  obtain ⟨W, hW⟩ : ∃ W, W = w.alloc (.cells #[.slice ao n c] 27) := ⟨_, rfl⟩
  have xW : Ext w W := by rw [hW]; exact (Ext.refl w).alloc _
  have b0 : W.cell? ⟨w.heap.size, 0, none⟩ = some (.slice ao n c) := by rw [hW, World.cell?_alloc_at (hn := rfl)]; rfl
  have HBx := Lib.hid (fun w' (x : Ext W w') => x.cell b0); have XW := Lib.hid xW; have HA := Lib.hid hat; have HW := Lib.hid hW
  have hsl : 40 < n → sml rows = 0 := fun h => sml_long (by omega)
  have hsb : n ≤ 40 → ∀ k, k < n → 40 < (sw rows k).length → sml rows = 0 := fun h k hk hb => sml_bad (by omega) (by omega) hb
  have hsg : n ≤ 40 → (∀ k, k < n → (sw rows k).length ≤ 40) → sml rows = 1 := fun h hg => sml_ok (by omega) (fun k hk => hg k (by omega))
  generalize sml rows = S at *
  rw [hW] at b0
  by_cases h40 : 40 < n
  · have h40' : (40 : Int) < n := by omega
    have hS := hsl h40
    subst hS
    clear hat h hn hsl hsb hsg xW hW h40
    go_enter Tryd.func14, Tryd.ntmps14
    go_wp2
    rw [← HW.out]
    go_ret
    exact ⟨rfl, XW.out⟩
  have h40' : ¬ (40 : Int) < n := by omega
  have HSb := Lib.hid (hsb (by omega)); have HSg := Lib.hid (hsg (by omega))
  clear hat h hn hsl hsb hsg xW hW
  go_enter Tryd.func14, Tryd.ntmps14
  go_wp2
  rw [← HW.out]
  clear b0 HW
  go_loopw [3] (fun i wr => ∃ k : Nat, k ≤ n ∧ i = .int .i64 k ∧ Hid (Ext W wr) ∧ Hid (∀ i, i < k → (sw rows i).length ≤ 40)) (fun i _ => n - (intOf i).toNat)
  case atStart => exact ⟨0, Nat.zero_le _, rfl, Lib.hid (Ext.refl _), Lib.hid (fun i hi => by omega)⟩
  case round =>
    obtain ⟨k, hk, rfl, HX, HG⟩ := hrel
    have b1 := HBx.out _ HX.out
    by_cases hlt : k < n
    · obtain ⟨b, o, a, m, d, rfl, hc0, hr0⟩ := HA.out k hlt
      replace hc0 := (XW.out.trans HX.out).cell hc0
      obtain ⟨_, _, e1, e2, _⟩ := hr0.open
      simp only [Value.slice.injEq] at e1
      obtain ⟨rfl, rfl, _⟩ := e1
      have He2 := Lib.hid e2
      clear hr0 e2
      by_cases hm : 40 < m
      · have hm' : (40 : Int) < m := by omega
        have hS := HSb.out k hlt (by have := He2.out; omega)
        subst hS
        clear hm
        go_wp2
        go_ret
        exact ⟨rfl, XW.out.trans HX.out⟩
      · have hm' : ¬ (40 : Int) < m := by omega
        have HG2 := Lib.hid (show ∀ i, i < k + 1 → (sw rows i).length ≤ 40 from fun i hi => by
          by_cases e : i = k
          · rw [e]; have := He2.out; omega
          · exact HG.out i (by omega))
        clear hm
        go_wp2
        go_roundw
        case rel => exact ⟨k + 1, by omega, by go_num, HX, HG2⟩
        case measure => simp [intOf]; omega
    · obtain rfl : n = k := by omega
      have hS := HSg.out HG.out
      subst hS
      have hlt' : ¬ (n : Int) < (n : Int) := by omega
      go_wp2
      go_ret
      exact ⟨rfl, XW.out.trans HX.out⟩

set_option maxHeartbeats 4000000 in
theorem ChartsSame_walk (v1 v2 : Value) (c1 c2 : Nat) (l m : List (List St)) (w : World) (h1 : RR w v1 c1 l) (h2 : RR w v2 c2 m) (hy : Sy w) (hm : Mx w) :
    Calls Tryd.prog 6 #[.agg #[v1], .agg #[v2]] w fun e w' => e = .returned (.bool true) ∧ Ext w w' := by
  have k1 := fun w' (x : Ext w w') => small_calls v1 c1 l w' (h1.ext x)
  have k2 := fun w' (x : Ext w w') => small_calls v2 c2 m w' (h2.ext x)
  have k3 := fun w' (x : Ext w w') => CSame_calls v1 v2 c1 c2 l m w' (h1.ext x) (h2.ext x)
  have k4 := fun w' (x : Ext w w') => Differ_calls v1 v2 c1 c2 l m w' (h1.ext x) (h2.ext x)
  have k5 := fun w' (x : Ext w w') => CSame_calls v1 v1 c1 c1 l l w' (h1.ext x) (h1.ext x)
  have k6 := fun w' (x : Ext w w') => lives13_calls w' (hy.ext x) (hm.ext x)
  rw [decide_eq_true (rfl : l = l)] at k5
  obtain ⟨a1, n1, rfl, hn1⟩ := h1.open
  obtain ⟨a2, n2, rfl, hn2⟩ := h2.open
  clear hn1 hn2
  obtain ⟨W, hW⟩ : ∃ W, W = (w.alloc (.cells #[.slice a1 n1 c1] 27)).alloc (.cells #[.slice a2 n2 c2] 27) := ⟨_, rfl⟩
  have xW : Ext w W := by rw [hW]; exact ((Ext.refl w).alloc _).alloc _
  have b1 : W.heap[w.heap.size]? = some (.cells #[.slice a1 n1 c1] 27 (0, 0)) := by rw [hW]; exact blk_old (blk_at rfl)
  have b2 : W.heap[w.heap.size + 1]? = some (.cells #[.slice a2 n2 c2] 27 (0, 0)) := by rw [hW]; exact blk_at (by simp)
  have d1 : W.cell? ⟨w.heap.size, 0, none⟩ = some (.slice a1 n1 c1) := by simp [World.cell?, b1]
  have d2 : W.cell? ⟨w.heap.size + 1, 0, none⟩ = some (.slice a2 n2 c2) := by simp [World.cell?, b2]
  have HD1 := Lib.hid (fun w' (x : Ext W w') => x.cell d1); have HD2 := Lib.hid (fun w' (x : Ext W w') => x.cell d2)
  have XW := Lib.hid xW; have HW := Lib.hid hW
  have K1 := Lib.hid k1; have K2 := Lib.hid k2; have K5 := Lib.hid k5; have K6 := Lib.hid k6
  rw [hW] at d1 d2
  have hs1 := sml_cases l
  have hs2 := sml_cases m
  have hdm : (decide (l = m) = true ∧ dif l m = 0) ∨ (decide (l = m) = false ∧ dif l m = 1) := by
    by_cases e : l = m
    · exact .inl ⟨decide_eq_true e, if_pos e⟩
    · exact .inr ⟨decide_eq_false e, if_neg e⟩
  generalize sml l = S1 at *
  generalize sml m = S2 at *
  have K3 := Lib.hid k3; have K4 := Lib.hid k4
  clear k1 k2 k3 k4 k5 k6 h1 h2 hy hm xW hW b1 b2
  go_enter Tryd.func6, Tryd.ntmps6
  go_wp2_with fail
  rw [← HW.out]
  refine (K1.out _ XW.out).mono ?_
  rintro e w1 ⟨rfl, x1⟩
  have X1 := Lib.hid x1
  have e1 := HD1.out _ x1; have e2 := HD2.out _ x1
  clear x1 d1 d2 HW
  rcases hs1 with rfl | rfl
  · go_wp2
    go_ret
    exact ⟨rfl, XW.out.trans X1.out⟩
  · go_wp2_with fail
    refine (K2.out _ (XW.out.trans X1.out)).mono ?_
    rintro e w2 ⟨rfl, x2⟩
    have X2 := Lib.hid (X1.out.trans x2)
    have q0_1 := HD1.out _ X2.out; have q0_2 := HD2.out _ X2.out
    clear x2 e1 e2
    rcases hs2 with rfl | rfl
    · go_wp2
      go_ret
      exact ⟨rfl, XW.out.trans X2.out⟩
    · have XX := Lib.hid (XW.out.trans X2.out)
      rcases hdm with ⟨z1, z2⟩ | ⟨z1, z2⟩
      all_goals
        have K3b := K3.out; have K4b := K4.out
        rw [z1] at K3b
        rw [z2] at K4b
        have K3c := Lib.hid K3b; have K4c := Lib.hid K4b
        clear K3b K4b K3 K4 z1 z2
        go_wp2
        go_region_held3 (fun w' => w'.cell? ⟨w.heap.size, 0, Option.none⟩ = some (.slice a1 n1 c1) ∧ w'.cell? ⟨w.heap.size + 1, 0, Option.none⟩ = some (.slice a2 n2 c2)) (first | exact ⟨q0_1, q0_2⟩ | exact ⟨q1_1, q1_2⟩ | exact ⟨q2_1, q2_2⟩ | exact ⟨q3_1, q3_2⟩ | exact ⟨q4_1, q4_2⟩ | go_keep) (first
          | (go_at_call_of 26 (Value.slice a2 n2 c2); (refine (K3c.out _ ?_).mono ?_); (focus (refine Ext.trans XX.out ?_; (repeat (first | (with_reducible exact Ext.refl _) | (with_reducible apply Ext.drew) | (with_reducible apply Ext.drewN) | (with_reducible apply Ext.alloc))))); intro e wa hh; obtain ⟨rfl, x⟩ := hh; have Xa : Hid (Ext w2 wa) := Lib.hid (Ext.trans (by (repeat (first | (with_reducible exact Ext.refl _) | (with_reducible apply Ext.drew) | (with_reducible apply Ext.drewN) | (with_reducible apply Ext.alloc)))) x); have q1_1 := Xa.out.cell q0_1; have q1_2 := Xa.out.cell q0_2; clear x)
          | (go_at_call 18; (refine (K4c.out _ ?_).mono ?_); (focus (refine Ext.trans (XX.out.trans Xa.out) ?_; (repeat (first | (with_reducible exact Ext.refl _) | (with_reducible apply Ext.drew) | (with_reducible apply Ext.drewN) | (with_reducible apply Ext.alloc))))); intro e wb hh; obtain ⟨rfl, x⟩ := hh; have Xb : Hid (Ext w2 wb) := Lib.hid (Ext.trans Xa.out (Ext.trans (by (repeat (first | (with_reducible exact Ext.refl _) | (with_reducible apply Ext.drew) | (with_reducible apply Ext.drewN) | (with_reducible apply Ext.alloc)))) x)); have q2_1 := Xb.out.cell q0_1; have q2_2 := Xb.out.cell q0_2; clear x)
          | (go_at_call 26; (refine (K5.out _ ?_).mono ?_); (focus (refine Ext.trans (XX.out.trans Xb.out) ?_; (repeat (first | (with_reducible exact Ext.refl _) | (with_reducible apply Ext.drew) | (with_reducible apply Ext.drewN) | (with_reducible apply Ext.alloc))))); intro e wd hh; obtain ⟨rfl, x⟩ := hh; have Xd : Hid (Ext w2 wd) := Lib.hid (Ext.trans Xb.out (Ext.trans (by (repeat (first | (with_reducible exact Ext.refl _) | (with_reducible apply Ext.drew) | (with_reducible apply Ext.drewN) | (with_reducible apply Ext.alloc)))) x)); have q3_1 := Xd.out.cell q0_1; have q3_2 := Xd.out.cell q0_2; clear x)
          | (go_at_call 13; (refine (K6.out _ ?_).mono ?_); (focus (refine Ext.trans (XX.out.trans Xd.out) ?_; (repeat (first | (with_reducible exact Ext.refl _) | (with_reducible apply Ext.drew) | (with_reducible apply Ext.drewN) | (with_reducible apply Ext.alloc))))); intro e we hh; obtain ⟨rfl, x⟩ := hh; have Xe : Hid (Ext w2 we) := Lib.hid (Ext.trans Xd.out (Ext.trans (by (repeat (first | (with_reducible exact Ext.refl _) | (with_reducible apply Ext.drew) | (with_reducible apply Ext.drewN) | (with_reducible apply Ext.alloc)))) x)); have q4_1 := Xe.out.cell q0_1; have q4_2 := Xe.out.cell q0_2; clear x))
        go_wp2
        go_ret
        exact ⟨rfl, XX.out.trans Xe.out⟩
end Go.Proofs.YtkolebjpeaigcaaDoor
/- The law ChartsMake, walked. -/
namespace Go.Proofs.YtkolebjpeaigcaaDoor
set_option linter.unusedVariables false
set_option linter.unusedSimpArgs false
set_option maxRecDepth 8000
open Go Go.RowKit

theorem CO.blk {w wr : World} {v : Value} {rows : List (List St)} (h : CO w wr v rows) (h0 : 0 < rows.length) : ∃ g c, v = .slice (some ⟨g, 0, none⟩) rows.length c ∧ w.heap.size ≤ g ∧ (∃ cur, wr.heap[g]? = some (.cells cur 37 (0, 0))) ∧ ∀ i, i < rows.length → ∃ u, wr.cell? ⟨g, i, none⟩ = some u ∧ RV wr u (sw rows i) := by
  obtain ⟨h1, vs, h2, h3⟩ := h
  obtain ⟨g, cap, f, hv, hB, hlt, hnc, hm, hrow, hf⟩ := own_open h2 h0
  obtain ⟨cur, hb, hsz, hcf⟩ := id hrow
  refine ⟨g, cap, hv, hB, ⟨cur, hb⟩, fun i hi => ?_⟩
  obtain ⟨u, a, b⟩ := h3 i hi
  exact ⟨u, by rw [hrow.cell (by omega), hf i u a], b⟩
theorem RO.of_blk1 {w : World} {g : Nat} {s : St} (h : w.heap[g]? = some (.cells #[.int .u8 s.k, .int .u8 s.y, .int .i64 s.a, .int .i64 s.b, .bool s.f] 33 (0, 0))) : RO w g 1 [s] := by
  refine ⟨Nat.le_refl _, by unfold maxLen; omega, fun i => ((cells [s])[i]?).getD undef, ⟨_, h, rfl, fun i hi => ?_⟩, fun i hi => ?_⟩
  · have hi' : i < 5 := by simpa using hi
    rcases (show i = 0 ∨ i = 1 ∨ i = 2 ∨ i = 3 ∨ i = 4 by omega) with rfl | rfl | rfl | rfl | rfl <;> rfl
  · obtain rfl : i = 0 := by simpa using hi
    exact ⟨rfl, rfl, rfl, rfl, rfl⟩
theorem cell_set1 {w : World} {a b : Addr} {v : Value} (h : w.cell? a = some v) (hb : a.block ≠ b.block) (u : Value) : (w.setCell b u).cell? a = some v := by
  rw [World.cell?_of_block (Deep.blk_setCell_other _ _ _ _ hb)]; exact h
set_option maxHeartbeats 8000000 in
theorem ChartsMake_walk (wd : Int) (v : Value) (c : Nat) (chs : List (List Int)) (at' kind : Int) (w : World) (h : ISS .u8 w v c chs) (hw : 0 ≤ wd ∧ wd ≤ 255) (hb : ∀ k, k < chs.length → ∀ i, i < (ri chs k).length → 0 ≤ gi (ri chs k) i ∧ gi (ri chs k) i ≤ 255) (ha : 0 ≤ at' ∧ at' ≤ 255) (hk : 0 ≤ kind ∧ kind ≤ 255) (hy : Sy w) (hm : Mx w) :
    Calls Tryd.prog 3 #[.agg #[.int .u8 wd, v], .int .u8 at', .int .u8 kind] w fun e w' => e = .returned (.bool true) ∧ Ext w w' := by
  have k1 := fun w' (x : Ext w w') => COf_calls wd v c chs w' (h.ext x) hw hb
  have k6 := fun w' (x : Ext w w') => lives13_calls w' (hy.ext x) (hm.ext x)
  have k3 := fun w' => K_calls kind 0 0 false w' hk (by omega) (by omega)
  have hmb := many_bd chs.length
  obtain ⟨vs, caps, hV⟩ := h
  obtain ⟨ao, n, rfl, hn, hc, hcm, hat⟩ := hV.outs
  have K1 := Lib.hid k1; have K3 := Lib.hid k3; have K6 := Lib.hid k6
  have s1 := kSt_chk kind 0 0 false
  obtain ⟨S, hS⟩ : ∃ S, S = kSt kind 0 0 false := ⟨_, rfl⟩
  rw [← hS] at K3 s1
  have HS1 := Lib.hid s1
  obtain ⟨M, hM⟩ : ∃ M, M = many chs.length := ⟨_, rfl⟩
  rw [← hM] at hmb
  have hMc : ∀ w', RetC0 w' chs.length = RetC0 w' chs.length := fun _ => rfl
  have HM := Lib.hid hM
  clear k1 k3 k6 hV hat hy hm hw hb hk hS s1 hM hMc hn hc hcm
  obtain ⟨hm1, hm2⟩ := hmb
  have y0 := Lib.hid (Ext.refl w)
  go_enter Tryd.func3, Tryd.ntmps3
  go_wp2_with fail
  refine (K1.out _ ((Ext.refl w).alloc _)).mono ?_
  intro e w1 hh
  obtain ⟨vr, rows, rfl, hco, hok, hlen⟩ := hh
  rw [← HM.out] at hlen
  have hco := hco.base ((Ext.refl w).alloc _)
  obtain ⟨gR, cR, hvr, hgB, hgb, hgc⟩ := hco.blk (by omega)
  subst hvr
  rw [hlen] at hco hgc ⊢
  obtain ⟨w2, hw2⟩ : ∃ w2, w2 = w1.alloc (.cells #[.slice (some ⟨gR, 0, none⟩) M cR] 27) := ⟨_, rfl⟩
  have x2 : Ext w1 w2 := by rw [hw2]; exact (Ext.refl w1).alloc _
  have hq : w2.heap[w1.heap.size]? = some (.cells #[.slice (some ⟨gR, 0, none⟩) M cR] 27 (0, 0)) := by rw [hw2]; exact blk_at rfl
  have d1 : w2.cell? ⟨w1.heap.size, 0, none⟩ = some (.slice (some ⟨gR, 0, none⟩) M cR) := by simp [World.cell?, hq]
  have HD1 := Lib.hid (fun w' (x : Ext w2 w') => x.cell d1)
  have HCo := Lib.hid (hco.later x2); have HW2 := Lib.hid hw2; have HQ := Lib.hid hq; have HLen := Lib.hid hlen; have HOk := Lib.hid hok
  have Hgc := Lib.hid (fun i hi => by obtain ⟨u, a, b⟩ := hgc i hi; exact (⟨u, x2.cell a, b.ext x2⟩ : ∃ u, w2.cell? ⟨gR, i, none⟩ = some u ∧ RV w2 u (sw rows i)))
  rw [hw2] at d1
  clear hco x2 hw2 hq hgc hlen hok
  obtain ⟨cc, hrr⟩ := HCo.out.rr
  have hck := fun w' (x : Ext w2 w') => CCheck_calls _ _ rows w' (hrr.ext x)
  rw [HOk.out] at hck
  have HCk := Lib.hid hck
  clear hck hrr
  go_wp2_with fail
  rw [← HW2.out]
  refine (HCk.out _ (Ext.refl w2)).mono ?_
  rintro e w3 ⟨rfl, x3⟩
  have X3 := Lib.hid x3
  have e1 := HD1.out _ x3
  have t1 : ¬ (M : Int) = 0 := by omega
  have t2 : 0 ≤ at' % (M : Int) := Int.emod_nonneg _ t1
  have t3 : at' % (M : Int) < M := Int.emod_lt_of_pos _ (by omega)
  have t4 : IntKind.i64.wrap (at' % (M : Int)) = at' % (M : Int) := IntWalk.i64_in _ ⟨by omega, by omega⟩
  obtain ⟨ha1, ha2⟩ := ha
  clear x3 d1 HCk
  go_wp2_with fail
  refine (K3.out _).mono ?_
  rintro e w4 ⟨rfl, x4⟩
  have X4 := Lib.hid (X3.out.trans x4)
  have e2 := HD1.out _ X4.out
  obtain ⟨I, hI⟩ : ∃ I : Nat, (I : Int) = at' % (M : Int) := ⟨(at' % (M : Int)).toNat, by omega⟩
  have hIM : I < M := by omega
  rw [← hI]
  have hz := rchk_zero ((cerr_zero (show cerr rows = 0 by
    have h := HOk.out
    by_cases e : cerr rows = 0
    · exact e
    · unfold cloads at h; rw [if_pos e] at h; exact absurd h e)).2.2.1 I (by rw [HLen.out]; exact hIM))
  obtain ⟨u, hu1, hu2⟩ := Hgc.out I hIM
  rcases hu2 with ⟨_, hnil⟩ | ⟨gi', ci, rfl, hro⟩
  · rw [hnil] at hz; exact absurd hz.2.1 (by simp)
  obtain ⟨L, hL⟩ : ∃ L, L = sw rows I := ⟨_, rfl⟩
  rw [← hL] at hu1 hro hz
  obtain ⟨mI, hmI⟩ : ∃ mI, mI = L.length := ⟨_, rfl⟩
  have hmI16 : mI ≤ 16 := by rw [hmI]; exact hz.1
  rw [← hmI] at hu1
  have HL := Lib.hid hL; have HmI := Lib.hid hmI; have HRo := Lib.hid hro; have HI := Lib.hid hI
  have s3 : St.k S ≠ 3 ∨ St.k S = 3 := by omega
  obtain ⟨wb, hwb⟩ : ∃ wb, wb = w4.alloc (.cells #[.int .u8 S.k, .int .u8 S.y, .int .i64 S.a, .int .i64 S.b, .bool S.f] 33) := ⟨_, rfl⟩
  have hB5 : B5 wb w4.heap.size S 33 := by rw [hwb]; exact B5.new w4 S _
  have xb : Ext w4 wb := by rw [hwb]; exact (Ext.refl w4).alloc _
  have Xb := Lib.hid (X4.out.trans xb)
  have q0_1 := xb.cell e2
  have q0_2 := Xb.out.cell hu1
  obtain ⟨q0_3, q0_4, q0_5, q0_6, q0_7⟩ := hB5.at
  simp only [Nat.zero_add] at q0_3 q0_4 q0_5 q0_6 q0_7
  have HB5 := Lib.hid hB5; have Hwb := Lib.hid hwb
  have t5 : (I : Int) < M := by omega
  have HRo2 := Lib.hid (HRo.out.ext Xb.out)
  obtain ⟨R, hR⟩ : ∃ R : World → Prop, R = fun wx => CO w wx (.slice (some ⟨gR, 0, none⟩) M cR) (more rows I S) ∧ wx.heap[w1.heap.size]? = some (.cells #[.slice (some ⟨gR, 0, none⟩) M cR] 27 (0, 0)) ∧ B5 wx w4.heap.size S 33 := ⟨_, rfl⟩
  have hqb : wb.heap[w1.heap.size]? = some (.cells #[.slice (some ⟨gR, 0, none⟩) M cR] 27 (0, 0)) := Xb.out.block HQ.out
  have hcob := HCo.out.later Xb.out
  obtain ⟨cur, hgcur⟩ : ∃ cur, wb.heap[gR]? = some (Obj.cells cur 37 (0, 0)) := by
    obtain ⟨g', c', e1, _, ⟨cur, e2⟩, _⟩ := hcob.blk (by rw [HLen.out]; omega)
    simp only [Value.slice.injEq, Option.some.injEq, Addr.mk.injEq] at e1
    obtain ⟨⟨rfl, _⟩, _, _⟩ := e1
    exact ⟨cur, e2⟩
  have HFr := Lib.hid (fun w' (x : Ext wb w') => show w'.frozen? ⟨gR, I, none⟩ = false by simp [World.frozen?, x.block hgcur])
  have HFin := Lib.hid (show ∀ w' v', Ext wb w' → RV w' v' (L ++ [S]) → R (w'.setCell ⟨gR, I, none⟩ v') from fun w' v' x r => by
    rw [hR]
    have hg := x.block hgcur
    refine ⟨?_, blk_setOther (x.block hqb) hg (by decide), ?_⟩
    · unfold more; rw [← HL.out]; exact (hcob.later x).setRow (by rw [HLen.out]; exact hIM) r
    · exact blk_setOther (x.block HB5.out) hg (by decide))
  have HR := Lib.hid hR
  have hne1 : w1.heap.size ≠ gR := fun e => by rw [e, hgcur] at hqb; simp at hqb
  have hne2 : w4.heap.size ≠ gR := fun e => by have h5 := HB5.out; unfold B5 at h5; rw [e, hgcur] at h5; simp at h5
  have HNe := Lib.hid (And.intro hne1 hne2)
  unfold St.val
  clear x4 hI hz hu1 hro hL hmI hwb hB5 xb e1 e2 t1 t2 t3 t4 ha1 ha2 hR hqb hcob hgcur HB5 hne1 hne2
  have r1 : ∀ o, (wb.alloc o).cell? ⟨gR, I, none⟩ = some (.slice (some ⟨gi', 0, none⟩) mI ci) := fun o => cell_alloc q0_2 o
  have r2 : ∀ o o', ((wb.alloc o).alloc o').cell? ⟨gR, I, none⟩ = some (.slice (some ⟨gi', 0, none⟩) mI ci) := fun o o' => cell_alloc (r1 o) o'
  go_upto_region 6 with fail
  rw [← Hwb.out]
  go_cut [] from 26 to 62 (fun wx => R wx)
  case first =>
    go_region_held3 (fun w' => w'.cell? ⟨w1.heap.size, 0, none⟩ = some (.slice (some ⟨gR, 0, none⟩) M cR) ∧ w'.cell? ⟨w4.heap.size, 0, none⟩ = some (.int .u8 S.k) ∧ w'.cell? ⟨w4.heap.size, 1, none⟩ = some (.int .u8 S.y) ∧ w'.cell? ⟨w4.heap.size, 2, none⟩ = some (.int .i64 S.a) ∧ w'.cell? ⟨w4.heap.size, 3, none⟩ = some (.int .i64 S.b) ∧ w'.cell? ⟨w4.heap.size, 4, none⟩ = some (.bool S.f)) (first | exact ⟨q0_1, q0_3, q0_4, q0_5, q0_6, q0_7⟩ | (with_reducible exact ⟨p1, p4, p5, p6, p7, p8⟩) | (with_reducible exact ⟨n1, n3, n4, n5, n6, n7⟩) | exact ⟨cell_set1 p1 (by simpa using HNe.out.1) _, cell_set1 p4 (by simpa using HNe.out.2) _, cell_set1 p5 (by simpa using HNe.out.2) _, cell_set1 p6 (by simpa using HNe.out.2) _, cell_set1 p7 (by simpa using HNe.out.2) _, cell_set1 p8 (by simpa using HNe.out.2) _⟩ | go_keep) (first | ((refine step_app_st (by rfl) (.tmp 29) (.tmp 34) (by rfl) wb.heap.size (.slice (some ⟨wb.heap.size, 0, none⟩) 0 0) 0 [] (by rfl) ?_ gi' ci mI L (by rfl) HmI.out ?_ ?_ ?_ ?_; (focus (refine own0z ?_ ?_; (focus (repeat (first | (with_reducible exact blk_at rfl) | (with_reducible refine blk_at ?_; simp; done) | (with_reducible apply blk_drew) | (with_reducible apply blk_drewN) | (with_reducible apply blk_old)))); (focus (first | (exact Nat.le_refl _) | (exact Nat.le_succ _) | (simp; done) | (simp; omega))))); (focus (refine HRo2.out.ext ?_; (repeat (first | (with_reducible exact Ext.refl _) | (with_reducible apply Ext.drew) | (with_reducible apply Ext.drewN) | (with_reducible apply Ext.alloc))))); (focus omega); (focus (first | (exact Nat.le_refl _) | (simp; done) | (simp; omega))); intro v9 w9 o9 g9; have x9 : Hid (Ext wb w9) := Lib.hid (Ext.grown (by (repeat (first | (with_reducible exact Ext.refl _) | (with_reducible apply Ext.drew) | (with_reducible apply Ext.drewN) | (with_reducible apply Ext.alloc)))) g9 (by intro k' hk'; simp [Value.ownBlock] at hk'; omega)); have n1 := x9.out.cell q0_1; have n3 := x9.out.cell q0_3; have n4 := x9.out.cell q0_4; have n5 := x9.out.cell q0_5; have n6 := x9.out.cell q0_6; have n7 := x9.out.cell q0_7; have y9 : w9.cell? ⟨gR, I, none⟩ = some (.slice (some ⟨gi', 0, none⟩) mI ci) := x9.out.cell q0_2)) | ((refine step_app_st (by rfl) (.tmp 29) (.tmp 34) (by rfl) wb.heap.size (.slice (some ⟨(wb.heap.size + 1), 0, none⟩) 0 0) 0 [] (by rfl) ?_ gi' ci mI L (by rfl) HmI.out ?_ ?_ ?_ ?_; (focus (refine own0z ?_ ?_; (focus (repeat (first | (with_reducible exact blk_at rfl) | (with_reducible refine blk_at ?_; simp; done) | (with_reducible apply blk_drew) | (with_reducible apply blk_drewN) | (with_reducible apply blk_old)))); (focus (first | (exact Nat.le_refl _) | (exact Nat.le_succ _) | (simp; done) | (simp; omega))))); (focus (refine HRo2.out.ext ?_; (repeat (first | (with_reducible exact Ext.refl _) | (with_reducible apply Ext.drew) | (with_reducible apply Ext.drewN) | (with_reducible apply Ext.alloc))))); (focus omega); (focus (first | (exact Nat.le_refl _) | (simp; done) | (simp; omega))); intro v9 w9 o9 g9; have x9 : Hid (Ext wb w9) := Lib.hid (Ext.grown (by (repeat (first | (with_reducible exact Ext.refl _) | (with_reducible apply Ext.drew) | (with_reducible apply Ext.drewN) | (with_reducible apply Ext.alloc)))) g9 (by intro k' hk'; simp [Value.ownBlock] at hk'; omega)); have n1 := x9.out.cell q0_1; have n3 := x9.out.cell q0_3; have n4 := x9.out.cell q0_4; have n5 := x9.out.cell q0_5; have n6 := x9.out.cell q0_6; have n7 := x9.out.cell q0_7; have y9 : w9.cell? ⟨gR, I, none⟩ = some (.slice (some ⟨gi', 0, none⟩) mI ci) := x9.out.cell q0_2)) | ((refine step_app_st (by rfl) (.tmp 35) (.tmp 37) (by rfl) wb.heap.size v9 (0 + mI) ([] ++ cells L) (by rfl) ?_ (w9.heap.size) 1 1 [S] (by rfl) rfl ?_ ?_ ?_ ?_; (focus (refine own_extz o9 ?_; (repeat (first | (with_reducible exact Ext.refl _) | (with_reducible apply Ext.drew) | (with_reducible apply Ext.drewN) | (with_reducible apply Ext.alloc))))); (focus (refine RO.of_blk1 (s := S) ?_; (repeat (first | (with_reducible exact blk_at rfl) | (with_reducible refine blk_at ?_; simp; done) | (with_reducible apply blk_drew) | (with_reducible apply blk_drewN) | (with_reducible apply blk_old))))); (focus omega); (focus (have := x9.out.size; simp; omega)); intro v12 w12 o12 g12; have x12 : Hid (Ext wb w12) := Lib.hid (Ext.grown (by (repeat (first | (with_reducible exact x9.out) | (with_reducible apply Ext.drew) | (with_reducible apply Ext.drewN) | (with_reducible apply Ext.alloc)))) g12 (fun k' hk' => (o9.lt k' hk').1)); obtain ⟨a12, n12, c12, hv12, hn12⟩ := (RV.of_own (l := L ++ [S]) (by rw [cells_app]; exact o12)).1.form; subst hv12; clear hn12; have H12 : Hid (RV w12 (.slice a12 n12 c12) (L ++ [S])) := Lib.hid (RV.of_own (l := L ++ [S]) (by rw [cells_app]; exact o12)).1; have p1 := x12.out.cell q0_1; have p2 := x12.out.cell q0_2; have p3 := HFr.out _ x12.out; have p4 := x12.out.cell q0_3; have p5 := x12.out.cell q0_4; have p6 := x12.out.cell q0_5; have p7 := x12.out.cell q0_6; have p8 := x12.out.cell q0_7)) | ((refine step_app_st (by rfl) (.tmp 35) (.tmp 37) (by rfl) wb.heap.size v9 (0 + mI) ([] ++ cells L) (by rfl) ?_ ((wb.heap.size + 1)) 1 1 [S] (by rfl) rfl ?_ ?_ ?_ ?_; (focus (refine own_extz o9 ?_; (repeat (first | (with_reducible exact Ext.refl _) | (with_reducible apply Ext.drew) | (with_reducible apply Ext.drewN) | (with_reducible apply Ext.alloc))))); (focus (refine RO.of_blk1 (s := S) ((g9.block _ (by simp <;> omega) (by simp [Value.ownBlock] <;> omega)).trans ?_); (repeat (first | (with_reducible exact blk_at rfl) | (with_reducible refine blk_at ?_; simp; done) | (with_reducible apply blk_drew) | (with_reducible apply blk_drewN) | (with_reducible apply blk_old))))); (focus omega); (focus (have := x9.out.size; simp; omega)); intro v12 w12 o12 g12; have x12 : Hid (Ext wb w12) := Lib.hid (Ext.grown (by (repeat (first | (with_reducible exact x9.out) | (with_reducible apply Ext.drew) | (with_reducible apply Ext.drewN) | (with_reducible apply Ext.alloc)))) g12 (fun k' hk' => (o9.lt k' hk').1)); obtain ⟨a12, n12, c12, hv12, hn12⟩ := (RV.of_own (l := L ++ [S]) (by rw [cells_app]; exact o12)).1.form; subst hv12; clear hn12; have H12 : Hid (RV w12 (.slice a12 n12 c12) (L ++ [S])) := Lib.hid (RV.of_own (l := L ++ [S]) (by rw [cells_app]; exact o12)).1; have p1 := x12.out.cell q0_1; have p2 := x12.out.cell q0_2; have p3 := HFr.out _ x12.out; have p4 := x12.out.cell q0_3; have p5 := x12.out.cell q0_4; have p6 := x12.out.cell q0_5; have p7 := x12.out.cell q0_6; have p8 := x12.out.cell q0_7)) | ((refine step_app_st (by rfl) (.tmp 35) (.tmp 37) (by rfl) wb.heap.size v9 (0 + mI) ([] ++ cells L) (by rfl) ?_ (wb.heap.size) 1 1 [S] (by rfl) rfl ?_ ?_ ?_ ?_; (focus (refine own_extz o9 ?_; (repeat (first | (with_reducible exact Ext.refl _) | (with_reducible apply Ext.drew) | (with_reducible apply Ext.drewN) | (with_reducible apply Ext.alloc))))); (focus (refine RO.of_blk1 (s := S) ((g9.block _ (by simp <;> omega) (by simp [Value.ownBlock] <;> omega)).trans ?_); (repeat (first | (with_reducible exact blk_at rfl) | (with_reducible refine blk_at ?_; simp; done) | (with_reducible apply blk_drew) | (with_reducible apply blk_drewN) | (with_reducible apply blk_old))))); (focus omega); (focus (have := x9.out.size; simp; omega)); intro v12 w12 o12 g12; have x12 : Hid (Ext wb w12) := Lib.hid (Ext.grown (by (repeat (first | (with_reducible exact x9.out) | (with_reducible apply Ext.drew) | (with_reducible apply Ext.drewN) | (with_reducible apply Ext.alloc)))) g12 (fun k' hk' => (o9.lt k' hk').1)); obtain ⟨a12, n12, c12, hv12, hn12⟩ := (RV.of_own (l := L ++ [S]) (by rw [cells_app]; exact o12)).1.form; subst hv12; clear hn12; have H12 : Hid (RV w12 (.slice a12 n12 c12) (L ++ [S])) := Lib.hid (RV.of_own (l := L ++ [S]) (by rw [cells_app]; exact o12)).1; have p1 := x12.out.cell q0_1; have p2 := x12.out.cell q0_2; have p3 := HFr.out _ x12.out; have p4 := x12.out.cell q0_3; have p5 := x12.out.cell q0_4; have p6 := x12.out.cell q0_5; have p7 := x12.out.cell q0_6; have p8 := x12.out.cell q0_7)))
    all_goals
      go_wp2_with fail
      go_meet
      case rel => exact HFin.out _ _ x12.out H12.out
  case rest =>
    rw [HR.out] at hcut
    obtain ⟨hco, hq, hb5⟩ := hcut
    have hlen2 : (more rows I S).length = M := by unfold more; rw [List.length_set]; exact HLen.out
    have hmi := more_in HOk.out (show I < rows.length by rw [HLen.out]; exact hIM) HS1.out
    have hme := fun h0 h3 => more_err HOk.out (show I < rows.length by rw [HLen.out]; exact hIM) h0 HS1.out h3
    obtain ⟨cc2, hrr⟩ := hco.rr
    have k2 := fun w' (x : Ext wc w') => RCLoads_calls _ _ _ w' (hrr.ext x) hmi
    have k5 := fun w' (x : Ext wc w') => CCheck_calls _ _ _ w' (hrr.ext x)
    obtain ⟨E, hE⟩ : ∃ E, E = (cloads (more rows I S)).1 := ⟨_, rfl⟩
    rw [← hE] at hme k2 k5
    have d1 : wc.cell? ⟨w1.heap.size, 0, none⟩ = some (.slice (some ⟨gR, 0, none⟩) M cR) := by simp [World.cell?, hq]
    have d2 : wc.cell? ⟨w4.heap.size, 0, none⟩ = some (.int .u8 S.k) := by have := hb5.at.1; exact this
    have K2 := Lib.hid k2; have K5 := Lib.hid k5; have HD1b := Lib.hid (fun w' (x : Ext wc w') => x.cell d1); have HD2 := Lib.hid (fun w' (x : Ext wc w') => x.cell d2); have XC := Lib.hid hco.1; have Hme := Lib.hid hme
    have y1 := Lib.hid (Ext.refl wc)
    clear hco hq hb5 hlen2 hmi hme hrr k2 k5 hE d2 q0_1 q0_2 q0_3 q0_4 q0_5 q0_6 q0_7 r1 r2 t5
    go_wp2_with fail
    refine ((K2.out _ y1.out)).mono ?_
    rintro e w5 ⟨vl, cl, rfl, _, x⟩
    have X5 := Lib.hid (y1.out.trans x)
    clear d1
    have d1 := HD1b.out _ X5.out
    clear x
    go_wp2_with fail
    refine ((K5.out _ X5.out)).mono ?_
    rintro e w6 ⟨rfl, x⟩
    have X6 := Lib.hid (X5.out.trans x)
    clear d1
    have d2 := HD2.out _ X6.out
    clear x
    have hEE : (E != E) = false := by rw [bne, beq_iff_eq.2 rfl]; rfl
    have HK6 := Lib.hid (K6.out _ (XC.out.trans X6.out))
    by_cases h0 : I = 0
    · have u1 : ¬ (0 : Int) < (I : Int) := by omega
      have u2 : ¬ 0 < I := by omega
      clear h0 hIM
      go_wp2_with fail
      refine HK6.out.mono ?_
      rintro e w8 ⟨rfl, x⟩
      have X8 := Lib.hid (XC.out.trans (X6.out.trans x))
      clear x HK6
      go_wp2
      go_ret
      exact ⟨rfl, X8.out⟩
    · have u1 : (0 : Int) < (I : Int) := by omega
      have u2 : 0 < I := by omega
      by_cases h3 : S.k = 3
      · have u3 : (S.k != 3) = false := by rw [bne, beq_iff_eq.2 h3]; rfl
        clear h0 h3 hIM
        go_wp2_with fail
        refine HK6.out.mono ?_
        rintro e w8 ⟨rfl, x⟩
        have X8 := Lib.hid (XC.out.trans (X6.out.trans x))
        clear x HK6
        go_wp2
        go_ret
        exact ⟨rfl, X8.out⟩
      · have u3 : (S.k != 3) = true := by rw [bne, beq_eq_false_iff_ne.2 h3]; rfl
        have u4 : (E == 0) = false := beq_eq_false_iff_ne.2 (Hme.out u2 h3)
        clear h0 h3 hIM
        go_wp2_with fail
        refine HK6.out.mono ?_
        rintro e w8 ⟨rfl, x⟩
        have X8 := Lib.hid (XC.out.trans (X6.out.trans x))
        clear x HK6
        go_wp2
        go_ret
        exact ⟨rfl, X8.out⟩
end Go.Proofs.YtkolebjpeaigcaaDoor
/- What charts as plain data read as. -/
namespace Go.Proofs.YtkolebjpeaigcaaDoor
set_option linter.unusedVariables false
set_option linter.unusedSimpArgs false
set_option maxRecDepth 100000
open Go Go.RowKit Go.ChangeShapes Go.WideShapes Go.ChangeAt

section
variable {H : Type} {enc : TypeId × Value → H} {w : World} {base : Nat} {held : Bool}
theorem rows8_in {P : Program} {t e q : TypeId} {fuel : Nat} {v : Value} {x : DataW H × List MemPlace} (ht : P.underlying t = some (.slice e)) (he : P.underlying e = some (.slice q)) (hq : P.underlying q = some (.int .u8)) (ce : P.cellsOf e = 1) (cq : P.cellsOf q = 1)
    (h : DataW.trod enc P w base (fun _ => true) held fuel t [v] = some x) : ∃ c rows, ISS .u8 w v c rows ∧ ∀ k, k < rows.length → ∀ i, i < (ri rows k).length → 0 ≤ gi (ri rows k) i ∧ gi (ri rows k) i ≤ 255 := by
  rcases Deep.open_int_rows ht he hq ce cq h with ⟨hcs, _⟩ | ⟨a, len, cap, A, L, C, Z, hcs, _, hl, hm, _, hx⟩
  · obtain rfl : v = .slice none 0 0 := by simpa using hcs
    exact ⟨0, [], ISS.nil _ _, fun k hk => by simp at hk⟩
  · obtain rfl : v = .slice (some a) len cap := by simpa using hcs
    have hri : ∀ i, i < len → ri ((List.range len).map fun r => (Z r).take (L r)) i = (Z i).take (L i) := fun i hi => ri_range_map _ hi
    by_cases h0 : cap = 0
    · have : len = 0 := by omega
      subst this; subst h0
      exact ⟨0, [], ⟨fun _ => undef, fun _ => 0, ⟨some a, rfl, Nat.le_refl _, by unfold maxLen; omega, fun h => (by cases h), fun b hb => ⟨fun h => absurd h (by omega), fun j u hj => by simp at hj⟩⟩, fun i hi => by simp at hi⟩, fun k hk => by simp at hk⟩
    · obtain ⟨b, o, hao⟩ : ∃ b o, a = ⟨b, o, none⟩ := by
        have := (hx 0 (by omega)).1
        rw [show a.add 0 = a from by simp [Addr.add]] at this
        exact spot_of this
      subst hao
      refine ⟨cap, (List.range len).map (fun r => (Z r).take (L r)), ⟨fun r => .slice (A r) (L r) (C r), C, ISV.mk' (by simp) hl hm (fun i hi => ?_) fun i hi => ?_⟩, fun k hk i hi => ?_⟩
      · have := (hx i (by omega)).1
        rwa [Addr.add_lit] at this
      · rw [hri i hi]
        obtain ⟨_, g1, g2, g3, g4, g5, g6⟩ := hx i (by omega)
        refine ⟨A i, by simp; omega, by simp; omega, g2, g5, fun a' ha' => ?_⟩
        obtain ⟨_, hcell⟩ := g6 a' ha'
        by_cases hc0 : C i = 0
        · exact ⟨fun h => absurd h (by omega), fun j u hj => by
            have : ((Z i).take (L i)).length = 0 := by simp; omega
            rw [List.eq_nil_of_length_eq_zero this] at hj; simp at hj⟩
        · obtain ⟨b', o', hao'⟩ : ∃ b o, a' = ⟨b, o, none⟩ := by
            have := hcell 0 (by omega)
            rw [show a'.add 0 = a' from by simp [Addr.add]] at this
            exact spot_of this
          subst hao'
          refine ⟨fun _ => rfl, fun j u hj => ?_⟩
          rw [List.getElem?_map, List.getElem?_take] at hj
          split at hj
          · have hjl : j < (Z i).length := by omega
            rw [List.getElem?_eq_getElem hjl] at hj
            have := hcell j (by omega)
            rw [Addr.add_lit] at this
            rw [this, ← Option.some.inj hj]
            simp [List.getD, hjl]
          · cases hj
      · have hk' : k < len := by simpa using hk
        rw [hri k hk'] at hi ⊢
        obtain ⟨_, _, _, _, g5, _⟩ := hx k (by omega)
        have hm := gi_mem hi
        exact wf8 (g5 _ (List.mem_of_mem_take hm))
end
/-- A chart as plain data, as it comes in. -/
def CIn (w : World) (v : Value) : Prop := ∃ f u c chs, v = .agg #[.int .u8 f, u] ∧ ISS .u8 w u c chs ∧ (0 ≤ f ∧ f ≤ 255) ∧ ∀ k, k < chs.length → ∀ i, i < (ri chs k).length → 0 ≤ gi (ri chs k) i ∧ gi (ri chs k) i ≤ 255
theorem open_C {H : Type} {enc : TypeId × Value → H} {w : World} {b0 : Nat} {v : Value} {d : DataW H} {p : List MemPlace}
    (hv : Value.okWide Tryd.prog w .any b0 24 v) (h : DataW.Trod enc Tryd.prog w 0 (fun _ => true) true 24 v d p) : CIn w v := by
  obtain ⟨v0, v1, y0, y1, n, rfl, _, _, g0, g1⟩ := Joins.open_agg2 Tryd.underlying24 (by kernel_rfl) (show Tryd.prog.cellsOf 24 = 2 by kernel_rfl) hv h
  obtain ⟨f, hf, _, wf⟩ := DataW.trod_int Tryd.underlying5 g0
  obtain rfl : v0 = .int .u8 f := by simpa using hf
  obtain ⟨c, st, h1, h2⟩ := rows8_in Tryd.underlying22 Tryd.underlying59 Tryd.underlying5 (by kernel_rfl) (by kernel_rfl) g1
  exact ⟨f, v1, c, st, rfl, h1, wf8 wf, h2⟩
end Go.Proofs.YtkolebjpeaigcaaDoor
