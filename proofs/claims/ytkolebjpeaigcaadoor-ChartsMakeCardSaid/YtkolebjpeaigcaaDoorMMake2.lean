/- Texts of this claim in one file: libraries and walks. -/
import Derived.Test.YtkolebjpeaigcaaDoorL7
import Derived.Test.YtkolebjpeaigcaaDoorL9
import Derived.Test.YtkolebjpeaigcaaDoorMMake1
/- A row of a chart of the call's own is changed: what is needed for ChartsMake. -/
namespace Go.Proofs.YtkolebjpeaigcaaDoor
set_option linter.unusedVariables false
set_option linter.unusedSimpArgs false
set_option maxRecDepth 8000
open Go Go.RowKit

/-- 'append(s, x...)' of stitches as a step of a region that draws its order. -/
theorem step_app_st {w : World} {ops : Array Oper} {o : Oper} {a : Act} {K : Act → World → Prop} {Q : Exit → Act → World → Prop} {E : Prop}
    (hg : o.guard = none) (s x : Operand) (hop : o.op = Op.call { callee := Callee.builtin Builtin.append, args := #[s, x], argTypes := #[37, 37] })
    (B : Nat) (v : Value) (n : Nat) (xs : List Value) (hs : a.eval s = v) (hown : w.ownsRow B 33 5 v n xs)
    (g c m : Nat) (l : List St) (hx : a.eval x = .slice (some ⟨g, 0, none⟩) m c) (hm : m = l.length) (hR : RO w g c l)
    (hlen : n + m ≤ 1000000) (hB : B ≤ w.heap.size)
    (hK : ∀ v' w', w'.ownsRow B 33 5 v' (n + m) (xs ++ cells l) → w.grownBy w' v.ownBlock → K (a.put o.dst v') w') :
    if Region.wanted o (yielded ops a.tmps) = true then Oper.wp Tryd.prog o a w K Q else E := by
  have hw : Region.wanted o (yielded ops a.tmps) = true := by simp [Region.wanted, hg]
  rw [if_pos hw]
  obtain ⟨i, hi, hzz⟩ := Option.map_eq_some_iff.1 (show (Tryd.prog.info? 33).map (fun i => (i.zero, i.size, i.bytes)) = some (some (.agg z5), 5, 32) by kernel_rfl)
  simp only [Prod.mk.injEq] at hzz
  obtain ⟨hz, hsz, hb⟩ := hzz
  obtain ⟨v', w', hrun, r1, r2, _⟩ := run_append_own (P := Tryd.prog) (w := w) B 37 o.type 33 i (.agg z5) 5 32 Tryd.underlying37 hi hz hsz hb rfl (by decide) v n xs hown ⟨g, 0, none⟩ m c (cells l) (by rw [cells_len, hm]) hR.news (cs_one l) (by unfold maxLen; omega) (by omega) hB
  unfold Oper.wp
  simp [execOp, hop, resolve, invoke, builtin, hs, hx, hrun, Result.andThen]
  exact hK _ w' r1 r2
theorem own0z {w : World} {B g z : Nat} {e : TypeId} (hb : w.heap[g]? = some (.cells #[] e (0, 0))) (hB : B ≤ g) : w.ownsRow B e z (.slice (some ⟨g, 0, none⟩) 0 0) 0 [] :=
  ⟨by simp, .inr ⟨g, 0, #[], rfl, hB, hb, Nat.le_refl _, by unfold maxLen; omega, by simp, by simp⟩⟩
theorem sw_set {rows : List (List St)} {k i : Nat} {l : List St} (hk : k < rows.length) : sw (rows.set k l) i = if i = k then l else sw rows i := by
  unfold sw
  by_cases h : i = k
  · subst h; simp [List.getD, hk]
  · rw [if_neg h]
    simp only [List.getD]
    rw [List.getElem?_set_ne (by omega)]
/-- A row of the chart is replaced. -/
theorem CO.setRow {w wr : World} {g n c k : Nat} {u : Value} {rows : List (List St)} {l : List St} (h : CO w wr (.slice (some ⟨g, 0, none⟩) n c) rows) (hk : k < rows.length) (hu : RV wr u l) :
    CO w (wr.setCell ⟨g, k, none⟩ u) (.slice (some ⟨g, 0, none⟩) n c) (rows.set k l) := by
  obtain ⟨h1, vs, h2, h3⟩ := h
  have hvl : vs.length = rows.length := by have := h2.1; omega
  obtain ⟨hl, ⟨hv, _⟩ | ⟨g', cap, cur, hv, hB, hb, hnc, hm, hsz, htk⟩⟩ := h2
  · cases hv
  · simp only [Value.slice.injEq, Option.some.injEq, Addr.mk.injEq] at hv
    obtain ⟨⟨rfl, _⟩, rfl, rfl⟩ := hv
    have hlt := lt_of_block hb
    have h' : wr.heap[g] = .cells cur 37 (0, 0) := by simpa [Array.getElem?_eq_getElem hlt] using hb
    have hnew : (wr.setCell ⟨g, k, none⟩ u).heap[g]? = some (.cells (cur.setIfInBounds k u) 37 (0, 0)) := by
      show (wr.heap.modify g _)[g]? = _
      rw [Array.getElem?_eq_getElem (by simpa using hlt), Array.getElem_modify_self, h']
      rfl
    refine ⟨h1.setCell hB _, vs.set k u, ⟨by rw [List.length_set, List.length_set]; exact hl, .inr ⟨g, c, _, by rw [List.length_set], hB, hnew, by rw [List.length_set]; exact hnc, hm, by rw [Array.size_setIfInBounds]; exact hsz, ?_⟩⟩, fun i hi => ?_⟩
    · rw [List.length_set, Array.toList_setIfInBounds]
      rw [Nat.mul_one] at htk ⊢
      rw [List.take_set, htk]
    · rw [List.length_set] at hi
      obtain ⟨u', a, b⟩ := h3 i hi
      rw [sw_set hk]
      by_cases e : i = k
      · subst e
        rw [if_pos rfl]
        exact ⟨u, by simp [hvl, hk], hu.setOther hb (by decide)⟩
      · rw [if_neg e]
        exact ⟨u', by rw [List.getElem?_set_ne (by omega)]; exact a, b.setOther hb (by decide)⟩
theorem Ext.base {a b : World} (h : Ext a b) : True := trivial
/-- A stitch more at the end of a row. -/
def more (rows : List (List St)) (i : Nat) (s : St) : List (List St) := rows.set i (sw rows i ++ [s])
theorem more_err {rows : List (List St)} {i : Nat} {s : St} (h : (cloads rows).1 = 0) (hi : i < rows.length) (h0 : 0 < i) (hs : s.chk = 0) (h3 : s.k ≠ 3) : (cloads (more rows i s)).1 ≠ 0 := by
  intro hc
  obtain ⟨a1, a2, a3, a4⟩ := cerr_zero (show cerr rows = 0 by
    by_cases e : cerr rows = 0
    · exact e
    · unfold cloads at h; rw [if_pos e] at h; exact absurd h e)
  obtain ⟨b1, b2, b3, b4⟩ := cerr_zero (show cerr (more rows i s) = 0 by
    by_cases e : cerr (more rows i s) = 0
    · exact e
    · unfold cloads at hc; rw [if_pos e] at hc; exact absurd hc e)
  have hl : (more rows i s).length = rows.length := by unfold more; rw [List.length_set]
  have q := b4 (i - 1) (by rw [hl]; omega)
  have q2 := a4 (i - 1) (by omega)
  rw [show i - 1 + 1 = i by omega] at q q2
  have e1 : sw (more rows i s) i = sw rows i ++ [s] := by unfold more; rw [sw_set hi, if_pos rfl]
  have e2 : sw (more rows i s) (i - 1) = sw rows (i - 1) := by unfold more; rw [sw_set hi, if_neg (by omega)]
  rw [e1, e2, rneed_snoc] at q
  have hn : s.need = if s.k = 3 then 0 else if s.k = 4 ∨ s.k = 5 then 2 else if s.k = 8 then s.a + s.b else 1 := by unfold St.need; rw [if_neg (by omega)]
  have hok := (St.chk_ok hs).2.2
  rw [if_neg h3] at hn
  by_cases e4 : s.k = 4 ∨ s.k = 5
  · rw [if_pos e4] at hn; omega
  · rw [if_neg e4] at hn
    by_cases e8 : s.k = 8
    · rw [if_pos e8] at hn; omega
    · rw [if_neg e8] at hn; omega
theorem more_in {rows : List (List St)} {i : Nat} {s : St} (h : (cloads rows).1 = 0) (hi : i < rows.length) (hs : s.chk = 0) : ∀ k, k < (more rows i s).length → ∀ j, j < (sw (more rows i s) k).length → 0 ≤ (si (sw (more rows i s) k) j).k ∧ 0 ≤ (si (sw (more rows i s) k) j).y := by
  obtain ⟨a1, a2, a3, a4⟩ := cerr_zero (show cerr rows = 0 by
    by_cases e : cerr rows = 0
    · exact e
    · unfold cloads at h; rw [if_pos e] at h; exact absurd h e)
  have hl : (more rows i s).length = rows.length := by unfold more; rw [List.length_set]
  have hg : ∀ k, k < rows.length → ∀ x ∈ sw rows k, 0 ≤ x.k ∧ 0 ≤ x.y := fun k hk x hx => by
    obtain ⟨j, hj, rfl⟩ := List.mem_iff_getElem.1 hx
    have := St.chk_ok ((rchk_zero (a3 k hk)).2.2.1 j hj)
    rw [si_of_lt hj] at this
    omega
  intro k hk j hj
  rw [hl] at hk
  have hm := si_mem hj
  unfold more at hm ⊢
  rw [sw_set hi] at hm ⊢
  by_cases e : k = i
  · rw [if_pos e] at hm ⊢
    rcases List.mem_append.1 hm with hm | hm
    · exact hg i hi _ hm
    · rw [List.mem_singleton.1 hm]
      have := St.chk_ok hs
      omega
  · rw [if_neg e] at hm ⊢
    exact hg k hk _ hm
end Go.Proofs.YtkolebjpeaigcaaDoor
/- ganseylaw13.small; the law ChartsSame, walked. -/
namespace Go.Proofs.YtkolebjpeaigcaaDoor
set_option linter.unusedVariables false
set_option linter.unusedSimpArgs false
set_option maxRecDepth 8000
open Go Go.RowKit

/-- 1 for a small chart. -/
def sml (rows : List (List St)) : Int := if 40 < rows.length then 0 else if rows.any (fun r => decide (40 < r.length)) then 0 else 1
theorem sml_long {rows : List (List St)} (h : 40 < rows.length) : sml rows = 0 := if_pos h
theorem sml_bad {rows : List (List St)} (h : rows.length ≤ 40) {k : Nat} (hk : k < rows.length) (hb : 40 < (sw rows k).length) : sml rows = 0 := by
  unfold sml
  rw [if_neg (by omega), if_pos]
  rw [List.any_eq_true]
  exact ⟨sw rows k, by rw [sw_of_lt hk]; exact List.getElem_mem hk, by simpa using hb⟩
theorem sml_ok {rows : List (List St)} (h : rows.length ≤ 40) (hg : ∀ k, k < rows.length → (sw rows k).length ≤ 40) : sml rows = 1 := by
  unfold sml
  rw [if_neg (by omega), if_neg]
  rw [List.any_eq_true]
  rintro ⟨r, hr, hb⟩
  obtain ⟨i, hi, rfl⟩ := List.mem_iff_getElem.1 hr
  have := hg i hi
  rw [sw_of_lt hi] at this
  simp at hb; omega
theorem sml_one {rows : List (List St)} (h : sml rows ≠ 0) : rows.length ≤ 40 ∧ ∀ k, k < rows.length → (sw rows k).length ≤ 40 := by
  by_cases h1 : 40 < rows.length
  · exact absurd (sml_long h1) h
  · refine ⟨by omega, fun k hk => ?_⟩
    by_cases h2 : 40 < (sw rows k).length
    · exact absurd (sml_bad (by omega) hk h2) h
    · omega
theorem sml_cases (rows : List (List St)) : sml rows = 0 ∨ sml rows = 1 := by unfold sml; (repeat' split) <;> simp

set_option maxHeartbeats 1000000 in
theorem small_calls (v : Value) (c : Nat) (rows : List (List St)) (w : World) (h : RR w v c rows) : Calls Tryd.prog 14 #[.agg #[v]] w fun e w' => e = .returned (.int .i64 (sml rows)) ∧ Ext w w' := by
  obtain ⟨ao, n, rfl, hn, hc, hcm, hat⟩ := h.open
  unfold maxLen at hcm
  obtain ⟨W, hW⟩ : ∃ W, W = w.alloc (.cells #[.slice ao n c] 27) := ⟨_, rfl⟩
  have xW : Ext w W := by rw [hW]; exact (Ext.refl w).alloc _
  have b0 : W.cell? ⟨w.heap.size, 0, none⟩ = some (.slice ao n c) := by rw [hW, World.cell?_alloc_at (hn := rfl)]; rfl
  have HBx := Lib.hid (fun w' (x : Ext W w') => x.cell b0); have XW := Lib.hid xW; have HA := Lib.hid hat; have HW := Lib.hid hW
  have hsl : 40 < n → sml rows = 0 := fun h => sml_long (by omega)
  have hsb : n ≤ 40 → ∀ k, k < n → 40 < (sw rows k).length → sml rows = 0 := fun h k hk hb => sml_bad (by omega) (by omega) hb
  have hsg : n ≤ 40 → (∀ k, k < n → (sw rows k).length ≤ 40) → sml rows = 1 := fun h hg => sml_ok (by omega) (fun k hk => hg k (by omega))
  generalize sml rows = S at *
  rw [hW] at b0
  by_cases h40 : 40 < n
  · have h40' : (40 : Int) < n := by omega
    have hS := hsl h40
    subst hS
    clear hat h hn hsl hsb hsg xW hW h40
    go_enter Tryd.func14, Tryd.ntmps14
    go_wp2
    rw [← HW.out]
    go_ret
    exact ⟨rfl, XW.out⟩
  have h40' : ¬ (40 : Int) < n := by omega
  have HSb := Lib.hid (hsb (by omega)); have HSg := Lib.hid (hsg (by omega))
  clear hat h hn hsl hsb hsg xW hW
  go_enter Tryd.func14, Tryd.ntmps14
  go_wp2
  rw [← HW.out]
  clear b0 HW
  go_loopw [3] (fun i wr => ∃ k : Nat, k ≤ n ∧ i = .int .i64 k ∧ Hid (Ext W wr) ∧ Hid (∀ i, i < k → (sw rows i).length ≤ 40)) (fun i _ => n - (intOf i).toNat)
  case atStart => exact ⟨0, Nat.zero_le _, rfl, Lib.hid (Ext.refl _), Lib.hid (fun i hi => by omega)⟩
  case round =>
    obtain ⟨k, hk, rfl, HX, HG⟩ := hrel
    have b1 := HBx.out _ HX.out
    by_cases hlt : k < n
    · obtain ⟨b, o, a, m, d, rfl, hc0, hr0⟩ := HA.out k hlt
      replace hc0 := (XW.out.trans HX.out).cell hc0
      obtain ⟨_, _, e1, e2, _⟩ := hr0.open
      simp only [Value.slice.injEq] at e1
      obtain ⟨rfl, rfl, _⟩ := e1
      have He2 := Lib.hid e2
      clear hr0 e2
      by_cases hm : 40 < m
      · have hm' : (40 : Int) < m := by omega
        have hS := HSb.out k hlt (by have := He2.out; omega)
        subst hS
        clear hm
        go_wp2
        go_ret
        exact ⟨rfl, XW.out.trans HX.out⟩
      · have hm' : ¬ (40 : Int) < m := by omega
        have HG2 := Lib.hid (show ∀ i, i < k + 1 → (sw rows i).length ≤ 40 from fun i hi => by
          by_cases e : i = k
          · rw [e]; have := He2.out; omega
          · exact HG.out i (by omega))
        clear hm
        go_wp2
        go_roundw
        case rel => exact ⟨k + 1, by omega, by go_num, HX, HG2⟩
        case measure => simp [intOf]; omega
    · obtain rfl : n = k := by omega
      have hS := HSg.out HG.out
      subst hS
      have hlt' : ¬ (n : Int) < (n : Int) := by omega
      go_wp2
      go_ret
      exact ⟨rfl, XW.out.trans HX.out⟩

set_option maxHeartbeats 4000000 in
theorem ChartsSame_walk (v1 v2 : Value) (c1 c2 : Nat) (l m : List (List St)) (w : World) (h1 : RR w v1 c1 l) (h2 : RR w v2 c2 m) (hy : Sy w) (hm : Mx w) :
    Calls Tryd.prog 6 #[.agg #[v1], .agg #[v2]] w fun e w' => e = .returned (.bool true) ∧ Ext w w' := by
  have k1 := fun w' (x : Ext w w') => small_calls v1 c1 l w' (h1.ext x)
  have k2 := fun w' (x : Ext w w') => small_calls v2 c2 m w' (h2.ext x)
  have k3 := fun w' (x : Ext w w') => CSame_calls v1 v2 c1 c2 l m w' (h1.ext x) (h2.ext x)
  have k4 := fun w' (x : Ext w w') => Differ_calls v1 v2 c1 c2 l m w' (h1.ext x) (h2.ext x)
  have k5 := fun w' (x : Ext w w') => CSame_calls v1 v1 c1 c1 l l w' (h1.ext x) (h1.ext x)
  have k6 := fun w' (x : Ext w w') => lives13_calls w' (hy.ext x) (hm.ext x)
  rw [decide_eq_true (rfl : l = l)] at k5
  obtain ⟨a1, n1, rfl, hn1⟩ := h1.open
  obtain ⟨a2, n2, rfl, hn2⟩ := h2.open
  clear hn1 hn2
  obtain ⟨W, hW⟩ : ∃ W, W = (w.alloc (.cells #[.slice a1 n1 c1] 27)).alloc (.cells #[.slice a2 n2 c2] 27) := ⟨_, rfl⟩
  have xW : Ext w W := by rw [hW]; exact ((Ext.refl w).alloc _).alloc _
  have b1 : W.heap[w.heap.size]? = some (.cells #[.slice a1 n1 c1] 27 (0, 0)) := by rw [hW]; exact blk_old (blk_at rfl)
  have b2 : W.heap[w.heap.size + 1]? = some (.cells #[.slice a2 n2 c2] 27 (0, 0)) := by rw [hW]; exact blk_at (by simp)
  have d1 : W.cell? ⟨w.heap.size, 0, none⟩ = some (.slice a1 n1 c1) := by simp [World.cell?, b1]
  have d2 : W.cell? ⟨w.heap.size + 1, 0, none⟩ = some (.slice a2 n2 c2) := by simp [World.cell?, b2]
  have HD1 := Lib.hid (fun w' (x : Ext W w') => x.cell d1); have HD2 := Lib.hid (fun w' (x : Ext W w') => x.cell d2)
  have XW := Lib.hid xW; have HW := Lib.hid hW
  have K1 := Lib.hid k1; have K2 := Lib.hid k2; have K5 := Lib.hid k5; have K6 := Lib.hid k6
  rw [hW] at d1 d2
  have hs1 := sml_cases l
  have hs2 := sml_cases m
  have hdm : (decide (l = m) = true ∧ dif l m = 0) ∨ (decide (l = m) = false ∧ dif l m = 1) := by
    by_cases e : l = m
    · exact .inl ⟨decide_eq_true e, if_pos e⟩
    · exact .inr ⟨decide_eq_false e, if_neg e⟩
  generalize sml l = S1 at *
  generalize sml m = S2 at *
  have K3 := Lib.hid k3; have K4 := Lib.hid k4
  clear k1 k2 k3 k4 k5 k6 h1 h2 hy hm xW hW b1 b2
  go_enter Tryd.func6, Tryd.ntmps6
  go_wp2_with fail
  rw [← HW.out]
  refine (K1.out _ XW.out).mono ?_
  rintro e w1 ⟨rfl, x1⟩
  have X1 := Lib.hid x1
  have e1 := HD1.out _ x1; have e2 := HD2.out _ x1
  clear x1 d1 d2 HW
  rcases hs1 with rfl | rfl
  · go_wp2
    go_ret
    exact ⟨rfl, XW.out.trans X1.out⟩
  · go_wp2_with fail
    refine (K2.out _ (XW.out.trans X1.out)).mono ?_
    rintro e w2 ⟨rfl, x2⟩
    have X2 := Lib.hid (X1.out.trans x2)
    have q0_1 := HD1.out _ X2.out; have q0_2 := HD2.out _ X2.out
    clear x2 e1 e2
    rcases hs2 with rfl | rfl
    · go_wp2
      go_ret
      exact ⟨rfl, XW.out.trans X2.out⟩
    · have XX := Lib.hid (XW.out.trans X2.out)
      rcases hdm with ⟨z1, z2⟩ | ⟨z1, z2⟩
      all_goals
        have K3b := K3.out; have K4b := K4.out
        rw [z1] at K3b
        rw [z2] at K4b
        have K3c := Lib.hid K3b; have K4c := Lib.hid K4b
        clear K3b K4b K3 K4 z1 z2
        go_wp2
        go_region_held3 (fun w' => w'.cell? ⟨w.heap.size, 0, Option.none⟩ = some (.slice a1 n1 c1) ∧ w'.cell? ⟨w.heap.size + 1, 0, Option.none⟩ = some (.slice a2 n2 c2)) (first | exact ⟨q0_1, q0_2⟩ | exact ⟨q1_1, q1_2⟩ | exact ⟨q2_1, q2_2⟩ | exact ⟨q3_1, q3_2⟩ | exact ⟨q4_1, q4_2⟩ | go_keep) (first
          | (go_at_call_of 26 (Value.slice a2 n2 c2); (refine (K3c.out _ ?_).mono ?_); (focus (refine Ext.trans XX.out ?_; (repeat (first | (with_reducible exact Ext.refl _) | (with_reducible apply Ext.drew) | (with_reducible apply Ext.drewN) | (with_reducible apply Ext.alloc))))); intro e wa hh; obtain ⟨rfl, x⟩ := hh; have Xa : Hid (Ext w2 wa) := Lib.hid (Ext.trans (by (repeat (first | (with_reducible exact Ext.refl _) | (with_reducible apply Ext.drew) | (with_reducible apply Ext.drewN) | (with_reducible apply Ext.alloc)))) x); have q1_1 := Xa.out.cell q0_1; have q1_2 := Xa.out.cell q0_2; clear x)
          | (go_at_call 18; (refine (K4c.out _ ?_).mono ?_); (focus (refine Ext.trans (XX.out.trans Xa.out) ?_; (repeat (first | (with_reducible exact Ext.refl _) | (with_reducible apply Ext.drew) | (with_reducible apply Ext.drewN) | (with_reducible apply Ext.alloc))))); intro e wb hh; obtain ⟨rfl, x⟩ := hh; have Xb : Hid (Ext w2 wb) := Lib.hid (Ext.trans Xa.out (Ext.trans (by (repeat (first | (with_reducible exact Ext.refl _) | (with_reducible apply Ext.drew) | (with_reducible apply Ext.drewN) | (with_reducible apply Ext.alloc)))) x)); have q2_1 := Xb.out.cell q0_1; have q2_2 := Xb.out.cell q0_2; clear x)
          | (go_at_call 26; (refine (K5.out _ ?_).mono ?_); (focus (refine Ext.trans (XX.out.trans Xb.out) ?_; (repeat (first | (with_reducible exact Ext.refl _) | (with_reducible apply Ext.drew) | (with_reducible apply Ext.drewN) | (with_reducible apply Ext.alloc))))); intro e wd hh; obtain ⟨rfl, x⟩ := hh; have Xd : Hid (Ext w2 wd) := Lib.hid (Ext.trans Xb.out (Ext.trans (by (repeat (first | (with_reducible exact Ext.refl _) | (with_reducible apply Ext.drew) | (with_reducible apply Ext.drewN) | (with_reducible apply Ext.alloc)))) x)); have q3_1 := Xd.out.cell q0_1; have q3_2 := Xd.out.cell q0_2; clear x)
          | (go_at_call 13; (refine (K6.out _ ?_).mono ?_); (focus (refine Ext.trans (XX.out.trans Xd.out) ?_; (repeat (first | (with_reducible exact Ext.refl _) | (with_reducible apply Ext.drew) | (with_reducible apply Ext.drewN) | (with_reducible apply Ext.alloc))))); intro e we hh; obtain ⟨rfl, x⟩ := hh; have Xe : Hid (Ext w2 we) := Lib.hid (Ext.trans Xd.out (Ext.trans (by (repeat (first | (with_reducible exact Ext.refl _) | (with_reducible apply Ext.drew) | (with_reducible apply Ext.drewN) | (with_reducible apply Ext.alloc)))) x)); have q4_1 := Xe.out.cell q0_1; have q4_2 := Xe.out.cell q0_2; clear x))
        go_wp2
        go_ret
        exact ⟨rfl, XX.out.trans Xe.out⟩
end Go.Proofs.YtkolebjpeaigcaaDoor
