/- Texts of this claim in one file: libraries and walks. -/
import Derived.Test.YtkolebjpeaigcaaDoorL3
import Derived.Test.YtkolebjpeaigcaaDoorL5
import Derived.Test.YtkolebjpeaigcaaDoorL7
import Derived.Test.YtkolebjpeaigcaaDoorL8
import Derived.Test.YtkolebjpeaigcaaDoorL9
/- ganseylaw13.small; the law ChartsSame, walked. -/
namespace Go.Proofs.YtkolebjpeaigcaaDoor
set_option linter.unusedVariables false
set_option linter.unusedSimpArgs false
set_option maxRecDepth 8000
open Go Go.RowKit

/-- 1 for a small chart. -/
def sml (rows : List (List St)) : Int := if 40 < rows.length then 0 else if rows.any (fun r => decide (40 < r.length)) then 0 else 1
theorem sml_long {rows : List (List St)} (h : 40 < rows.length) : sml rows = 0 := if_pos h
theorem sml_bad {rows : List (List St)} (h : rows.length ≤ 40) {k : Nat} (hk : k < rows.length) (hb : 40 < (sw rows k).length) : sml rows = 0 := by
  unfold sml
  rw [if_neg (by omega), if_pos]
  rw [List.any_eq_true]
  exact ⟨sw rows k, by rw [sw_of_lt hk]; exact List.getElem_mem hk, by simpa using hb⟩
theorem sml_ok {rows : List (List St)} (h : rows.length ≤ 40) (hg : ∀ k, k < rows.length → (sw rows k).length ≤ 40) : sml rows = 1 := by
  unfold sml
  rw [if_neg (by omega), if_neg]
  rw [List.any_eq_true]
  rintro ⟨r, hr, hb⟩
  obtain ⟨i, hi, rfl⟩ := List.mem_iff_getElem.1 hr
  have := hg i hi
  rw [sw_of_lt hi] at this
  simp at hb; omega
theorem sml_one {rows : List (List St)} (h : sml rows ≠ 0) : rows.length ≤ 40 ∧ ∀ k, k < rows.length → (sw rows k).length ≤ 40 := by
  by_cases h1 : 40 < rows.length
  · exact absurd (sml_long h1) h
  · refine ⟨by omega, fun k hk => ?_⟩
    by_cases h2 : 40 < (sw rows k).length
    · exact absurd (sml_bad (by omega) hk h2) h
    · omega
theorem sml_cases (rows : List (List St)) : sml rows = 0 ∨ sml rows = 1 := by unfold sml; (repeat' split) <;> simp

set_option maxHeartbeats 1000000 in
theorem small_calls (v : Value) (c : Nat) (rows : List (List St)) (w : World) (h : RR w v c rows) : Calls Tryd.prog 14 #[.agg #[v]] w fun e w' => e = .returned (.int .i64 (sml rows)) ∧ Ext w w' := by
  obtain ⟨ao, n, rfl, hn, hc, hcm, hat⟩ := h.open
  unfold maxLen at hcm
  obtain ⟨W, hW⟩ : ∃ W, W = w.alloc (.cells #[.slice ao n c] 27) := ⟨_, rfl⟩
  have xW : Ext w W := by rw [hW]; exact (Ext.refl w).alloc _
  have b0 : W.cell? ⟨w.heap.size, 0, none⟩ = some (.slice ao n c) := by rw [hW, World.cell?_alloc_at (hn := rfl)]; rfl
  have HBx := Lib.hid (fun w' (x : Ext W w') => x.cell b0); have XW := Lib.hid xW; have HA := Lib.hid hat; have HW := Lib.hid hW
  have hsl : 40 < n → sml rows = 0 := fun h => sml_long (by omega)
  have hsb : n ≤ 40 → ∀ k, k < n → 40 < (sw rows k).length → sml rows = 0 := fun h k hk hb => sml_bad (by omega) (by omega) hb
  have hsg : n ≤ 40 → (∀ k, k < n → (sw rows k).length ≤ 40) → sml rows = 1 := fun h hg => sml_ok (by omega) (fun k hk => hg k (by omega))
  generalize sml rows = S at *
  rw [hW] at b0
  by_cases h40 : 40 < n
  · have h40' : (40 : Int) < n := by omega
    have hS := hsl h40
    subst hS
    clear hat h hn hsl hsb hsg xW hW h40
    go_enter Tryd.func14, Tryd.ntmps14
    go_wp2
    rw [← HW.out]
    go_ret
    exact ⟨rfl, XW.out⟩
  have h40' : ¬ (40 : Int) < n := by omega
  have HSb := Lib.hid (hsb (by omega)); have HSg := Lib.hid (hsg (by omega))
  clear hat h hn hsl hsb hsg xW hW
  go_enter Tryd.func14, Tryd.ntmps14
  go_wp2
  rw [← HW.out]
  clear b0 HW
  go_loopw [3] (fun i wr => ∃ k : Nat, k ≤ n ∧ i = .int .i64 k ∧ Hid (Ext W wr) ∧ Hid (∀ i, i < k → (sw rows i).length ≤ 40)) (fun i _ => n - (intOf i).toNat)
  case atStart => exact ⟨0, Nat.zero_le _, rfl, Lib.hid (Ext.refl _), Lib.hid (fun i hi => by omega)⟩
  case round =>
    obtain ⟨k, hk, rfl, HX, HG⟩ := hrel
    have b1 := HBx.out _ HX.out
    by_cases hlt : k < n
    · obtain ⟨b, o, a, m, d, rfl, hc0, hr0⟩ := HA.out k hlt
      replace hc0 := (XW.out.trans HX.out).cell hc0
      obtain ⟨_, _, e1, e2, _⟩ := hr0.open
      simp only [Value.slice.injEq] at e1
      obtain ⟨rfl, rfl, _⟩ := e1
      have He2 := Lib.hid e2
      clear hr0 e2
      by_cases hm : 40 < m
      · have hm' : (40 : Int) < m := by omega
        have hS := HSb.out k hlt (by have := He2.out; omega)
        subst hS
        clear hm
        go_wp2
        go_ret
        exact ⟨rfl, XW.out.trans HX.out⟩
      · have hm' : ¬ (40 : Int) < m := by omega
        have HG2 := Lib.hid (show ∀ i, i < k + 1 → (sw rows i).length ≤ 40 from fun i hi => by
          by_cases e : i = k
          · rw [e]; have := He2.out; omega
          · exact HG.out i (by omega))
        clear hm
        go_wp2
        go_roundw
        case rel => exact ⟨k + 1, by omega, by go_num, HX, HG2⟩
        case measure => simp [intOf]; omega
    · obtain rfl : n = k := by omega
      have hS := HSg.out HG.out
      subst hS
      have hlt' : ¬ (n : Int) < (n : Int) := by omega
      go_wp2
      go_ret
      exact ⟨rfl, XW.out.trans HX.out⟩

set_option maxHeartbeats 4000000 in
theorem ChartsSame_walk (v1 v2 : Value) (c1 c2 : Nat) (l m : List (List St)) (w : World) (h1 : RR w v1 c1 l) (h2 : RR w v2 c2 m) (hy : Sy w) (hm : Mx w) :
    Calls Tryd.prog 6 #[.agg #[v1], .agg #[v2]] w fun e w' => e = .returned (.bool true) ∧ Ext w w' := by
  have k1 := fun w' (x : Ext w w') => small_calls v1 c1 l w' (h1.ext x)
  have k2 := fun w' (x : Ext w w') => small_calls v2 c2 m w' (h2.ext x)
  have k3 := fun w' (x : Ext w w') => CSame_calls v1 v2 c1 c2 l m w' (h1.ext x) (h2.ext x)
  have k4 := fun w' (x : Ext w w') => Differ_calls v1 v2 c1 c2 l m w' (h1.ext x) (h2.ext x)
  have k5 := fun w' (x : Ext w w') => CSame_calls v1 v1 c1 c1 l l w' (h1.ext x) (h1.ext x)
  have k6 := fun w' (x : Ext w w') => lives13_calls w' (hy.ext x) (hm.ext x)
  rw [decide_eq_true (rfl : l = l)] at k5
  obtain ⟨a1, n1, rfl, hn1⟩ := h1.open
  obtain ⟨a2, n2, rfl, hn2⟩ := h2.open
  clear hn1 hn2
  obtain ⟨W, hW⟩ : ∃ W, W = (w.alloc (.cells #[.slice a1 n1 c1] 27)).alloc (.cells #[.slice a2 n2 c2] 27) := ⟨_, rfl⟩
  have xW : Ext w W := by rw [hW]; exact ((Ext.refl w).alloc _).alloc _
  have b1 : W.heap[w.heap.size]? = some (.cells #[.slice a1 n1 c1] 27 (0, 0)) := by rw [hW]; exact blk_old (blk_at rfl)
  have b2 : W.heap[w.heap.size + 1]? = some (.cells #[.slice a2 n2 c2] 27 (0, 0)) := by rw [hW]; exact blk_at (by simp)
  have d1 : W.cell? ⟨w.heap.size, 0, none⟩ = some (.slice a1 n1 c1) := by simp [World.cell?, b1]
  have d2 : W.cell? ⟨w.heap.size + 1, 0, none⟩ = some (.slice a2 n2 c2) := by simp [World.cell?, b2]
  have HD1 := Lib.hid (fun w' (x : Ext W w') => x.cell d1); have HD2 := Lib.hid (fun w' (x : Ext W w') => x.cell d2)
  have XW := Lib.hid xW; have HW := Lib.hid hW
  have K1 := Lib.hid k1; have K2 := Lib.hid k2; have K5 := Lib.hid k5; have K6 := Lib.hid k6
  rw [hW] at d1 d2
  have hs1 := sml_cases l
  have hs2 := sml_cases m
  have hdm : (decide (l = m) = true ∧ dif l m = 0) ∨ (decide (l = m) = false ∧ dif l m = 1) := by
    by_cases e : l = m
    · exact .inl ⟨decide_eq_true e, if_pos e⟩
    · exact .inr ⟨decide_eq_false e, if_neg e⟩
  generalize sml l = S1 at *
  generalize sml m = S2 at *
  have K3 := Lib.hid k3; have K4 := Lib.hid k4
  clear k1 k2 k3 k4 k5 k6 h1 h2 hy hm xW hW b1 b2
  go_enter Tryd.func6, Tryd.ntmps6
  go_wp2_with fail
  rw [← HW.out]
  refine (K1.out _ XW.out).mono ?_
  rintro e w1 ⟨rfl, x1⟩
  have X1 := Lib.hid x1
  have e1 := HD1.out _ x1; have e2 := HD2.out _ x1
  clear x1 d1 d2 HW
  rcases hs1 with rfl | rfl
  · go_wp2
    go_ret
    exact ⟨rfl, XW.out.trans X1.out⟩
  · go_wp2_with fail
    refine (K2.out _ (XW.out.trans X1.out)).mono ?_
    rintro e w2 ⟨rfl, x2⟩
    have X2 := Lib.hid (X1.out.trans x2)
    have q0_1 := HD1.out _ X2.out; have q0_2 := HD2.out _ X2.out
    clear x2 e1 e2
    rcases hs2 with rfl | rfl
    · go_wp2
      go_ret
      exact ⟨rfl, XW.out.trans X2.out⟩
    · have XX := Lib.hid (XW.out.trans X2.out)
      rcases hdm with ⟨z1, z2⟩ | ⟨z1, z2⟩
      all_goals
        have K3b := K3.out; have K4b := K4.out
        rw [z1] at K3b
        rw [z2] at K4b
        have K3c := Lib.hid K3b; have K4c := Lib.hid K4b
        clear K3b K4b K3 K4 z1 z2
        go_wp2
        go_region_held3 (fun w' => w'.cell? ⟨w.heap.size, 0, Option.none⟩ = some (.slice a1 n1 c1) ∧ w'.cell? ⟨w.heap.size + 1, 0, Option.none⟩ = some (.slice a2 n2 c2)) (first | exact ⟨q0_1, q0_2⟩ | exact ⟨q1_1, q1_2⟩ | exact ⟨q2_1, q2_2⟩ | exact ⟨q3_1, q3_2⟩ | exact ⟨q4_1, q4_2⟩ | go_keep) (first
          | (go_at_call_of 26 (Value.slice a2 n2 c2); (refine (K3c.out _ ?_).mono ?_); (focus (refine Ext.trans XX.out ?_; (repeat (first | (with_reducible exact Ext.refl _) | (with_reducible apply Ext.drew) | (with_reducible apply Ext.drewN) | (with_reducible apply Ext.alloc))))); intro e wa hh; obtain ⟨rfl, x⟩ := hh; have Xa : Hid (Ext w2 wa) := Lib.hid (Ext.trans (by (repeat (first | (with_reducible exact Ext.refl _) | (with_reducible apply Ext.drew) | (with_reducible apply Ext.drewN) | (with_reducible apply Ext.alloc)))) x); have q1_1 := Xa.out.cell q0_1; have q1_2 := Xa.out.cell q0_2; clear x)
          | (go_at_call 18; (refine (K4c.out _ ?_).mono ?_); (focus (refine Ext.trans (XX.out.trans Xa.out) ?_; (repeat (first | (with_reducible exact Ext.refl _) | (with_reducible apply Ext.drew) | (with_reducible apply Ext.drewN) | (with_reducible apply Ext.alloc))))); intro e wb hh; obtain ⟨rfl, x⟩ := hh; have Xb : Hid (Ext w2 wb) := Lib.hid (Ext.trans Xa.out (Ext.trans (by (repeat (first | (with_reducible exact Ext.refl _) | (with_reducible apply Ext.drew) | (with_reducible apply Ext.drewN) | (with_reducible apply Ext.alloc)))) x)); have q2_1 := Xb.out.cell q0_1; have q2_2 := Xb.out.cell q0_2; clear x)
          | (go_at_call 26; (refine (K5.out _ ?_).mono ?_); (focus (refine Ext.trans (XX.out.trans Xb.out) ?_; (repeat (first | (with_reducible exact Ext.refl _) | (with_reducible apply Ext.drew) | (with_reducible apply Ext.drewN) | (with_reducible apply Ext.alloc))))); intro e wd hh; obtain ⟨rfl, x⟩ := hh; have Xd : Hid (Ext w2 wd) := Lib.hid (Ext.trans Xb.out (Ext.trans (by (repeat (first | (with_reducible exact Ext.refl _) | (with_reducible apply Ext.drew) | (with_reducible apply Ext.drewN) | (with_reducible apply Ext.alloc)))) x)); have q3_1 := Xd.out.cell q0_1; have q3_2 := Xd.out.cell q0_2; clear x)
          | (go_at_call 13; (refine (K6.out _ ?_).mono ?_); (focus (refine Ext.trans (XX.out.trans Xd.out) ?_; (repeat (first | (with_reducible exact Ext.refl _) | (with_reducible apply Ext.drew) | (with_reducible apply Ext.drewN) | (with_reducible apply Ext.alloc))))); intro e we hh; obtain ⟨rfl, x⟩ := hh; have Xe : Hid (Ext w2 we) := Lib.hid (Ext.trans Xd.out (Ext.trans (by (repeat (first | (with_reducible exact Ext.refl _) | (with_reducible apply Ext.drew) | (with_reducible apply Ext.drewN) | (with_reducible apply Ext.alloc)))) x)); have q4_1 := Xe.out.cell q0_1; have q4_2 := Xe.out.cell q0_2; clear x))
        go_wp2
        go_ret
        exact ⟨rfl, XX.out.trans Xe.out⟩
end Go.Proofs.YtkolebjpeaigcaaDoor
/- A chart's text, read again: plain Lean. -/
namespace Go.Proofs.YtkolebjpeaigcaaDoor
set_option linter.unusedVariables false
set_option linter.unusedSimpArgs false
set_option maxRecDepth 8000
open Go Go.RowKit

def u8 (x : Int) : UInt8 := UInt8.ofNat x.toNat
/-- The word of a stitch; the words of a row; the lines of a chart. -/
def wd8 (s : St) : List UInt8 := s.tx.map u8
def wr8 (r : List St) : List (List UInt8) := r.map wd8
def ln8 (rows : List (List St)) : List (List (List UInt8)) := rows.reverse.map wr8
theorem ba_wd (s : St) : ba (wd8 s) = bstr s.tx := (ba_of (bstr_data s.tx)).symm
theorem rowP_wr {r : List St} (h : ∀ s ∈ r, s.chk = 0) : rowP (wr8 r) = r := by
  unfold rowP wr8
  rw [List.map_map]
  have : ∀ s ∈ r, ((fun x => (pst (ba x)).1) ∘ wd8) s = id s := fun s hs => by
    show (pst (ba (wd8 s))).1 = s
    rw [ba_wd, pst_tx (h s hs)]
  rw [List.map_congr_left this, List.map_id]
theorem okP_wr {r : List St} (h : ∀ s ∈ r, s.chk = 0) : okP (wr8 r) = true := by
  unfold okP wr8
  rw [List.all_eq_true]
  intro x hx
  obtain ⟨s, hs, rfl⟩ := List.mem_map.1 hx
  rw [ba_wd, pst_tx (h s hs)]; rfl
theorem pL_wr : ∀ (rs : List (List St)) (i : Nat) (acc : List (List St)), (∀ r ∈ rs, ∀ s ∈ r, s.chk = 0) → pL (rs.map wr8) i acc = if (cloads (acc ++ rs).reverse).1 ≠ 0 then ([], 0, (cloads (acc ++ rs).reverse).1) else ((acc ++ rs).reverse, 0, 0)
  | [], i, acc, _ => by rw [List.map_nil, pL, List.append_nil]
  | r :: rs, i, acc, h => by
    rw [List.map_cons, pL, if_pos (okP_wr (h r (by simp))), rowP_wr (h r (by simp)), pL_wr rs _ _ (fun r' hr => h r' (by simp [hr])), List.append_assoc]; rfl
theorem pL_ln {rows : List (List St)} (h : ∀ r ∈ rows, ∀ s ∈ r, s.chk = 0) (hc : (cloads rows).1 = 0) : pL (ln8 rows) 0 [] = (rows, 0, 0) := by
  unfold ln8
  rw [pL_wr _ _ _ (fun r hr => h r (by simpa using hr)), List.nil_append, List.reverse_reverse, if_neg (by omega)]
theorem join_snoc : ∀ (ws : List (List UInt8)) (x : List UInt8), ws ≠ [] → Lib.join (ws ++ [x]) [32] = Lib.join ws [32] ++ 32 :: x
  | [], _, h => absurd rfl h
  | [a], x, _ => by rw [List.singleton_append, join_two, Lib.join_one, Lib.join_one]
  | a :: b :: r, x, _ => by
    have ih := join_snoc (b :: r) x (by simp)
    rw [List.cons_append, List.cons_append, join_two, join_two]
    rw [List.cons_append] at ih
    rw [ih, List.append_assoc, List.cons_append]
theorem rowT_wr (r : List St) : ∀ k, k ≤ r.length → (rowT r k).map u8 = Lib.join (wr8 (r.take k)) [32]
  | 0, _ => by unfold rowT wr8; rw [List.take_zero, List.map_nil, List.map_nil, Lib.join_nil]
  | k + 1, hk => by
    have ih := rowT_wr r k (by omega)
    have ht : r.take (k + 1) = r.take k ++ [si r k] := by rw [si_of_lt (by omega)]; exact List.take_succ_eq_append_getElem (by omega)
    unfold rowT
    rw [ht]
    unfold wr8 at ih ⊢
    rw [List.map_append, List.map_append, List.map_append, ih, List.map_singleton]
    by_cases h0 : k = 0
    · subst h0
      rw [if_pos rfl, List.take_zero, List.map_nil, Lib.join_nil, List.nil_append, List.map_nil, List.nil_append, List.nil_append, Lib.join_one]; rfl
    · rw [if_neg h0, join_snoc _ _ (by intro e; have := congrArg List.length e; rw [List.length_map, List.length_take] at this; simp only [List.length_nil] at this; omega), List.append_assoc]; rfl
theorem txL_app : ∀ A B : List (List (List UInt8)), txL (A ++ B) = txL A ++ txL B
  | [], B => rfl
  | a :: A, B => by rw [List.cons_append, txL, txL, txL_app A B, List.append_assoc, List.cons_append]
theorem chT_ln (rows : List (List St)) : ∀ k, k ≤ rows.length → (chT rows k).map u8 = txL ((rows.reverse.take k).map wr8)
  | 0, _ => rfl
  | k + 1, hk => by
    have ih := chT_ln rows k (by omega)
    have ht : rows.reverse.take (k + 1) = rows.reverse.take k ++ [sw rows (rows.length - 1 - k)] := by
      rw [sw_of_lt (by omega), List.take_succ_eq_append_getElem (by simp; omega), List.getElem_reverse]
    have hr := rowT_wr (sw rows (rows.length - 1 - k)) _ (Nat.le_refl _)
    rw [List.take_length] at hr
    unfold chT
    rw [ht, List.map_append, List.map_append, List.map_append, ih, hr, txL_app, List.append_assoc]; rfl
theorem chT_txL (rows : List (List St)) : (bstr (chT rows rows.length)).data.toList = txL (ln8 rows) := by
  rw [bstr_data]
  have := chT_ln rows rows.length (Nat.le_refl _)
  rw [List.take_of_length_le (by simp)] at this
  exact this
theorem tx_hi {s : St} (h : s.chk = 0) : ∀ x ∈ s.tx, 33 ≤ x ∧ x ≤ 255 := by
  obtain ⟨k1, k2, k3⟩ := St.chk_ok h
  unfold St.tx
  rw [if_neg (by omega)]
  intro x hx
  have hsy : ∀ j, j < 8 → 33 ≤ gi symT j ∧ gi symT j ≤ 255 := by decide
  have := hsy (s.k - 1).toNat (by omega)
  by_cases h8 : s.k = 8
  · rw [if_pos h8] at hx
    by_cases hy : s.y = 1
    · rw [if_pos hy] at hx
      simp only [List.mem_append, List.mem_cons, List.not_mem_nil, or_false] at hx
      rcases hx with rfl | rfl | rfl | rfl
      · exact this
      · omega
      · omega
      · split <;> omega
    · rw [if_neg hy] at hx
      simp only [List.mem_append, List.mem_cons, List.not_mem_nil, or_false] at hx
      rcases hx with (rfl | rfl | rfl | rfl) | rfl
      · exact this
      · omega
      · omega
      · split <;> omega
      · omega
  · rw [if_neg h8] at hx
    by_cases hy : s.y = 1
    · rw [if_pos hy] at hx
      simp only [List.append_nil, List.mem_singleton] at hx
      rw [hx]; exact this
    · rw [if_neg hy] at hx
      simp only [List.append_nil, List.mem_append, List.mem_singleton] at hx
      rcases hx with rfl | rfl
      · exact this
      · omega
theorem u8_ne {x : Int} (h : 33 ≤ x ∧ x ≤ 255) : u8 x ≠ 32 ∧ u8 x ≠ 10 := by
  unfold u8
  constructor
  all_goals
    intro e
    have := congrArg UInt8.toNat e
    rw [UInt8.toNat_ofNat'] at this
    simp at this
    omega
theorem wd_good {s : St} (h : s.chk = 0) : (32 : UInt8) ∉ wd8 s ∧ (10 : UInt8) ∉ wd8 s := by
  constructor
  all_goals
    intro hm
    obtain ⟨x, hx, he⟩ := List.mem_map.1 hm
    have := u8_ne (tx_hi h x hx)
    first | exact this.1 he | exact this.2 he
theorem ln_good {rows : List (List St)} (h : ∀ r ∈ rows, r ≠ [] ∧ ∀ s ∈ r, s.chk = 0) : ∀ ws ∈ ln8 rows, GL ws := by
  intro ws hws
  obtain ⟨r, hr, rfl⟩ := List.mem_map.1 hws
  obtain ⟨h1, h2⟩ := h r (by simpa using hr)
  refine ⟨by simpa [wr8] using h1, fun x hx => ?_⟩
  obtain ⟨s, hs, rfl⟩ := List.mem_map.1 hx
  exact wd_good (h2 s hs)
theorem ln_bd {rows : List (List St)} (hn : rows.length ≤ 1000) (h : ∀ i, i < rows.length → (sw rows i).length ≤ 16) : ∀ k, k < (ln8 rows).length → (li (ln8 rows) k).length ≤ 1000 ∧ (txL ((ln8 rows).drop k)).length ≤ 100000 ∧ (∀ x ∈ li (ln8 rows) k, x.length ≤ 1000) := by
  intro k hk
  have hl : (ln8 rows).length = rows.length := by simp [ln8]
  have hli : li (ln8 rows) k = wr8 (sw rows (rows.length - 1 - k)) := by
    rw [li_of hk, sw_of_lt (by omega)]
    simp only [ln8, List.getElem_map, List.getElem_reverse]
  have h16 := h (rows.length - 1 - k) (by omega)
  have ht : (txL (ln8 rows)).length ≤ 97 * rows.length := by
    rw [← chT_txL, bstr_data, List.length_map]; exact chT_len h _ (Nat.le_refl _)
  have hd : (txL ((ln8 rows).drop k)).length ≤ (txL (ln8 rows)).length := by
    conv => rhs; rw [← List.take_append_drop k (ln8 rows), txL_app, List.length_append]
    omega
  rw [hli]
  refine ⟨by unfold wr8; rw [List.length_map]; omega, by omega, fun x hx => ?_⟩
  obtain ⟨s, _, rfl⟩ := List.mem_map.1 hx
  unfold wd8
  rw [List.length_map]
  have := tx_len s; omega
end Go.Proofs.YtkolebjpeaigcaaDoor
/- ganseyref12.Text. -/
namespace Go.Proofs.YtkolebjpeaigcaaDoor
set_option linter.unusedVariables false
set_option linter.unusedSimpArgs false
set_option maxRecDepth 8000
open Go Go.RowKit

/-- The tables of the reference. -/
def kdT : ByteArray := { data := #[63, 107, 112, 111, 47, 118, 116, 115, 99] }
def dgT : ByteArray := { data := #[48, 49, 50, 51, 52, 53, 54] }
theorem kd_at {k : Int} (h1 : 1 ≤ k) (h2 : k ≤ 8) : kdT.extract k.toNat (k + 1).toNat = bstr [gi symT (k - 1).toNat] := by
  rcases (show k = 1 ∨ k = 2 ∨ k = 3 ∨ k = 4 ∨ k = 5 ∨ k = 6 ∨ k = 7 ∨ k = 8 by omega) with rfl | rfl | rfl | rfl | rfl | rfl | rfl | rfl <;> exact bytes_eq rfl
theorem dg_at {k : Int} (h1 : 0 ≤ k) (h2 : k ≤ 6) : dgT.extract k.toNat (k + 1).toNat = bstr [48 + k] := by
  rcases (show k = 0 ∨ k = 1 ∨ k = 2 ∨ k = 3 ∨ k = 4 ∨ k = 5 ∨ k = 6 by omega) with rfl | rfl | rfl | rfl | rfl | rfl | rfl <;> exact bytes_eq rfl

set_option maxHeartbeats 2000000 in
theorem RText_calls (s : St) (w : World) (hs : 0 ≤ s.k ∧ 0 ≤ s.y) : Calls Tryd.prog 46 #[s.val] w fun e w' => e = .returned (.string (bstr s.tx)) ∧ Ext w w' := by
  have HB := Lib.hid (fun w' (x : Ext (w.alloc (.cells #[.int .u8 s.k, .int .u8 s.y, .int .i64 s.a, .int .i64 s.b, .bool s.f] 33)) w') => ((B5.new w s 33).ext x).at)
  have HV := Lib.hid (fun w' => Valid_calls s w' hs)
  have hv : s.vld = if s.chk = 0 then 1 else 0 := rfl
  have hk := fun h => (St.chk_ok (s := s) h)
  have hx : s.tx = if s.chk ≠ 0 then [] else [gi symT (s.k - 1).toNat] ++ (if s.k = 8 then [48 + s.a, 48 + s.b, if s.f then 70 else 66] else []) ++ (if s.y = 1 then [] else [48 + s.y]) := rfl
  obtain ⟨k, y, a, b, f⟩ := s
  unfold St.val at *
  simp only [] at hx hk HB HV hs ⊢
  generalize St.tx ⟨k, y, a, b, f⟩ = T at hx ⊢
  generalize St.vld ⟨k, y, a, b, f⟩ = V at hv HV
  generalize St.chk ⟨k, y, a, b, f⟩ = C at hx hk hv
  by_cases hC : C = 0
  · rw [if_pos hC] at hv
    rw [if_neg (by omega)] at hx
    obtain ⟨⟨k1, k2⟩, ⟨y1, y2⟩, k3⟩ := hk hC
    subst hv
    clear hC hk
    have hkx := kd_at k1 k2
    have hdy := dg_at (k := y) (by omega) y2
    have hsz : ∀ z : Int, (bstr [z]).size = 1 := fun z => bstr_size [z]
    obtain ⟨g, hg⟩ : ∃ g, g = gi symT (k - 1).toNat := ⟨_, rfl⟩
    rw [← hg] at hkx hx
    have hsg := hsz g; have hsy := hsz (48 + y)
    unfold kdT at hkx
    unfold dgT at hdy
    by_cases k8 : k = 8
    · have b8 : (k == 8) = true := beq_iff_eq.2 k8
      have hda := dg_at (k := a) (by omega) (by omega)
      have hdb := dg_at (k := b) (by omega) (by omega)
      have hsa := hsz (48 + a); have hsb := hsz (48 + b)
      unfold dgT at hda hdb
      obtain ⟨a1, a2, b1, b2⟩ : 1 ≤ a ∧ a ≤ 3 ∧ 1 ≤ b ∧ b ≤ 3 := by omega
      rw [if_pos k8] at hx
      clear k3 k8 hg hsz
      cases f
      · by_cases hy1 : y = 1
        · have hT : bstr T = bstr [g] ++ (bstr [48 + a] ++ bstr [48 + b]) ++ bstr [66] := by rw [hx, if_pos hy1]; simp only [List.append_nil, bstr_app, Bool.false_eq_true, if_false, if_true, List.cons_append, List.nil_append]
          have HT := Lib.hid hT
          subst hy1
          clear hx hT
          go_enter Tryd.func46, Tryd.ntmps46
          go_wp2_with fail
          refine (HV.out _).mono ?_
          rintro e w1 ⟨rfl, x1⟩
          obtain ⟨c0, c1, c2, c3, c4⟩ := HB.out _ x1
          simp only [Nat.zero_add] at c0 c1 c2 c3 c4
          have X1 := Lib.hid (((Ext.refl w).alloc _).trans x1)
          clear x1 HV HB
          go_wp2
          go_region
          all_goals go_wp2
          go_ret
          exact ⟨ret_str HT.out.symm, by first | exact X1.out | exact X1.out.drew⟩
        · have hb1 : (y != 1) = true := by rw [bne, beq_eq_false_iff_ne.2 hy1]; rfl
          have hT : bstr T = bstr [g] ++ (bstr [48 + a] ++ bstr [48 + b]) ++ bstr [66] ++ bstr [48 + y] := by rw [hx, if_neg hy1]; simp only [List.append_nil, bstr_app, Bool.false_eq_true, if_false, if_true, List.cons_append, List.nil_append, List.append_assoc]
          have HT := Lib.hid hT
          clear hx hT hy1
          go_enter Tryd.func46, Tryd.ntmps46
          go_wp2_with fail
          refine (HV.out _).mono ?_
          rintro e w1 ⟨rfl, x1⟩
          obtain ⟨c0, c1, c2, c3, c4⟩ := HB.out _ x1
          simp only [Nat.zero_add] at c0 c1 c2 c3 c4
          have X1 := Lib.hid (((Ext.refl w).alloc _).trans x1)
          clear x1 HV HB
          go_wp2
          go_region
          all_goals go_wp2
          go_ret
          exact ⟨ret_str HT.out.symm, by first | exact X1.out | exact X1.out.drew⟩
      · by_cases hy1 : y = 1
        · have hT : bstr T = bstr [g] ++ (bstr [48 + a] ++ bstr [48 + b]) ++ bstr [70] := by rw [hx, if_pos hy1]; simp only [List.append_nil, bstr_app, Bool.false_eq_true, if_false, if_true, List.cons_append, List.nil_append]
          have HT := Lib.hid hT
          subst hy1
          clear hx hT
          go_enter Tryd.func46, Tryd.ntmps46
          go_wp2_with fail
          refine (HV.out _).mono ?_
          rintro e w1 ⟨rfl, x1⟩
          obtain ⟨c0, c1, c2, c3, c4⟩ := HB.out _ x1
          simp only [Nat.zero_add] at c0 c1 c2 c3 c4
          have X1 := Lib.hid (((Ext.refl w).alloc _).trans x1)
          clear x1 HV HB
          go_wp2
          go_region
          all_goals go_wp2
          go_ret
          exact ⟨ret_str HT.out.symm, by first | exact X1.out | exact X1.out.drew⟩
        · have hb1 : (y != 1) = true := by rw [bne, beq_eq_false_iff_ne.2 hy1]; rfl
          have hT : bstr T = bstr [g] ++ (bstr [48 + a] ++ bstr [48 + b]) ++ bstr [70] ++ bstr [48 + y] := by rw [hx, if_neg hy1]; simp only [List.append_nil, bstr_app, Bool.false_eq_true, if_false, if_true, List.cons_append, List.nil_append, List.append_assoc]
          have HT := Lib.hid hT
          clear hx hT hy1
          go_enter Tryd.func46, Tryd.ntmps46
          go_wp2_with fail
          refine (HV.out _).mono ?_
          rintro e w1 ⟨rfl, x1⟩
          obtain ⟨c0, c1, c2, c3, c4⟩ := HB.out _ x1
          simp only [Nat.zero_add] at c0 c1 c2 c3 c4
          have X1 := Lib.hid (((Ext.refl w).alloc _).trans x1)
          clear x1 HV HB
          go_wp2
          go_region
          all_goals go_wp2
          go_ret
          exact ⟨ret_str HT.out.symm, by first | exact X1.out | exact X1.out.drew⟩
    · have b8 : (k == 8) = false := beq_eq_false_iff_ne.2 k8
      rw [if_neg k8] at hx
      clear k3 hg hsz
      by_cases hy1 : y = 1
      · have hT : bstr T = bstr [g] := by rw [hx, if_pos hy1]; simp only [List.append_nil, bstr_app, Bool.false_eq_true, if_false, if_true, List.cons_append, List.nil_append]
        have HT := Lib.hid hT
        subst hy1
        clear hx hT
        go_enter Tryd.func46, Tryd.ntmps46
        go_wp2_with fail
        refine (HV.out _).mono ?_
        rintro e w1 ⟨rfl, x1⟩
        obtain ⟨c0, c1, c2, c3, c4⟩ := HB.out _ x1
        simp only [Nat.zero_add] at c0 c1 c2 c3 c4
        have X1 := Lib.hid (((Ext.refl w).alloc _).trans x1)
        clear x1 HV HB
        go_wp2
        go_ret
        exact ⟨ret_str HT.out.symm, by first | exact X1.out | exact X1.out.drew⟩
      · have hb1 : (y != 1) = true := by rw [bne, beq_eq_false_iff_ne.2 hy1]; rfl
        have hT : bstr T = bstr [g] ++ bstr [48 + y] := by rw [hx, if_neg hy1]; simp only [List.append_nil, bstr_app, Bool.false_eq_true, if_false, if_true, List.cons_append, List.nil_append, List.append_assoc]
        have HT := Lib.hid hT
        clear hx hT hy1
        go_enter Tryd.func46, Tryd.ntmps46
        go_wp2_with fail
        refine (HV.out _).mono ?_
        rintro e w1 ⟨rfl, x1⟩
        obtain ⟨c0, c1, c2, c3, c4⟩ := HB.out _ x1
        simp only [Nat.zero_add] at c0 c1 c2 c3 c4
        have X1 := Lib.hid (((Ext.refl w).alloc _).trans x1)
        clear x1 HV HB
        go_wp2
        go_ret
        exact ⟨ret_str HT.out.symm, by first | exact X1.out | exact X1.out.drew⟩
  · rw [if_neg hC] at hv
    rw [if_pos hC] at hx
    subst hv; subst hx
    go_enter Tryd.func46, Tryd.ntmps46
    go_wp2_with fail
    refine (HV.out _).mono ?_
    rintro e w1 ⟨rfl, x1⟩
    have X1 := Lib.hid (((Ext.refl w).alloc _).trans x1)
    go_wp2
    go_ret
    exact ⟨rfl, X1.out⟩
end Go.Proofs.YtkolebjpeaigcaaDoor
/- ganseyref13.Text. -/
namespace Go.Proofs.YtkolebjpeaigcaaDoor
set_option linter.unusedVariables false
set_option linter.unusedSimpArgs false
set_option maxRecDepth 8000
open Go Go.RowKit

set_option maxHeartbeats 4000000 in
theorem RCText_calls (v : Value) (c : Nat) (rows : List (List St)) (w : World) (h : RR w v c rows) (hz : cerr rows = 0) (hn40 : rows.length ≤ 1000) :
    Calls Tryd.prog 17 #[.agg #[v]] w fun e w' => e = .returned (.string (bstr (chT rows rows.length))) ∧ Ext w w' := by
  obtain ⟨ao, n, rfl, hn, hnc, hcm, hat⟩ := h.open
  unfold maxLen at hcm
  obtain ⟨r1, r2, r3, _⟩ := cerr_zero hz
  have hlen16 : ∀ i, i < rows.length → (sw rows i).length ≤ 16 := fun i hi => (rchk_zero (r3 i hi)).1
  have hok : ∀ i, i < rows.length → ∀ j, j < (sw rows i).length → (si (sw rows i) j).chk = 0 := fun i hi => (rchk_zero (r3 i hi)).2.2.1
  have hcl := chT_len hlen16
  have hstep : ∀ k, k < n → chT rows (k + 1) = chT rows k ++ rowT (sw rows (n - 1 - k)) (sw rows (n - 1 - k)).length ++ [10] := fun k hk => by rw [hn]; rfl
  rw [← hn] at hcl hlen16 hok hn40 ⊢
  have HA := Lib.hid hat; have HCl := Lib.hid hcl; have HSt := Lib.hid hstep; have H16 := Lib.hid hlen16; have HOk := Lib.hid hok
  obtain ⟨W, hW⟩ : ∃ W, W = w.alloc (.cells #[.slice ao n c] 27) := ⟨_, rfl⟩
  have xW : Ext w W := by rw [hW]; exact (Ext.refl w).alloc _
  have b0 : W.cell? ⟨w.heap.size, 0, none⟩ = some (.slice ao n c) := by rw [hW, World.cell?_alloc_at (hn := rfl)]; rfl
  have HBx := Lib.hid (fun w' (x : Ext W w') => x.cell b0); have XW := Lib.hid xW; have HW := Lib.hid hW
  rw [hW] at b0
  clear hat h hcl hstep hlen16 hok hz r1 r2 r3 hn xW hW
  have hw1 : IntKind.i64.wrap ((n : Int) - 1) = (n : Int) - 1 := IntWalk.i64_in _ ⟨by omega, by omega⟩
  go_enter Tryd.func17, Tryd.ntmps17
  go_wp2
  rw [← HW.out]
  clear b0 HW hw1
  go_loopw [3, 4, 5] (fun t i _ wr => ∃ (k : Nat) (I : Int) (B : ByteArray), k ≤ n ∧ I = (n : Int) - 1 - (k : Int) ∧ i = .int .i64 I ∧ t = .string B ∧ Hid (B = bstr (chT rows k)) ∧ Hid (Ext W wr)) (fun _ i _ _ => (intOf i + 1).toNat)
  case atStart => exact ⟨0, (n : Int) - 1, ⟨#[]⟩, Nat.zero_le _, by omega, rfl, rfl, Lib.hid rfl, Lib.hid (Ext.refl _)⟩
  case round =>
    obtain ⟨k, I, B, hk, hI, rfl, rfl, HB, HX⟩ := hrel
    have b1 := HBx.out _ HX.out
    by_cases hlt : k < n
    · obtain ⟨ix, hix⟩ : ∃ ix : Nat, ix = n - 1 - k := ⟨_, rfl⟩
      have hII : I = (ix : Int) := by omega
      subst hII
      have hixn : ix < n := by omega
      have hixn' : (ix : Int) < (n : Int) := by omega
      obtain ⟨b, o, a, m, d, rfl, c1, r1⟩ := HA.out ix hixn
      replace c1 := (XW.out.trans HX.out).cell c1
      obtain ⟨_, _, z1, z2, _, _, g1⟩ := r1.open
      simp only [Value.slice.injEq] at z1
      obtain ⟨rfl, rfl, _⟩ := z1
      have hm16 : m ≤ 16 := by rw [z2]; exact H16.out ix hixn
      have hBs : B.size ≤ 97 * k := by rw [HB.out, bstr_size]; exact HCl.out k hk
      have HG := Lib.hid g1; have Hz := Lib.hid z2; have HC1 := Lib.hid (fun w' (x : Ext wr w') => x.cell c1); have HC0 := Lib.hid (fun w' (x : Ext wr w') => x.cell b1)
      have hstp := HSt.out k hlt
      have hokx := HOk.out ix hixn
      rw [← hix] at hstp
      obtain ⟨r, hr⟩ : ∃ r, r = sw rows ix := ⟨_, rfl⟩
      rw [← hr] at hstp Hz HG hokx
      have HStp := Lib.hid hstp; have HOx := Lib.hid hokx
      have HIx := Lib.hid (And.intro hI hix)
      clear g1 z2 r1 hstp hokx hr hI hix
      obtain ⟨wo, hwo⟩ : ∃ wo : World, wo = wr := ⟨_, rfl⟩
      rw [← hwo] at HX HC0 HC1 b1 c1 ⊢
      clear hwo
      go_wp2
      clear b1 c1
      go_loopw [3, 5] (fun t i wt => ∃ (j : Nat) (B2 : ByteArray), j ≤ m ∧ i = .int .i64 j ∧ t = .string B2 ∧ Hid (B2 = bstr (chT rows k ++ rowT r j)) ∧ Hid (Ext wo wt)) (fun _ i _ => m - (intOf i).toNat)
      case atStart => exact ⟨0, B, Nat.zero_le _, rfl, rfl, Lib.hid (by rw [HB.out]; simp [rowT]), Lib.hid (Ext.refl _)⟩
      case round =>
        obtain ⟨j, B2, hj, rfl, rfl, HB2, HY⟩ := hrel
        obtain ⟨wt, hwt⟩ : ∃ wt : World, wt = wr := ⟨_, rfl⟩
        rw [← hwt] at HY ⊢
        clear hwt
        have d0 := HC0.out _ HY.out
        have d1 := HC1.out _ HY.out
        have hB2s : B2.size ≤ 97 * k + 6 * j := by rw [HB2.out, bstr_size, List.length_append]; have := rowT_len r j; have := HCl.out k hk; omega
        by_cases hjm : j < m
        · have hjm' : (j : Int) < (m : Int) := by omega
          obtain ⟨b2, o2, rfl, e5⟩ := HG.out j hjm
          have hck := HOx.out j (by have := Hz.out; omega)
          have hks := St.chk_ok hck
          obtain ⟨c0, c1, c2, c3, c4⟩ := e5.ext (XW.out.trans (HX.out.trans HY.out))
          have hrow : rowT r (j + 1) = rowT r j ++ (if j = 0 then [] else [32]) ++ (si r j).tx := rfl
          have htl := tx_len (si r j)
          have hcl := fun w' => RText_calls (si r j) w' ⟨by omega, by omega⟩
          obtain ⟨S, hS⟩ : ∃ S, S = si r j := ⟨_, rfl⟩
          rw [← hS] at c0 c1 c2 c3 c4 hrow htl hcl
          unfold St.val at hcl
          obtain ⟨U, hU⟩ : ∃ U, U = bstr S.tx := ⟨_, rfl⟩
          rw [← hU] at hcl
          have hUs : U.size ≤ 5 := by rw [hU, bstr_size]; exact htl
          have HCc := Lib.hid hcl; have HU := Lib.hid hU; have HRw := Lib.hid hrow
          clear hck hks e5 hcl hU hrow hS htl
          by_cases hj0 : j = 0
          · subst hj0
            simp only [Nat.zero_mul, Nat.add_zero] at c0 c1 c2 c3 c4
            go_wp2_with fail
            refine ((HCc.out _)).mono ?_
            rintro e w2 ⟨rfl, x⟩
            have X2 := Lib.hid (HY.out.trans x)
            clear c0 c1 c2 c3 c4 d0 d1
            clear x
            go_wp2
            go_roundw
            case rel => exact ⟨0 + 1, B2 ++ U, by omega, by go_num, rfl, Lib.hid (by rw [HB2.out, HU.out, HRw.out, bstr_app]; simp), X2⟩
            case measure => simp [intOf]; omega
          · have hj0' : (0 : Int) < (j : Int) := by omega
            go_wp2_with fail
            refine ((HCc.out _)).mono ?_
            rintro e w2 ⟨rfl, x⟩
            have X2 := Lib.hid (HY.out.trans x)
            clear c0 c1 c2 c3 c4 d0 d1
            clear x
            go_wp2
            go_roundw
            case rel => exact ⟨j + 1, B2 ++ bstr [32] ++ U, by omega, by go_num, rfl, Lib.hid (by rw [HB2.out, HU.out, HRw.out, if_neg hj0, bstr_app, bstr_app]; simp), X2⟩
            case measure => simp [intOf]; omega
        · obtain rfl : m = j := by omega
          have hjm' : ¬ (m : Int) < (m : Int) := by omega
          have XZ := Lib.hid (HX.out.trans HY.out)
          have HN := Lib.hid (show B2 ++ bstr [10] = bstr (chT rows (k + 1)) by rw [HB2.out, HStp.out, ← Hz.out, bstr_app])
          go_wp2
          go_roundw
          case rel => exact ⟨k + 1, (ix : Int) - 1, B2 ++ bstr [10], by omega, by have := HIx.out.1; omega, by go_num, rfl, HN, XZ⟩
          case measure => have := HIx.out.1; first | (simp [intOf]; done) | (simp [intOf]; omega)
    · obtain rfl : n = k := by omega
      have hII : I = -1 := by omega
      subst hII
      go_wp2
      go_ret
      exact ⟨ret_str HB.out, XW.out.trans HX.out⟩
end Go.Proofs.YtkolebjpeaigcaaDoor
/- The law ChartsText, walked. -/
namespace Go.Proofs.YtkolebjpeaigcaaDoor
set_option linter.unusedVariables false
set_option linter.unusedSimpArgs false
set_option maxRecDepth 8000
open Go Go.RowKit

theorem RetCP.open {w w' : World} {rows : List (List St)} {n err : Int} {e : Ending} (h : RetCP w rows n err e w') {N : Nat} (hN : N = rows.length) : ∃ a, e = .returned (.tuple #[.agg #[.slice a N N], .int .i64 n, .int .i64 err]) ∧ RR w' (.slice a N N) N rows ∧ Ext w w' := by
  obtain ⟨v, h1, h2, h3⟩ := h
  obtain ⟨a, n', rfl, hn', _⟩ := h2.open
  subst hN; subst hn'
  exact ⟨a, h1, h2, h3⟩
set_option maxHeartbeats 4000000 in
theorem ChartsText_walk (v : Value) (c : Nat) (rows : List (List St)) (w : World) (h : RR w v c rows) (hin : ∀ l ∈ rows, ∀ s ∈ l, St.In s) (hy : Sy w) (hm : Mx w) :
    Calls Tryd.prog 4 #[.agg #[v]] w fun e w' => e = .returned (.bool true) ∧ Ext w w' := by
  have hIn : ∀ k, k < rows.length → ∀ i, i < (sw rows k).length → 0 ≤ (si (sw rows k) i).k ∧ 0 ≤ (si (sw rows k) i).y := fun k hk i hi => by
    have := hin (sw rows k) (by rw [sw_of_lt hk]; exact List.getElem_mem hk) (si (sw rows k) i) (by rw [si_of_lt hi]; exact List.getElem_mem hi)
    exact ⟨this.1.1, this.2.1.1⟩
  have k1 := fun w' (x : Ext w w') => small_calls v c rows w' (h.ext x)
  have k2 := fun w' (x : Ext w w') => CText_calls v c rows w' (h.ext x) (hy.ext x)
  have k3 := fun w' (x : Ext w w') => RCLoads_calls v c rows w' (h.ext x) hIn
  have k6 := fun w' (x : Ext w w') => lives13_calls w' (hy.ext x) (hm.ext x)
  have k7 := fun w' v2 c2 (x : Ext w w') (r : RR w' v2 c2 rows) => Differ_calls v2 v c2 c rows rows w' r (h.ext x)
  rw [show dif rows rows = 0 from if_pos rfl] at k7
  have hs1 := sml_cases rows
  have hsb := sml_one (rows := rows)
  have k4 := fun (hz : cerr rows = 0) (hs : sml rows ≠ 0) w' (x : Ext w w') => RCText_calls v c rows w' (h.ext x) hz (by have := (hsb hs).1; omega)
  have k5 : cerr rows = 0 → (cloads rows).1 = 0 → sml rows ≠ 0 → ∀ w' (x : Ext w w'), Calls Tryd.prog 16 #[.string (bstr (chT rows rows.length))] w' (RetCP w' rows 0 0) := fun hz hc hs w' x => by
    obtain ⟨r1, r2, r3, _⟩ := cerr_zero hz
    have h16 : ∀ i, i < rows.length → (sw rows i).length ≤ 16 := fun i hi => (rchk_zero (r3 i hi)).1
    have hg : ∀ r ∈ rows, r ≠ [] ∧ ∀ s ∈ r, s.chk = 0 := fun r hr => by
      obtain ⟨i, hi, rfl⟩ := List.mem_iff_getElem.1 hr
      have hz := rchk_zero (r3 i hi)
      rw [sw_of_lt hi] at hz
      refine ⟨fun e => ?_, fun s hs => ?_⟩
      · have := hz.2.1; rw [e] at this; simp at this
      · obtain ⟨j, hj, rfl⟩ := List.mem_iff_getElem.1 hs
        have := hz.2.2.1 j hj
        rwa [si_of_lt hj] at this
    have hl : (ln8 rows).length = rows.length := by simp [ln8]
    have hn := (hsb hs).1
    have := CParse_calls (ln8 rows) (bstr (chT rows rows.length)) w' (chT_txL rows) (by omega) (by omega) (ln_bd (by omega) h16) (ln_good hg) (hm.ext x) (hy.ext x)
    rw [pL_ln (fun r hr => (hg r hr).2) hc] at this
    exact this
  obtain ⟨a1, n, rfl, hn, hc, hcm, _⟩ := h.open
  unfold maxLen at hcm
  obtain ⟨W, hW⟩ : ∃ W, W = w.alloc (.cells #[.slice a1 n c] 27) := ⟨_, rfl⟩
  have xW : Ext w W := by rw [hW]; exact (Ext.refl w).alloc _
  have d1 : W.cell? ⟨w.heap.size, 0, none⟩ = some (.slice a1 n c) := by rw [hW, World.cell?_alloc_at (hn := rfl)]; rfl
  have HD1 := Lib.hid (fun w' (x : Ext W w') => x.cell d1)
  have XW := Lib.hid xW; have HW := Lib.hid hW; have Hn := Lib.hid hn
  have K1 := Lib.hid k1; have K3 := Lib.hid k3; have K6 := Lib.hid k6; have K7 := Lib.hid k7; have K2 := Lib.hid k2
  have K4 := Lib.hid k4; have K5 := Lib.hid k5
  rw [hW] at d1
  clear k1 k2 k3 k4 k5 k6 k7 h hy hm xW hW hsb hn hIn hin
  obtain ⟨S1, hS1⟩ : ∃ S1, S1 = sml rows := ⟨_, rfl⟩
  rw [← hS1] at hs1 K1
  have HS1 := Lib.hid hS1
  clear hS1
  go_enter Tryd.func4, Tryd.ntmps4
  go_wp2_with fail
  rw [← HW.out]
  refine (K1.out _ XW.out).mono ?_
  rintro e w1 ⟨rfl, x1⟩
  have X1 := Lib.hid x1
  have e1 := HD1.out _ x1
  clear x1 d1 HW
  rcases hs1 with rfl | rfl
  · go_wp2
    go_ret
    exact ⟨rfl, XW.out.trans X1.out⟩
  · have hz : sml rows ≠ 0 := by rw [← HS1.out]; decide
    by_cases hE : (cloads rows).1 = 0
    · have hce : cerr rows = 0 := by
        by_cases e : cerr rows = 0
        · exact e
        · unfold cloads at hE; rw [if_pos e] at hE; exact absurd hE e
      have K4b := K4.out hce hz
      have K5b := K5.out hce hE hz
      have K2b := K2.out
      have K3b := K3.out
      rw [show ctx rows = chT rows rows.length by unfold ctx; rw [if_neg (by omega)]] at K2b
      rw [hE] at K3b
      have hSz : (bstr (chT rows rows.length)).size ≠ 0 := by
        obtain ⟨r1, _⟩ := cerr_zero hce
        obtain ⟨q, hq⟩ : ∃ q, rows.length = q + 1 := ⟨rows.length - 1, by omega⟩
        rw [hq, bstr_size]; unfold chT; simp
      generalize bstr (chT rows rows.length) = S at K2b K4b K5b hSz
      have H2 := Lib.hid K2b; have H3 := Lib.hid K3b; have H4 := Lib.hid K4b; have H5 := Lib.hid K5b
      clear K2b K3b K4b K5b K2 K3 K4 K5 hE hce hz HS1 hSz
      go_wp2_with fail
      refine ((H2.out _ (XW.out.trans X1.out))).mono ?_
      rintro e w2 ⟨rfl, x⟩
      have X2 := Lib.hid (X1.out.trans x)
      clear e1
      have e1 := HD1.out _ X2.out
      clear x
      go_wp2_with fail
      refine ((H3.out _ (XW.out.trans X2.out))).mono ?_
      rintro e w3 ⟨vl, cl, rfl, _, x⟩
      have X3 := Lib.hid (X2.out.trans x)
      clear e1
      have e1 := HD1.out _ X3.out
      clear x
      go_wp2_with fail
      refine (H5.out _ (XW.out.trans X3.out)).mono ?_
      intro e w4 h4
      obtain ⟨a4, rfl, r4, x4⟩ := h4.open Hn.out
      have X4 := Lib.hid (X3.out.trans x4)
      have e4 := HD1.out _ X4.out
      clear h4 e1 x4
      obtain ⟨w5, hw5⟩ : ∃ w5, w5 = w4.alloc (.cells #[.slice a4 n n] 27) := ⟨_, rfl⟩
      have x5 : Ext w4 w5 := by rw [hw5]; exact (Ext.refl w4).alloc _
      have q1 := x5.cell e4
      have q2 : w5.cell? ⟨w4.heap.size, 0, none⟩ = some (.slice a4 n n) := by rw [hw5, World.cell?_alloc_at (hn := rfl)]; rfl
      have HQ1 := Lib.hid (fun w' (x : Ext w5 w') => x.cell q1); have HQ2 := Lib.hid (fun w' (x : Ext w5 w') => x.cell q2)
      have HR5 := Lib.hid (r4.ext x5); have X5 := Lib.hid (XW.out.trans (X4.out.trans x5)); have HW5 := Lib.hid hw5
      rw [hw5] at q1 q2
      clear r4 x5 e4 hw5
      have y0 := Lib.hid (Ext.refl w5)
      go_wp2_with fail
      rw [← HW5.out]
      refine ((H4.out _ X5.out)).mono ?_
      rintro e w6 ⟨rfl, x⟩
      have X6 := Lib.hid (y0.out.trans x)
      clear q1 q2 HW5
      have q1 := HQ1.out _ X6.out
      have q2 := HQ2.out _ X6.out
      clear x
      go_wp2_with fail
      refine ((K7.out _ _ _ (X5.out.trans X6.out) (HR5.out.ext X6.out))).mono ?_
      rintro e w7 ⟨rfl, x⟩
      have X7 := Lib.hid (X6.out.trans x)
      clear q1 q2
      have q1 := HQ1.out _ X7.out
      have q2 := HQ2.out _ X7.out
      clear x
      go_wp2_with fail
      refine ((K6.out _ (X5.out.trans X7.out))).mono ?_
      rintro e w8 ⟨rfl, x⟩
      have X8 := Lib.hid (X7.out.trans x)
      clear x
      go_wp2
      go_ret
      exact ⟨rfl, X5.out.trans X8.out⟩
    · have K2b := K2.out
      have K3b := K3.out
      rw [show bstr (ctx rows) = ⟨#[]⟩ by unfold ctx; rw [if_pos hE]; rfl] at K2b
      generalize (cloads rows).2 = LL at K3b
      generalize (cloads rows).1 = E at K3b hE
      have hE' : (E == 0) = false := beq_eq_false_iff_ne.2 hE
      have ho' : (E != 0) = true := by rw [bne, hE']; rfl
      have H2 := Lib.hid K2b; have H3 := Lib.hid K3b
      clear K2b K3b K2 K3 K4 K5 hE hz HS1
      go_wp2_with fail
      refine ((H2.out _ (XW.out.trans X1.out))).mono ?_
      rintro e w2 ⟨rfl, x⟩
      have X2 := Lib.hid (X1.out.trans x)
      clear e1
      have e1 := HD1.out _ X2.out
      clear x
      go_wp2_with fail
      refine ((H3.out _ (XW.out.trans X2.out))).mono ?_
      rintro e w3 ⟨vl, cl, rfl, _, x⟩
      have X3 := Lib.hid (X2.out.trans x)
      clear e1
      clear x
      go_wp2_with fail
      refine ((K6.out _ (XW.out.trans X3.out))).mono ?_
      rintro e w8 ⟨rfl, x⟩
      have X8 := Lib.hid (X3.out.trans x)
      clear x
      go_wp2
      go_ret
      exact ⟨rfl, XW.out.trans X8.out⟩
end Go.Proofs.YtkolebjpeaigcaaDoor
