/- The law WordsReduce: its walk. -/
import Derived.Test.YtbappfeojdehgaaWv
namespace Go.Proofs.Ytbappfeojdehgaa
set_option linter.unusedVariables false
set_option linter.unusedSimpArgs false
open Go Go.RowKit

/-! ### words of plain data are words -/
theorem letter_ok {n x : Int} (hn : 1 < n) (h8 : n ≤ 8) (hx : 0 ≤ x) : wbad n (letter n x) = false ∧ -100 ≤ letter n x ∧ letter n x ≤ 100 := by
  have e1 : 0 ≤ x / 2 % (n - 1) := Int.emod_nonneg _ (by omega)
  have e2 : x / 2 % (n - 1) < n - 1 := Int.emod_lt_of_pos _ (by omega)
  by_cases h : x % 2 = 1
  · rw [letter_neg h]; exact ⟨wbad_not (by omega) (by omega) (by omega), by omega, by omega⟩
  · rw [letter_pos h]; exact ⟨wbad_not (by omega) (by omega) (by omega), by omega, by omega⟩
theorem wordOf_mem {n : Int} {xs : List Int} (h8 : n ≤ 8) (hx : ∀ i, i < xs.length → 0 ≤ gi xs i ∧ gi xs i ≤ 255) : ∀ k ∈ wordOf n xs, wbad n k = false ∧ -100 ≤ k ∧ k ≤ 100 := by
  intro k hk
  unfold wordOf at hk
  split at hk
  · simp at hk
  · obtain ⟨x, hx', rfl⟩ := List.mem_map.1 hk
    exact letter_ok (by omega) h8 (gi_all (P := fun x => 0 ≤ x) (fun i hi => (hx i hi).1) x (List.mem_of_mem_take hx'))
theorem wordOf_len (n : Int) (xs : List Int) : (wordOf n xs).length ≤ 24 := by
  unfold wordOf; split <;> simp; omega
theorem wcheck_mem {n : Int} {w : List Int} (h1 : 1 ≤ n) (h8 : n ≤ 8) (hl : w.length ≤ 64) (hm : ∀ k ∈ w, wbad n k = false) : wcheck n w = 0 := by
  exact wcheck_ok h1 h8 hl fun i hi => hm _ (gi_mem hi)

/-! ### a word and its inverse cancel -/
def RedL (st : List Int) : Prop := ∀ j, j + 1 < st.length → gi st j ≠ - gi st (j + 1)
theorem redL_nil : RedL [] := fun j h => by simp at h
theorem redL_step {st : List Int} {k : Int} (h : RedL st) : RedL (redStep st k) := by
  by_cases hp : 0 < st.length ∧ gi st (st.length - 1) = -k
  · rw [redStep_pop hp.1 hp.2]
    intro j hj
    rw [List.length_dropLast] at hj
    rw [List.dropLast_eq_take, gi_take (by omega), gi_take (by omega)]
    exact h j (by omega)
  · have hn : 0 < st.length → gi st (st.length - 1) ≠ -k := fun a b => hp ⟨a, b⟩
    rw [redStep_push hn]
    intro j hj
    simp only [List.length_append, List.length_cons, List.length_nil] at hj
    by_cases e : j + 1 < st.length
    · rw [gi_append_left (by omega), gi_append_left e]; exact h j e
    · rw [gi_append_left (by omega), gi_append_right (by omega)]
      have : j + 1 - st.length = 0 := by omega
      rw [this, gi_cons_zero]
      have := hn (by omega)
      rwa [show st.length - 1 = j from by omega] at this
theorem redL_fold (xs : List Int) : ∀ st, RedL st → RedL (xs.foldl redStep st) := by
  induction xs with
  | nil => intro st h; exact h
  | cons k xs ih => intro st h; exact ih _ (redL_step h)
theorem redL_red (xs : List Int) : RedL (red xs) := redL_fold xs [] redL_nil

/-- A letter and its opposite change nothing. -/
theorem redStep_back {st : List Int} {k : Int} (h : RedL st) (hk : k ≠ 0) : redStep (redStep st k) (-k) = st := by
  by_cases hp : 0 < st.length ∧ gi st (st.length - 1) = -k
  · rw [redStep_pop hp.1 hp.2]
    have hst : st = st.dropLast ++ [-k] := by
      have h1 : st.take (st.length - 1 + 1) = st.take (st.length - 1) ++ [gi st (st.length - 1)] := take_succ_gi (by omega)
      rw [show st.length - 1 + 1 = st.length from by omega, List.take_length, hp.2, ← List.dropLast_eq_take] at h1
      exact h1
    rw [redStep_push, ← hst]
    intro h0
    rw [List.length_dropLast] at h0 ⊢
    rw [List.dropLast_eq_take, gi_take (by omega)]
    have := h (st.length - 1 - 1) (by omega)
    rw [show st.length - 1 - 1 + 1 = st.length - 1 from by omega, hp.2] at this
    exact this
  · have hn : 0 < st.length → gi st (st.length - 1) ≠ -k := fun a b => hp ⟨a, b⟩
    rw [redStep_push hn, redStep_pop (by simp)]
    · simp
    · simp only [List.length_append, List.length_cons, List.length_nil]
      rw [gi_append_right (by omega), show st.length + (0 + 1) - 1 - st.length = 0 from by omega, gi_cons_zero]; omega

theorem fold_inv : ∀ (n : Nat) (xs : List Int), xs.length = n → (∀ k ∈ xs, k ≠ 0) → ∀ st, RedL st → (xs ++ xs.reverse.map (fun x => -x)).foldl redStep st = st := by
  intro n
  induction n with
  | zero => intro xs h _ st _; obtain rfl := List.eq_nil_of_length_eq_zero h; rfl
  | succ n ih =>
    intro xs h hk st hst
    have hd : xs = xs.take n ++ [gi xs n] := by rw [← take_succ_gi (by omega), List.take_of_length_le (by omega)]
    obtain ⟨ys, hys⟩ : ∃ ys, ys = xs.take n := ⟨_, rfl⟩
    obtain ⟨k, hkk⟩ : ∃ k, k = gi xs n := ⟨_, rfl⟩
    rw [← hys, ← hkk] at hd
    have hl : ys.length = n := by rw [hys]; simp; omega
    have hk0 : k ≠ 0 := hk k (by rw [hd]; simp)
    have e : xs ++ xs.reverse.map (fun x => -x) = ys ++ (k :: -k :: ys.reverse.map (fun x => -x)) := by rw [hd]; simp
    rw [e, List.foldl_append]
    simp only [List.foldl_cons]
    rw [redStep_back (redL_fold ys st hst) hk0, ← List.foldl_append]
    exact ih ys hl (fun x hx => hk x (by rw [hd]; simp [hx])) st hst
theorem red_inv {xs : List Int} (hk : ∀ k ∈ xs, k ≠ 0) : red (xs ++ xs.reverse.map (fun x => -x)) = [] := fold_inv _ xs rfl hk [] redL_nil


/-! ### the walk -/
theorem Strands_m (n m : Int) (w : World) (h : 0 ≤ n ∧ n ≤ 255) (hm : m = 1 + n % 6) : Calls Try.prog 8 #[.int .u8 n] w fun e w' => e = .returned (.int .i64 m) ∧ w = w' := by
  rw [hm]; exact Strands_calls n w h

theorem flipk_neg {n k : Int} (h : k < 0) : flipk n k = -(n + k) := by unfold flipk; rw [sgn_neg h]; omega
theorem flipk_pos {n k : Int} (h : ¬ k < 0) : flipk n k = n - k := by unfold flipk; rw [sgn_pos h]; omega

set_option maxHeartbeats 1000000 in
set_option maxRecDepth 100000 in
theorem WordsReduce_walk (n : Int) (v : Value) (c : Nat) (xs : List Int) (w : World) (hn : 0 ≤ n ∧ n ≤ 255) (h : IS .u8 w v c xs) (hb : ∀ i, i < xs.length → 0 ≤ gi xs i ∧ gi xs i ≤ 255) :
    Calls Try.prog 3 #[.int .u8 n, v] w fun e w' => e = .returned (.bool true) ∧ Ext w w' := by
  obtain ⟨m, hm⟩ : ∃ m, m = 1 + n % 6 := ⟨_, rfl⟩
  have m1 : 1 ≤ m := by omega
  have m6 : m ≤ 6 := by omega
  have hStr := fun w => Strands_m n m w hn hm
  obtain ⟨W, hW⟩ : ∃ W, W = wordOf m xs := ⟨_, rfl⟩
  have hOf := Of_calls m v c xs w h hb ⟨m1, by omega⟩
  have hmem := wordOf_mem (n := m) (by omega) hb
  have hlen := wordOf_len m xs
  rw [← hW] at hOf hmem hlen
  have hnz : ∀ k ∈ W, k ≠ 0 := fun k hk h0 => by have := (hmem k hk).1; rw [h0] at this; simp [wbad] at this
  have hwc : wcheck m W = 0 := wcheck_mem (by omega) (by omega) (by omega) fun k hk => (hmem k hk).1
  have hbd : ∀ i, i < W.length → -100 ≤ gi W i ∧ gi W i ≤ 100 := fun i hi => (hmem _ (gi_mem hi)).2
  have hmem2 : ∀ k ∈ W ++ W.reverse.map (fun x => -x), wbad m k = false ∧ -100 ≤ k ∧ k ≤ 100 := by
    intro k hk
    simp only [List.mem_append, List.mem_map, List.mem_reverse] at hk
    rcases hk with hk | ⟨x, hx, rfl⟩
    · exact hmem k hk
    · obtain ⟨h1, h2, h3⟩ := hmem x hx
      refine ⟨?_, by omega, by omega⟩
      unfold wbad at h1 ⊢
      simp only [Bool.or_eq_false_iff, beq_eq_false_iff_ne, decide_eq_false_iff_not] at h1 ⊢
      omega
  have hlen2 : (W ++ W.reverse.map (fun x => -x)).length = W.length + W.length := by simp
  have hwc2 : wcheck m (W ++ W.reverse.map (fun x => -x)) = 0 := wcheck_mem (by omega) (by omega) (by omega) fun k hk => (hmem2 k hk).1
  have hbd2 : ∀ i, i < (W ++ W.reverse.map (fun x => -x)).length → -100 ≤ gi (W ++ W.reverse.map (fun x => -x)) i ∧ gi (W ++ W.reverse.map (fun x => -x)) i ≤ 100 := fun i hi => (hmem2 _ (gi_mem hi)).2
  have hinv := red_inv hnz
  have hrl := red_len W
  obtain ⟨L, hL⟩ : ∃ L, L = W.length := ⟨_, rfl⟩
  rw [← hL] at hlen
  have HOf := Lib.hid hOf; have HL := Lib.hid hL; have Hwc := Lib.hid hwc; have Hbd := Lib.hid hbd; have Hwc2 := Lib.hid hwc2; have Hbd2 := Lib.hid hbd2; have Hinv := Lib.hid hinv; have Hl2 := Lib.hid hlen2; have HS := Lib.hid hStr
  clear hOf hL hwc hbd hwc2 hbd2 hinv hlen2 hStr hmem hmem2 hnz hW hm hb h hrl
  go_enter Try.func3, Try.ntmps3
  go_wp2_with fail
  refine (HS.out _).mono ?_
  rintro e w1 ⟨rfl, rfl⟩
  go_wp2_with fail
  refine HOf.out.mono ?_
  intro e w1 hh
  obtain ⟨a1, L', c1, rfl, hl, h1, x1⟩ := hh.open
  obtain rfl : L = L' := by rw [hl, HL.out]
  have X1 := Lib.hid x1; have H1 := Lib.hid h1
  clear hh hl h1 x1
  go_wp2_with fail
  refine (Reduce_calls m _ _ W _ H1.out Hwc.out Hbd.out (by rw [← HL.out]; omega)).mono ?_
  intro e w2 hh
  obtain ⟨a2, n2, c2, rfl, hn2, hc2, h2, x2⟩ := hh.open
  obtain rfl : n2 = c2 := by rw [hn2, hc2]
  have X2 := Lib.hid (X1.out.trans x2); have H2 := Lib.hid h2; replace H1 := Lib.hid (H1.out.ext x2)
  have N2 : n2 ≤ 24 := by have := red_len W; have := HL.out; omega
  clear hh hn2 hc2 h2 x2
  go_wp2_with fail
  refine (Inverse_calls m _ _ W _ H1.out Hwc.out Hbd.out (by rw [← HL.out]; omega)).mono ?_
  intro e w3 hh
  obtain ⟨a3, n3, c3, rfl, hn3, hc3, h3, x3⟩ := hh.open
  obtain rfl : L = n3 := by rw [hn3, HL.out]; simp
  obtain rfl : L = c3 := by rw [hc3, HL.out]
  have X3 := Lib.hid (X2.out.trans x3); have H3 := Lib.hid h3; replace H1 := Lib.hid (H1.out.ext x3); replace H2 := Lib.hid (H2.out.ext x3)
  clear hh hn3 hc3 h3 x3
  go_wp2_with (at_builtin; refine app_own eiInt rfl _ _ rfl w3.heap.size _ 0 [] rfl (World.ownsRow_made w3 #[] 0 (Nat.le_refl _) (by unfold maxLen; omega) rfl) _ _ _ rfl (H1.out.ext ((Ext.refl w3).alloc _)) (onesI _) ?c1 ?c2 ?c3 ?_)
  case c1 => have := HL.out; simp; omega
  case c2 => have := HL.out; simp; omega
  case c3 => simp
  intro v4 w4 hown4 hb4
  have x4 : Ext w3 w4 := Below.trans ((Ext.refl w3).alloc _) hb4
  have Hown4 := Lib.hid (show w4.ownsRow w3.heap.size 3 1 v4 L (W.map (Value.int .i64)) by
    have := hown4
    simp only [List.length_map, Nat.zero_add, List.nil_append, ← HL.out] at this
    exact this)
  have S4 := Lib.hid x4
  clear hown4 hb4 x4
  go_wp2_with (at_builtin; refine app_own eiInt rfl _ _ rfl w3.heap.size v4 L _ rfl Hown4.out _ _ _ rfl (H3.out.ext S4.out) (onesI _) ?d1 ?d2 ?d3 ?_)
  case d1 => have := HL.out; simp; omega
  case d2 => have := HL.out; simp; omega
  case d3 => exact S4.out.size
  intro v5 w5 hown5 hb5
  have x5 : Ext w3 w5 := Below.trans S4.out hb5
  have hown5' : w5.ownsRow w3.heap.size 3 1 v5 (L + L) ((W ++ W.reverse.map (fun x => -x)).map (Value.int .i64)) := by
    have := hown5
    rw [← HL.out] at this
    rw [List.map_append, List.map_map, List.map_reverse]
    exact this
  obtain ⟨c5, h5⟩ := IS.of_own hown5'
  have X5 := Lib.hid (X3.out.trans x5); have H5 := Lib.hid h5; replace H1 := Lib.hid (H1.out.ext x5); replace H2 := Lib.hid (H2.out.ext x5); replace H3 := Lib.hid (H3.out.ext x5)
  clear hown5 hb5 x5 hown5' h5 Hown4 S4
  go_wp2_with fail
  refine (Reduce_calls m _ _ _ _ H5.out Hwc2.out Hbd2.out (by rw [Hl2.out, ← HL.out]; omega)).mono ?_
  intro e w6 hh
  obtain ⟨a6, n6, c6, rfl, hn6, hc6, h6, x6⟩ := hh.open
  rw [Hinv.out] at hn6
  obtain rfl : 0 = n6 := hn6.symm
  have X6 := Lib.hid (X5.out.trans x6); replace H1 := Lib.hid (H1.out.ext x6); replace H2 := Lib.hid (H2.out.ext x6); replace H3 := Lib.hid (H3.out.ext x6)
  clear hh hn6 hc6 h6 x6 H5
  go_wp2_with fail
  refine (Mirror_calls m _ _ W _ H1.out Hwc.out Hbd.out (by rw [← HL.out]; omega)).mono ?_
  intro e w7 hh
  obtain ⟨a7, n7, c7, rfl, hn7, hc7, h7, x7⟩ := hh.open
  obtain rfl : L = n7 := by rw [hn7, HL.out]; simp
  obtain rfl : L = c7 := by rw [hc7, HL.out]
  have X7 := Lib.hid (X6.out.trans x7); have H7 := Lib.hid h7; replace H1 := Lib.hid (H1.out.ext x7); replace H2 := Lib.hid (H2.out.ext x7); replace H3 := Lib.hid (H3.out.ext x7)
  clear hh hn7 hc7 h7 x7
  go_wp2_with fail
  refine (Flip_calls m _ _ W _ H1.out Hwc.out ⟨m1, by omega⟩ Hbd.out (by rw [← HL.out]; omega)).mono ?_
  intro e w8 hh
  obtain ⟨a8, n8, c8, rfl, hn8, hc8, h8, x8⟩ := hh.open
  obtain rfl : L = n8 := by rw [hn8, HL.out]; simp
  obtain rfl : L = c8 := by rw [hc8, HL.out]
  have X8 := Lib.hid (X7.out.trans x8); have H8 := Lib.hid h8; replace H1 := Lib.hid (H1.out.ext x8); replace H2 := Lib.hid (H2.out.ext x8); replace H3 := Lib.hid (H3.out.ext x8); replace H7 := Lib.hid (H7.out.ext x8)
  clear hh hn8 hc8 h8 x8
  go_wp2_with fail
  refine (reduced_calls _ _ W _ H1.out (by rw [← HL.out]; omega) Hbd.out).mono ?_
  rintro e w9 ⟨v9, c9, rfl, h9, x9⟩
  have X9 := Lib.hid (X8.out.trans x9); have H9 := Lib.hid h9; replace H1 := Lib.hid (H1.out.ext x9); replace H2 := Lib.hid (H2.out.ext x9); replace H3 := Lib.hid (H3.out.ext x9); replace H7 := Lib.hid (H7.out.ext x9); replace H8 := Lib.hid (H8.out.ext x9)
  clear h9 x9
  have hsame : sameB (red W) (red W) = true := sameB_eq _
  go_wp2_with fail
  refine (same_ext _ _ _ _ _ _ _ H2.out H9.out).mono ?_
  rintro e w10 ⟨rfl, x10⟩
  have X10 := Lib.hid (X9.out.trans x10); replace H1 := Lib.hid (H1.out.ext x10); replace H3 := Lib.hid (H3.out.ext x10); replace H7 := Lib.hid (H7.out.ext x10); replace H8 := Lib.hid (H8.out.ext x10)
  clear x10 H9 H2
  have hcap : ((L : Int) + L + L != 3 * (L : Int)) = false := by simp; omega
  go_wp2
  clear N2 X1 X2 X3 X5 X6 X7 X8 X9 Hwc Hwc2 Hbd2 Hinv Hl2 HOf hcap hsame
  go_loopw [17, 18] (fun i _ wr => ∃ k q : Nat, k ≤ L ∧ i = .int .i64 k ∧ wr = w10.drewN q) (fun i _ _ => L - (intOf i).toNat)
  case atStart => exact ⟨0, 0, Nat.zero_le _, rfl, rfl⟩
  case round =>
    obtain ⟨k, q, hk, rfl, rfl⟩ := hrel
    by_cases hlt : k < L
    · have hd1 : decide ((k : Int) < L) = true := by simp; omega
      obtain ⟨b1, o1, rfl, hc1⟩ := H1.out.at hlt
      obtain ⟨b3, o3, rfl, hc3⟩ := H3.out.at hlt
      obtain ⟨b7, o7, rfl, hc7⟩ := H7.out.at hlt
      obtain ⟨b8, o8, rfl, hc8⟩ := H8.out.at hlt
      have hk1 := hc1 k hlt
      have hk3 := hc3 (L - 1 - k) (by omega)
      have hk7 := hc7 k hlt
      have hk8 := hc8 k hlt
      rw [negs_gi (by rw [← HL.out]; omega), ← HL.out, show L - 1 - (L - 1 - k) = k from by omega] at hk3
      rw [gi_map _ (by rw [← HL.out]; omega)] at hk7 hk8
      obtain ⟨g1, g2⟩ := Hbd.out k (by rw [← HL.out]; omega)
      clear hc1 hc3 hc7 hc8
      generalize gi W k = x at hk1 hk3 hk7 hk8 g1 g2
      have e1 : (0 : Int) ≤ (L : Int) - 1 - (k : Int) := by omega
      have e2 : (L : Int) - 1 - (k : Int) < L := by omega
      have e3 : IntKind.i64.wrap ((L : Int) - 1) = (L : Int) - 1 := IntWalk.i64_in _ ⟨by omega, by omega⟩
      have e4 : IntKind.i64.wrap ((L : Int) - 1 - (k : Int)) = (L : Int) - 1 - (k : Int) := IntWalk.i64_in _ ⟨by omega, by omega⟩
      have e5 : ((L : Int) - 1 - (k : Int)).toNat = L - 1 - k := by omega
      have e6 : (k : Int) < L := by omega
      have e7 : IntKind.i64.wrap (-x) = -x := IntWalk.i64_in _ ⟨by omega, by omega⟩
      by_cases hx : x < 0
      · have hd2 : decide (x < 0) = true := by simp [hx]
        rw [flipk_neg hx] at hk8
        go_wp2
        go_quiet (fail)
        clear e3 e4 e5 e7
        go_wp2
        go_roundw
        case rel => exact ⟨k + 1, _, by omega, by go_num, rfl⟩
        case measure => simp [intOf]; omega
      · have hd2 : decide (x < 0) = false := by simp; omega
        rw [flipk_pos hx] at hk8
        go_wp2
        go_quiet (fail)
        clear e3 e4 e5 e7
        go_wp2
        go_roundw
        case rel => exact ⟨k + 1, _, by omega, by go_num, rfl⟩
        case measure => simp [intOf]; omega
    · have hd1 : decide ((k : Int) < L) = false := by simp; omega
      go_wp2_with fail
      refine (lives_calls _).mono ?_
      rintro e w11 ⟨rfl, x11⟩
      go_wp2
      go_ret
      exact ⟨rfl, (X10.out.drewN _).trans x11⟩
end Go.Proofs.Ytbappfeojdehgaa
