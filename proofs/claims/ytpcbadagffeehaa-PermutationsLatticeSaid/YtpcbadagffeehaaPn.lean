/- Contract of permutations.Inversions. -/
import Derived.Test.YtpcbadagffeehaaPf
namespace Go.Proofs.Ytpcbadagffeehaa
set_option linter.unusedVariables false
set_option linter.unusedSimpArgs false
open Go Go.RowKit Go.Shelf
attribute [local go_sem] Oper.semAt_some

/-- The cells of a list of pairs. -/
def flat {n : Nat} (l : List (Pr n)) : List Value := l.flatMap fun x => [.int .u8 (x.1.1 : Int), .int .u8 (x.1.2 : Int)]
theorem flat_snoc {n : Nat} (l : List (Pr n)) (x : Pr n) : flat (l ++ [x]) = flat l ++ [.int .u8 (x.1.1 : Int), .int .u8 (x.1.2 : Int)] := by simp [flat]
theorem flat_at {n : Nat} : ∀ (l : List (Pr n)) (i : Nat) (x : Pr n), l[i]? = some x → (flat l)[i * 2]? = some (.int .u8 (x.1.1 : Int)) ∧ (flat l)[i * 2 + 1]? = some (.int .u8 (x.1.2 : Int))
  | [], i, x, h => by simp at h
  | y :: l, 0, x, h => by
    obtain rfl : y = x := by simpa using h
    exact ⟨rfl, rfl⟩
  | y :: l, i + 1, x, h => by
    have ih := flat_at l i x (by simpa using h)
    have e : flat (y :: l) = [.int .u8 (y.1.1 : Int), .int .u8 (y.1.2 : Int)] ++ flat l := rfl
    rw [e, show (i + 1) * 2 = i * 2 + 2 by omega]
    refine ⟨?_, ?_⟩
    · rw [List.getElem?_append_right (by simp)]; simpa using ih.1
    · rw [List.getElem?_append_right (by simp)]; simpa using ih.2
theorem flat_len {n : Nat} (l : List (Pr n)) : (flat l).length = l.length * 2 := by
  induction l with
  | nil => rfl
  | cons x l ih => show (flat l).length + 1 + 1 = _; rw [ih, List.length_cons]; omega

/-- A slice of pairs. -/
def PS (w : World) (v : Value) (c : Nat) {n : Nat} (l : List (Pr n)) : Prop :=
  (v = .slice none 0 0 ∧ c = 0 ∧ l = []) ∨
  ∃ b, v = .slice (some ⟨b, 0, none⟩) l.length c ∧ l.length ≤ c ∧ ∀ i x, l[i]? = some x → w.cell? ⟨b, i * 2, none⟩ = some (.int .u8 (x.1.1 : Int)) ∧ w.cell? ⟨b, i * 2 + 1, none⟩ = some (.int .u8 (x.1.2 : Int))
theorem PS.ext {w w' : World} {v : Value} {c n : Nat} {l : List (Pr n)} (h : PS w v c l) (e : Ext w w') : PS w' v c l := by
  rcases h with h | ⟨b, h1, h2, h3⟩
  · exact .inl h
  · exact .inr ⟨b, h1, h2, fun i x hx => ⟨e.cell (h3 i x hx).1, e.cell (h3 i x hx).2⟩⟩
theorem PS.of_own {w : World} {B e g k cap n : Nat} {l : List (Pr n)} (h : w.ownsRow B e 2 (.slice (some ⟨g, 0, none⟩) k cap) k (flat l)) (hk : k = l.length) : PS w (.slice (some ⟨g, 0, none⟩) k cap) cap l := by
  subst hk
  obtain ⟨_, h⟩ := h
  rcases h with ⟨h, _⟩ | ⟨g', cap', cur, hv, _, hg, hnc, _, hcs, ht⟩
  · cases h
  · simp only [Value.slice.injEq, Option.some.injEq, Addr.mk.injEq, true_and, and_true] at hv
    obtain ⟨rfl, rfl⟩ := hv
    refine .inr ⟨g, rfl, hnc, fun i x hx => ?_⟩
    have hi := (List.getElem?_eq_some_iff.1 hx).1
    have := flat_at l i x hx
    rw [← ht, List.getElem?_take, if_pos (by omega), List.getElem?_take, if_pos (by omega)] at this
    simp only [World.cell?, hg]
    simpa using this
def RetPE (w0 : World) (c : Nat) {n : Nat} (l : List (Pr n)) (err : Int) (e : Ending) (w' : World) : Prop := ∃ v, e = .returned (.tuple #[v, .int .i64 err]) ∧ PS w' v c l ∧ Ext w0 w'

theorem run_make_pairs (N : Nat) (h : N ≤ 72) (W : World) : (Instr.makeSlice 25 (.int .i64 0) (.int .i64 (N : Int))).run Try.prog W = .ok (.slice (some ⟨W.heap.size, 0, none⟩) 0 N) (W.alloc (.cells (madeCells #[.int .u8 0, .int .u8 0] (N * 2)) 36)) := by
  obtain ⟨i, hi, hz0, hz1, hz2⟩ := info_parts (show (Try.prog.info? 36).map (fun i => (i.zero, i.size, i.bytes)) = some (some (.agg #[.int .u8 0, .int .u8 0]), 2, 2) by kernel_rfl)
  have hr := run_make (P := Try.prog) W 25 36 i (.agg #[.int .u8 0, .int .u8 0]) Try.underlying25 hi hz0 .i64 .i64 0 N (by omega) (by omega) (by rw [hz2]; omega) (by omega)
  simp only [Int.toNat_natCast, hz1] at hr
  exact hr

set_option maxRecDepth 100000 in
set_option maxHeartbeats 2000000 in
theorem Inversions_calls (m : Nat) (hm : 5 ≤ m) (v : Value) (c : Nat) (xs : List Int) (w : World) (h : IS .u8 w v c xs) (hb : ∀ i, i < xs.length → 0 ≤ gi xs i ∧ gi xs i ≤ 255) :
    Calls Try.prog 11 #[v] w (RetPE w (if pcheck xs = 0 then (crossers xs).length else 0) (if pcheck xs = 0 then crossers xs else []) (pcheck xs)) := by
  obtain ⟨h1, h2, ao, rfl, hao⟩ := h.open
  have h1m : 1 ≤ m := by omega
  have hP := Length_calls m (by omega) _ c xs w h hb
  refine (callsIn_wide (n := m)).1 ?_
  refine callsIn_of_wp_marks Try.func11 rfl trivial ?_ rfl
  simp only [Try.ntmps11, List.size_toArray, List.length_cons, List.length_nil, Nat.reduceAdd, Nat.reduceSub, Array.replicate_succ, Array.replicate_zero, List.push_toArray, List.append_toArray, List.nil_append, List.cons_append]
  obtain ⟨e0, he0⟩ : ∃ e0, e0 = pcheck xs := ⟨_, rfl⟩
  rw [← he0] at hP ⊢
  have HP := Lib.hid hP
  have HE := Lib.hid he0
  have HIS := Lib.hid h
  clear hP he0 h hao
  by_cases he : e0 = 0
  · subst he
    rw [if_pos rfl] at HP
    rw [if_pos rfl, if_pos rfl]
    have h8 := (pcheck_zero HE.out.symm).2.1
    have hN72 := prsAll_len h8 (crossB xs)
    obtain ⟨N, hN⟩ : ∃ N, N = (crossers xs).length := ⟨_, rfl⟩
    have hNN : N = (prsAll xs.length (crossB xs)).length := hN
    rw [← hNN] at hN72
    rw [← hN] at HP ⊢
    have HNE := Lib.hid hNN
    clear hN hNN
    have hmk := run_make_pairs N hN72
    have hown0 := fun (W : World) => World.ownsRow_made (base := W.heap.size) (size := 2) (e := 36) W (madeCells #[.int .u8 0, .int .u8 0] (N * 2)) N (Nat.le_refl _) (by unfold maxLen; omega) (by simp [size_madeCells])
    have HOWN := Lib.hid hown0
    clear hown0
    gi_wp2_with first
      | (refine ⟨trivial, ?_⟩; gi_at_call 12; refine (callsIn_wide.2 HP.out).mono ?_; rintro e w1 ⟨rfl, hx⟩)
      | (refine ⟨trivial, ?_⟩; gi_at_call 36; refine (callsIn_wide.2 (crossing_calls _ _ _ _)).mono ?_; rintro e w2 ⟨rfl, rfl⟩)
      | (refine ⟨trivial, ?_⟩; gi_at_call 35; refine (callsIn_wide.2 (pairs_calls _ _ _ _)).mono ?_; rintro e w3 ⟨rfl, rfl⟩)
    have hr0 := HOWN.out w1
    replace hr0 := hr0.alloc (.cells #[.slice (some ⟨w1.heap.size, 0, none⟩) 0 N] 25)
    replace hr0 := hr0.alloc (.cells #[.slice ao xs.length c] 22)
    replace hr0 := hr0.alloc (.cells #[.int .i64 (xs.length : Int)] 3)
    replace hr0 := hr0.alloc (.cells #[.func (.func 48) #[] #[.pointer (some ⟨w1.heap.size + 1 + 1, 0, none⟩)]] 59)
    have bS := Boxed.new (w1.alloc (.cells (madeCells #[.int .u8 0, .int .u8 0] (N * 2)) 36)) 25 (.slice (some ⟨w1.heap.size, 0, none⟩) 0 N)
    replace bS := bS.alloc (.cells #[.slice ao xs.length c] 22)
    replace bS := bS.alloc (.cells #[.int .i64 (xs.length : Int)] 3)
    replace bS := bS.alloc (.cells #[.func (.func 48) #[] #[.pointer (some ⟨w1.heap.size + 1 + 1, 0, none⟩)]] 59)
    have bP := Boxed.new ((w1.alloc (.cells (madeCells #[.int .u8 0, .int .u8 0] (N * 2)) 36)).alloc (.cells #[.slice (some ⟨w1.heap.size, 0, none⟩) 0 N] 25)) 22 (.slice ao xs.length c)
    replace bP := bP.alloc (.cells #[.int .i64 (xs.length : Int)] 3)
    replace bP := bP.alloc (.cells #[.func (.func 48) #[] #[.pointer (some ⟨w1.heap.size + 1 + 1, 0, none⟩)]] 59)
    have bN := Boxed.new (((w1.alloc (.cells (madeCells #[.int .u8 0, .int .u8 0] (N * 2)) 36)).alloc (.cells #[.slice (some ⟨w1.heap.size, 0, none⟩) 0 N] 25)).alloc (.cells #[.slice ao xs.length c] 22)) 3 (.int .i64 (xs.length : Int))
    replace bN := bN.alloc (.cells #[.func (.func 48) #[] #[.pointer (some ⟨w1.heap.size + 1 + 1, 0, none⟩)]] 59)
    have bF := Boxed.new ((((w1.alloc (.cells (madeCells #[.int .u8 0, .int .u8 0] (N * 2)) 36)).alloc (.cells #[.slice (some ⟨w1.heap.size, 0, none⟩) 0 N] 25)).alloc (.cells #[.slice ao xs.length c] 22)).alloc (.cells #[.int .i64 (xs.length : Int)] 3)) 59 (.func (.func 48) #[] #[.pointer (some ⟨w1.heap.size + 1 + 1, 0, none⟩)])
    simp only [World.size_alloc] at bS bN bP bF
    have hx0 : Ext w1 (((((w1.alloc (.cells (madeCells #[.int .u8 0, .int .u8 0] (N * 2)) 36)).alloc (.cells #[.slice (some ⟨w1.heap.size, 0, none⟩) 0 N] 25)).alloc (.cells #[.slice ao xs.length c] 22)).alloc (.cells #[.int .i64 (xs.length : Int)] 3)).alloc (.cells #[.func (.func 48) #[] #[.pointer (some ⟨w1.heap.size + 1 + 1, 0, none⟩)]] 59)) := (((((Ext.refl w1).alloc _).alloc _).alloc _).alloc _).alloc _
    have hsz : (((((w1.alloc (.cells (madeCells #[.int .u8 0, .int .u8 0] (N * 2)) 36)).alloc (.cells #[.slice (some ⟨w1.heap.size, 0, none⟩) 0 N] 25)).alloc (.cells #[.slice ao xs.length c] 22)).alloc (.cells #[.int .i64 (xs.length : Int)] 3)).alloc (.cells #[.func (.func 48) #[] #[.pointer (some ⟨w1.heap.size + 1 + 1, 0, none⟩)]] 59)).heap.size = w1.heap.size + 5 := by simp
    obtain ⟨W0, hW0⟩ : ∃ W0, (((((w1.alloc (.cells (madeCells #[.int .u8 0, .int .u8 0] (N * 2)) 36)).alloc (.cells #[.slice (some ⟨w1.heap.size, 0, none⟩) 0 N] 25)).alloc (.cells #[.slice ao xs.length c] 22)).alloc (.cells #[.int .i64 (xs.length : Int)] 3)).alloc (.cells #[.func (.func 48) #[] #[.pointer (some ⟨w1.heap.size + 1 + 1, 0, none⟩)]] 59)) = W0 := ⟨_, rfl⟩
    rw [hW0] at hr0 bS bP bN bF hx0 hsz ⊢
    clear hW0
    have HX := Lib.hid hx; clear hx
    refine wpIn_rangeFunc_ownH rfl h1m (gf := 47) (lb := #[.pointer (some ⟨w1.heap.size + 1 + 1 + 1, 0, none⟩), .pointer (some ⟨w1.heap.size + 1 + 1 + 1 + 1, 0, none⟩)]) rfl trivial (enters_of Try.func47 (by kernel_rfl) rfl)
      (pairs_c_stops (m - 1) (by omega) (w1.heap.size + 1 + 1 + 1) (w1.heap.size + 1 + 1 + 1 + 1) (w1.heap.size + 1 + 1) xs.length h8 (crossB xs) (fun b => b < w1.heap.size ∨ w1.heap.size + 2 ≤ b ∧ b < w1.heap.size + 5) W0
        (cross_ready h8 HIS.out (HX.out.trans hx0) (fun b hb => .inl (Nat.lt_of_lt_of_le hb HX.out.size)) (by omega) (by omega) (by omega) bP bN bF))
      KL.trans (KL.putObj (fun b hb => by omega)) (Below.refl _ _) (fun _ => rfl)
      (fun pre W => (Boxed W (w1.heap.size + 1) 25 (.slice (some ⟨w1.heap.size, 0, none⟩) pre.length N) ∧ W.ownsRow w1.heap.size 36 2 (.slice (some ⟨w1.heap.size, 0, none⟩) pre.length N) pre.length (flat pre)) ∧ Below w1.heap.size w1 W)
      (fun _ _ _ => False)
      (OwnFrom.and (OwnFrom.and (Own.from (boxed_own _ _ _) _) (fun pre X Y row hs hg hr => hs.kept hg (.inr fun e => by have := (hr w1.heap.size (by simpa [Value.ownBlock] using e.symm)).1; omega))) (ownFrom_below (Nat.le_refl _) (by omega)))
      (fun _ _ _ _ _ hs _ _ => hs)
      ⟨⟨bS, hr0⟩, hx0⟩
      (fun x a' W => ∃ Bx, w1.heap.size + 1 < Bx ∧ B2 W Bx (.int .u8 (x.1.1 : Int)) (.int .u8 (x.1.2 : Int)) 36 ∧ a' = { tmps := #[.slice ao xs.length c, undef, .slice none 0 0, .int .i64 0, .int .i64 (N : Int), .int .i64 0, .pointer (some ⟨w1.heap.size + 1, 0, none⟩), .pointer (some ⟨Bx, 0, none⟩), .tuple #[.int .i64 (N : Int), .int .i64 0], .slice ao xs.length c, .tuple #[.int .i64 (N : Int), .int .i64 0], .int .i64 (N : Int), .int .i64 0, .int .i64 0, .bool false, undef, .int .i64 (N : Int), .slice (some ⟨w1.heap.size, 0, none⟩) 0 N, .slice ao xs.length c, .int .i64 (xs.length : Int), .slice ao xs.length c, .func (.func 48) #[] #[.pointer (some ⟨w1.heap.size + 1 + 1, 0, none⟩)], .func (.func 47) #[] #[.pointer (some ⟨w1.heap.size + 1 + 1 + 1, 0, none⟩), .pointer (some ⟨w1.heap.size + 1 + 1 + 1 + 1, 0, none⟩)], x.val, undef, undef, undef, undef, undef], defers := [] })
      (fun x a' _ X Y row hs hg hr => by obtain ⟨Bx, h1, h2, h3⟩ := hs; exact ⟨Bx, h1, b2_kept h2 hg (fun r e => (hr r e).2), h3⟩)
      ?assign ?body ?done ?stop
    case assign =>
      rintro l pre x W K ⟨⟨i1, i2⟩, i3⟩ hK
      obtain ⟨⟨a, b⟩, p1, p2, p3⟩ := x
      unfold Pr.val at hK ⊢
      simp only at hK ⊢
      have b2 := B2.new W (.int .u8 (a : Int)) (.int .u8 (b : Int)) 36
      have hlt := i1.lt
      have HB2 := Lib.hid b2
      have HI := Lib.hid (And.intro (And.intro i1 i2) i3)
      have HKK := Lib.hid hK
      clear b2 i1 i2 i3 hK
      gi_wp2
      exact HKK.out _ _ ((KeepsOthers.alloc _ _).from _) ((KL.refl _ _).alloc _) ⟨⟨HI.out.1.1.alloc _, HI.out.1.2.alloc _⟩, Below.alloc HI.out.2 HI.out.2.size _⟩ ⟨W.heap.size, hlt, HB2.out, rfl⟩
    case body =>
      rintro l pre x a' W hl ⟨r, hr⟩ ⟨⟨i1, i2⟩, i3⟩ ⟨Bx, hBx, bX, rfl⟩ hlen
      obtain ⟨⟨a, b⟩, p1, p2, p3⟩ := x
      unfold Pr.val
      simp only at bX p1 p2 p3 ⊢
      rw [← HNE.out] at hlen
      have r0 : W.cell? ⟨Bx, 0, none⟩ = some (.int .u8 (a : Int)) := bX.c0
      have r1 : W.cell? ⟨Bx, 1, none⟩ = some (.int .u8 (b : Int)) := bX.c1
      have q0 := i1.cell
      obtain ⟨i0, hi, hz0, hz1, hz2⟩ := info_parts (show (Try.prog.info? 36).map (fun i => (i.zero, i.size, i.bytes)) = some (some (.agg #[.int .u8 0, .int .u8 0]), 2, 2) by kernel_rfl)
      have hnew := B2.new W (.int .u8 (a : Int)) (.int .u8 (b : Int)) 36
      have HI := Lib.hid (And.intro (And.intro i1 i2) i3)
      have HN := Lib.hid hnew
      have Hz := Lib.hid (And.intro hz1 hi)
      have hls := i1.lt
      have HB3 := Lib.hid i3.size
      clear i1 i2 i3 bX hr hnew hz0 hz1 hz2 hi
      gi_wp2_with (gi_at_builtin; refine wpListIn_append_fits _ rfl _ _ 25 rfl w1.heap.size 36 i0 2 Try.underlying25 Hz.out.2 Hz.out.1 w1.heap.size pre.length N (flat pre) rfl (HI.out.1.2.alloc _) ⟨W.heap.size, 0, none⟩ 1 1 [.int .u8 (a : Int), .int .u8 (b : Int)] rfl rfl ?c1 ?c2 ?c3 ?_)
      case c1 =>
        intro j u hj
        rw [Addr.add_lit]
        match j, hj with
        | 0, hj => obtain rfl : Value.int .u8 (a : Int) = u := by simpa using hj
                   exact HN.out.c0
        | 1, hj => obtain rfl : Value.int .u8 (b : Int) = u := by simpa using hj
                   exact HN.out.c1
        | j + 2, hj => simp at hj
      case c2 =>
        intro u hu
        simp only [List.mem_cons, List.not_mem_nil, or_false] at hu
        rcases hu with rfl | rfl <;> rfl
      case c3 => omega
      intro w3 hown' hgrow
      have ha := Boxed.appended HI.out.1.1 (by decide) HI.out.1.2 HB3.out (by omega) hown' hgrow
      have q1 := ha.1.cell
      have q1f := ha.1.frozen
      have HA := Lib.hid ha.2
      have HG := Lib.hid hgrow
      clear ha hown' hgrow
      gi_wp2
      have hf := flat_snoc pre ⟨(a, b), p1, p2, p3⟩
      simp only at hf
      obtain ⟨g1, g2, g3, g4⟩ := HA.out
      rw [← hf] at g2
      refine ⟨g3.from _, ((KL.refl _ W).alloc _ |>.grown HG.out (fun k e => by cases e; omega)).setCell (by simp only; omega) _, ⟨?_, ?_⟩, Below.trans HI.out.2 g4⟩
      · rw [List.length_append]; exact g1
      · rw [List.length_append]; exact g2
    case done =>
      rintro D ys W hD rfl ⟨⟨i1, i2⟩, i3⟩ hK
      rw [← HNE.out] at i1 i2
      have q0 := i1.cell
      have HI := Lib.hid (And.intro (And.intro i1 i2) i3)
      clear i1 i2 i3
      gi_wp2
      refine ⟨by simp, .inl ⟨_, _, rfl, run_takeDeferred hK, ?_⟩⟩
      obtain ⟨⟨i1, i2⟩, i3⟩ := HI.out
      have i4 := ownsRow_putObj i2 (.deferred none) hK rfl
      exact ⟨.tuple #[.slice (some ⟨w1.heap.size, 0, none⟩) N N, .int .i64 0], by simp [results, Try.f11, go_sem], ⟨_, rfl, PS.of_own i4 HNE.out, HX.out.trans (Below.trans i3 (belowK_b (w := w1) (Nat.le_refl _) W D _ _ (by omega) hK rfl rfl))⟩⟩
    case stop =>
      rintro D c pre W _ _ h _
      exact h.elim
  · have he' : (e0 != 0) = true := by simpa using he
    rw [if_neg he] at HP
    rw [if_neg he, if_neg he]
    clear he
    gi_wp2_with (refine ⟨trivial, ?_⟩; gi_at_call 12; refine (callsIn_wide.2 HP.out).mono ?_; rintro e w1 ⟨rfl, hx⟩)
    exact ⟨.tuple #[.slice none 0 0, .int .i64 e0], by simp [results, Try.f11, go_sem], ⟨_, rfl, .inl ⟨rfl, rfl, rfl⟩, hx⟩⟩
end Go.Proofs.Ytpcbadagffeehaa
