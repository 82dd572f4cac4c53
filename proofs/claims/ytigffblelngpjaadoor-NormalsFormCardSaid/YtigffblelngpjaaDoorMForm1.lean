/- Texts of this claim in one file: libraries and walks. -/
import Derived.Test.YtigffblelngpjaaDoorL0
import Derived.Test.YtigffblelngpjaaDoorL8
import Derived.Test.YtigffblelngpjaaDoorL9
/- Contract of permutations.Inversions. -/
namespace Go.Proofs.YtigffblelngpjaaDoor
set_option linter.unusedVariables false
set_option linter.unusedSimpArgs false
open Go Go.RowKit Go.Shelf
attribute [local go_sem] Oper.semAt_some

/-- The cells of a list of pairs. -/
def flat {n : Nat} (l : List (Pr n)) : List Value := l.flatMap fun x => [.int .u8 (x.1.1 : Int), .int .u8 (x.1.2 : Int)]
theorem flat_snoc {n : Nat} (l : List (Pr n)) (x : Pr n) : flat (l ++ [x]) = flat l ++ [.int .u8 (x.1.1 : Int), .int .u8 (x.1.2 : Int)] := by simp [flat]
theorem flat_at {n : Nat} : ∀ (l : List (Pr n)) (i : Nat) (x : Pr n), l[i]? = some x → (flat l)[i * 2]? = some (.int .u8 (x.1.1 : Int)) ∧ (flat l)[i * 2 + 1]? = some (.int .u8 (x.1.2 : Int))
  | [], i, x, h => by simp at h
  | y :: l, 0, x, h => by
    obtain rfl : y = x := by simpa using h
    exact ⟨rfl, rfl⟩
  | y :: l, i + 1, x, h => by
    have ih := flat_at l i x (by simpa using h)
    have e : flat (y :: l) = [.int .u8 (y.1.1 : Int), .int .u8 (y.1.2 : Int)] ++ flat l := rfl
    rw [e, show (i + 1) * 2 = i * 2 + 2 by omega]
    refine ⟨?_, ?_⟩
    · rw [List.getElem?_append_right (by simp)]; simpa using ih.1
    · rw [List.getElem?_append_right (by simp)]; simpa using ih.2
theorem flat_len {n : Nat} (l : List (Pr n)) : (flat l).length = l.length * 2 := by
  induction l with
  | nil => rfl
  | cons x l ih => show (flat l).length + 1 + 1 = _; rw [ih, List.length_cons]; omega

/-- A slice of pairs. -/
def PSq (w : World) (v : Value) (c : Nat) {n : Nat} (l : List (Pr n)) : Prop :=
  (v = .slice none 0 0 ∧ c = 0 ∧ l = []) ∨
  ∃ b, v = .slice (some ⟨b, 0, none⟩) l.length c ∧ l.length ≤ c ∧ ∀ i x, l[i]? = some x → w.cell? ⟨b, i * 2, none⟩ = some (.int .u8 (x.1.1 : Int)) ∧ w.cell? ⟨b, i * 2 + 1, none⟩ = some (.int .u8 (x.1.2 : Int))
theorem PSq.ext {w w' : World} {v : Value} {c n : Nat} {l : List (Pr n)} (h : PSq w v c l) (e : Ext w w') : PSq w' v c l := by
  rcases h with h | ⟨b, h1, h2, h3⟩
  · exact .inl h
  · exact .inr ⟨b, h1, h2, fun i x hx => ⟨e.cell (h3 i x hx).1, e.cell (h3 i x hx).2⟩⟩
theorem PSq.of_own {w : World} {B e g k cap n : Nat} {l : List (Pr n)} (h : w.ownsRow B e 2 (.slice (some ⟨g, 0, none⟩) k cap) k (flat l)) (hk : k = l.length) : PSq w (.slice (some ⟨g, 0, none⟩) k cap) cap l := by
  subst hk
  obtain ⟨_, h⟩ := h
  rcases h with ⟨h, _⟩ | ⟨g', cap', cur, hv, _, hg, hnc, _, hcs, ht⟩
  · cases h
  · simp only [Value.slice.injEq, Option.some.injEq, Addr.mk.injEq, true_and, and_true] at hv
    obtain ⟨rfl, rfl⟩ := hv
    refine .inr ⟨g, rfl, hnc, fun i x hx => ?_⟩
    have hi := (List.getElem?_eq_some_iff.1 hx).1
    have := flat_at l i x hx
    rw [← ht, List.getElem?_take, if_pos (by omega), List.getElem?_take, if_pos (by omega)] at this
    simp only [World.cell?, hg]
    simpa using this
def RetPE (w0 : World) (c : Nat) {n : Nat} (l : List (Pr n)) (err : Int) (e : Ending) (w' : World) : Prop := ∃ v, e = .returned (.tuple #[v, .int .i64 err]) ∧ PSq w' v c l ∧ Ext w0 w'

end Go.Proofs.YtigffblelngpjaaDoor
/- Contract of permutations.Word. -/
namespace Go.Proofs.YtigffblelngpjaaDoor
set_option linter.unusedVariables false
set_option linter.unusedSimpArgs false
open Go Go.RowKit

/-- The row of what is left, and the word so far. -/
def WSt (w1 wr : World) (R G N M : Nat) (xs : List Int) (k : Nat) : Prop :=
  Ext w1 wr ∧ (∃ f, wr.rowIs R 5 N f ∧ ∀ j, j < N → f j = .int .u8 (gi (wleft xs k) j)) ∧ wr.ownsRow (w1.heap.size + 1) 3 1 (.slice (some ⟨G, 0, none⟩) k M) k ((wlet xs k).map (Value.int .i64))

theorem setCell_row_other {w : World} {b : Nat} {t : TypeId} {n : Nat} {f : Nat → Value} (h : w.rowIs b t n f) {a : Addr} (hn : b ≠ a.block) (u : Value) : (w.setCell a u).rowIs b t n f := h.of_block (Below.heap_setCell _ _ _ _ hn)

/-- Behind the exchange, in whichever order it was done. -/
theorem WSt.exch {w1 wr : World} {R G N M : Nat} {xs : List Int} {k : Nat} (h : WSt w1 wr R G N M xs k) (hRG : R ≠ G) (hR : w1.heap.size ≤ R) {y : Nat} (hy : y + 1 < N) (hN : (wleft xs k).length = N) (hk : ffN (wleft xs k) = y + 1) (W : World)
    (hW : W = (wr.setCell ⟨R, y, none⟩ (.int .u8 (gi (wleft xs k) (y + 1)))).setCell ⟨R, y + 1, none⟩ (.int .u8 (gi (wleft xs k) y)) ∨ W = (wr.setCell ⟨R, y + 1, none⟩ (.int .u8 (gi (wleft xs k) y))).setCell ⟨R, y, none⟩ (.int .u8 (gi (wleft xs k) (y + 1)))) :
    Ext w1 W ∧ (∃ f, W.rowIs R 5 N f ∧ ∀ j, j < N → f j = .int .u8 (gi (wleft xs (k + 1)) j)) ∧ W.ownsRow (w1.heap.size + 1) 3 1 (.slice (some ⟨G, 0, none⟩) k M) k ((wlet xs k).map (Value.int .i64)) := by
  obtain ⟨h1, ⟨f, h2, hf⟩, h3⟩ := h
  have hs : ∀ j, gi (wleft xs (k + 1)) j = if j = y + 1 then gi (wleft xs k) y else if j = y then gi (wleft xs k) (y + 1) else gi (wleft xs k) j := fun j => by
    rw [wleft, hk, swL_gi (by omega) (by omega), Nat.add_sub_cancel]
  have hown : ∀ (W : World) (a : Addr) (u : Value), a.block = R → W.ownsRow (w1.heap.size + 1) 3 1 (.slice (some ⟨G, 0, none⟩) k M) k ((wlet xs k).map (Value.int .i64)) → (W.setCell a u).ownsRow (w1.heap.size + 1) 3 1 (.slice (some ⟨G, 0, none⟩) k M) k ((wlet xs k).map (Value.int .i64)) := fun W a u ha hh => by
    obtain ⟨hl, hh⟩ := hh
    refine ⟨hl, ?_⟩
    rcases hh with hh | ⟨g, cap, cur, hv, hb, hg, hr⟩
    · exact .inl hh
    · have : g = G := by simp at hv; exact hv.1.symm
      exact .inr ⟨g, cap, cur, hv, hb, (Below.heap_setCell _ _ _ _ (by rw [ha, this]; exact fun e => hRG e.symm)).trans hg, hr⟩
  rcases hW with rfl | rfl
  · refine ⟨(h1.setCell (by simpa using hR) _).setCell (by simpa using hR) _, ⟨_, (h2.set y _).set (y + 1) _, fun j hj => ?_⟩, hown _ _ _ rfl (hown _ _ _ rfl h3)⟩
    rw [hs]
    by_cases e : j = y + 1
    · simp [e]
    · by_cases e' : j = y
      · simp [e']
      · simp [e, e', hf j hj]
  · refine ⟨(h1.setCell (by simpa using hR) _).setCell (by simpa using hR) _, ⟨_, (h2.set (y + 1) _).set y _, fun j hj => ?_⟩, hown _ _ _ rfl (hown _ _ _ rfl h3)⟩
    rw [hs]
    by_cases e : j = y
    · simp [e]
    · by_cases e' : j = y + 1
      · simp [e']
      · simp [e, e', hf j hj]

theorem IS.of_ownx {w : World} {B e g n cap : Nat} {xs : List Int} (h : w.ownsRow B e 1 (.slice (some ⟨g, 0, none⟩) n cap) n (xs.map (Value.int .i64))) (hn : xs.length = n) : IS .i64 w (.slice (some ⟨g, 0, none⟩) n cap) cap xs := by
  obtain ⟨c, hc⟩ := IS.of_own h
  have := hc.len
  obtain rfl := this.2.1
  exact hc

theorem Word_bad (v : Value) (c : Nat) (xs : List Int) (w : World) (h : IS .u8 w v c xs) (hb : U8L xs) (h0 : pcheck xs ≠ 0) :
    Calls Tryd.prog 61 #[v] w (RetIE .i64 w 0 [] (pcheck xs)) := by
  have hP := Length_calls 5 (by omega) _ c xs w h hb
  obtain ⟨_, _, ao, rfl, _⟩ := h.open
  rw [if_neg h0] at hP
  obtain ⟨e1, he1⟩ : ∃ e, e = pcheck xs := ⟨_, rfl⟩
  rw [← he1] at hP h0 ⊢
  have HP := Lib.hid hP
  have hne : (e1 != 0) = true := by simpa using h0
  clear hP he1 h0 h hb
  go_enter Tryd.func61, Tryd.ntmps61
  go_wp2_with fail
  refine HP.out.mono ?_
  rintro e w1 ⟨rfl, hx⟩
  go_wp2
  go_ret2
  exact ⟨_, rfl, IS.nil _ _, hx⟩

set_option maxRecDepth 100000 in
set_option maxHeartbeats 2000000 in
theorem Word_ok (v : Value) (c : Nat) (xs : List Int) (w : World) (h : IS .u8 w v c xs) (hb : U8L xs) (h0 : pcheck xs = 0) :
    Calls Tryd.prog 61 #[v] w (RetIE .i64 w (crossers xs).length (wlet xs (crossers xs).length) 0) := by
  have hP := Length_calls 5 (by omega) _ c xs w h hb
  obtain ⟨h1, h2, ao, rfl, hao⟩ := h.open
  rw [if_pos h0, h0] at hP
  obtain ⟨hl1, hl, hok⟩ := pcheck_zero h0
  obtain ⟨b, o, rfl, hc⟩ : ∃ b o, ao = some ⟨b, o, none⟩ ∧ ∀ i, i < xs.length → w.cell? ⟨b, o + i, none⟩ = some (.int .u8 (gi xs i)) := by
    rcases hao with ⟨_, h0, _⟩ | h
    · omega
    · exact h
  have hspec : ∀ k : Nat, k < (crossers xs).length → (wleft xs k).length = xs.length ∧ inR (wleft xs k) (wleft xs k).length ∧ fallsL (wleft xs k) ≠ [] := fun k hk => by
    have := wleft_spec hok k (by rw [← crossers_len]; omega)
    exact ⟨this.1, pok_inR this.2.1, falls_of_invs (by rw [this.2.2, ← crossers_len]; omega)⟩
  have hM72 := prsAll_len hl (crossB xs)
  have hwl := wlet_len xs
  obtain ⟨M, hM⟩ : ∃ M, M = (crossers xs).length := ⟨_, rfl⟩
  have hM72' : M ≤ 72 := by rw [hM]; exact hM72
  rw [← hM] at hP hspec ⊢
  obtain ⟨N, hN⟩ : ∃ N, N = xs.length := ⟨_, rfl⟩
  have hxl : ∀ (W : World), (∃ f, W.rowIs w.heap.size 5 N f) → True := fun _ _ => trivial
  rw [← hN] at hP h1 hl hl1 hc hspec ⊢
  have HC := Lib.hid hc; have HP := Lib.hid hP; have HS := Lib.hid hspec; have HN := Lib.hid hN; have HW := Lib.hid hwl
  clear hN hM hb hc h hP h0 hok hao hM72 hxl hspec hwl
  unfold maxLen at h2
  have hmk := run_make_row' (P := Tryd.prog) 22 5 (.int .u8 0) 1 Tryd.underlying22 (by kernel_rfl) rfl .i64 .i64 N (by omega) (by omega)
  have hmk2 := run_make_cap eiInt .i64 .i64 M (by omega) (by omega)
  go_enter Tryd.func61, Tryd.ntmps61
  go_wp2_with fail
  refine HP.out.mono ?_
  rintro e w1 ⟨rfl, hx⟩
  have HX := Lib.hid hx
  clear hx
  go_wp2_with (refine wpList_copy_splice (o := ⟨some 22, _, _, _, _, _⟩) rfl _ _ 22 22 rfl 5 Tryd.underlying22 (by kernel_rfl) (some ⟨w1.heap.size, 0, none⟩) (some ⟨b, o, none⟩) N N N c rfl rfl w1.heap.size 0 (madeCells #[.int .u8 0] N).toList 5 ?c1 (xs.map (Value.int .u8)) ?c2 ?c3 ?c4 ?c5 w1.heap.size w1 ?c6 (Nat.le_refl _) ?_)
  case c1 => rw [Array.toArray_toList]; exact Deep.blk_alloc_new _ _
  case c2 => rw [List.length_map, ← HN.out]; exact (Nat.min_self N).symm
  case c3 =>
    intro _ j a hj
    have hlt : j < xs.length := (List.getElem?_eq_some_iff.1 hj).1
    rw [gi_some hlt] at hj
    obtain rfl := Option.some.inj hj
    exact ((Ext.refl w1).alloc _).cell (HX.out.cell (HC.out j (by rw [HN.out]; exact hlt)))
  case c4 => rw [List.length_map, ← HN.out, Array.length_toList, size_madeCells]; simp
  case c5 => exact onesI xs
  case c6 => exact (Ext.refl w1).alloc _
  intro w2 hrow2 hx2
  have hrow : ∃ f, w2.rowIs w1.heap.size 5 N f ∧ ∀ j, j < N → f j = .int .u8 (gi (wleft xs 0) j) := by
    have hh := hrow2.out
    have es : splice (madeCells #[.int .u8 0] N).toList 0 (xs.map (Value.int .u8)) = xs.map (Value.int .u8) := by
      unfold splice
      rw [List.take_zero, List.nil_append, List.drop_eq_nil_of_le (by rw [Array.length_toList, size_madeCells, List.length_map, ← HN.out]; simp), List.append_nil]
    rw [es] at hh
    refine ⟨fun j => .int .u8 (gi xs j), ⟨_, hh, by simp [← HN.out], fun i hi => ?_⟩, fun _ _ => rfl⟩
    rw [List.getElem?_toArray, List.getElem?_map, gi_some (by rw [← HN.out]; exact hi)]; rfl
  have hlt2 : w1.heap.size < w2.heap.size := lt_of_block hrow2.out
  have hS0 : WSt w1 (w2.alloc (.cells (madeCells #[.int .i64 0] M) 3)) w1.heap.size w2.heap.size N M xs 0 := by
    obtain ⟨f, r1, r2⟩ := hrow
    exact ⟨Ext.alloc hx2 _, ⟨f, ((Ext.refl w2).alloc _).row r1, r2⟩, World.ownsRow_made w2 _ M (by omega) (by unfold maxLen; omega) (by simp [size_madeCells])⟩
  have HS0 := Lib.hid hS0
  clear hrow2 hx2 hrow hS0
  go_wp2
  go_loopw [7, 26] (fun v i wr => ∃ k : Nat, k ≤ M ∧ i = .int .i64 k ∧ v = .slice (some ⟨w2.heap.size, 0, none⟩) k M ∧ Hid (WSt w1 wr w1.heap.size w2.heap.size N M xs k)) (fun _ i _ => M - (intOf i).toNat)
  case atStart => exact ⟨0, Nat.zero_le _, rfl, rfl, HS0⟩
  case round =>
    obtain ⟨k, hk, rfl, rfl, H⟩ := hrel
    by_cases hlt : k < M
    · obtain ⟨g1, g2, g3⟩ := HS.out k hlt
      have hff := ffN_spec g3
      have hIS : IS .u8 wr (.slice (some ⟨w1.heap.size, 0, none⟩) N N) N (wleft xs k) := by
        obtain ⟨f, r1, r2⟩ := H.out.2.1
        exact IS.of_row r1 g1.symm (by unfold maxLen; omega) r2
      have hcall := falls_calls _ _ (wleft xs k) wr hIS (by rw [g1]; exact hl)
      have hlen : 0 < (fallsL (wleft xs k)).length := List.length_pos_iff.2 g3
      obtain ⟨y, hy⟩ : ∃ y, ffN (wleft xs k) = y + 1 := ⟨ffN (wleft xs k) - 1, by omega⟩
      have hyN : y + 1 < N := by rw [← hy, ← g1]; exact hff.2.2.1
      have e0 : gi (fallsL (wleft xs k)) 0 = (y : Int) + 1 := by rw [hff.1, hy]; omega
      obtain ⟨F, hF⟩ : ∃ F, F = fallsL (wleft xs k) := ⟨_, rfl⟩
      rw [← hF] at hcall hlen e0
      have E0 := Lib.hid e0; have HY := Lib.hid hy; have HCL := Lib.hid hcall; have G1 := Lib.hid g1
      clear e0 hy hcall g1 g2 g3 hff hF hIS
      go_wp2_with fail
      refine HCL.out.mono ?_
      rintro e w3 hret
      obtain ⟨v3, rfl, r1, r2, r3⟩ := hret
      obtain ⟨a3, n3, c3, rfl, hn3, rfl, r1⟩ := r1.out
      have hp3 : 0 < n3 := by rw [hn3]; exact hlen
      obtain ⟨b3, o3, rfl, hc3⟩ := r1.at hp3
      have q0 := hc3 0 hp3
      rw [E0.out, Nat.add_zero] at q0
      have hS3 : WSt w1 w3 w1.heap.size w2.heap.size N M xs k := ⟨H.out.1.trans r2, by obtain ⟨f, s1, s2⟩ := H.out.2.1; exact ⟨f, r2.row s1, s2⟩, own_ext H.out.2.2 r2⟩
      obtain ⟨f, s1, s2⟩ := hS3.2.1
      have qa := s1.cell (i := y) (by omega)
      have qb := s1.cell (i := y + 1) hyN
      rw [s2 y (by omega)] at qa
      rw [s2 (y + 1) hyN] at qb
      have qaf := s1.frozen y
      have qbf := s1.frozen (y + 1)
      have HS3 := Lib.hid hS3
      have HE := Lib.hid (fun W hW => WSt.exch hS3 (by omega) (Nat.le_refl _) hyN G1.out HY.out W hW)
      obtain ⟨pa, hpa⟩ : ∃ x, x = gi (wleft xs k) y := ⟨_, rfl⟩
      obtain ⟨pb, hpb⟩ : ∃ x, x = gi (wleft xs k) (y + 1) := ⟨_, rfl⟩
      rw [← hpa] at qa HE
      rw [← hpb] at qb HE
      have qb' : (w3.setCell ⟨w1.heap.size, y, none⟩ (.int .u8 pb)).frozen? ⟨w1.heap.size, y + 1, none⟩ = false := by simpa using qbf
      clear hpa hpb s1 s2 hS3 r1 r3 hc3 hn3
      go_wp2
      go_region
      all_goals
        go_wp2_with (at_builtin; refine app_fits eiInt rfl _ _ rfl (w1.heap.size + 1) w2.heap.size k M _ rfl (World.ownsRow.drew (World.ownsRow.alloc (HE.out _ ?hw).2.2 _)) (.slice (some ⟨w3.heap.size, 0, none⟩) 1 1) 1 [.int .i64 ((y : Int) + 1)] rfl (VS.lit (n := 1) (xs := [.int .i64 ((y : Int) + 1)]) rfl ?d4 rfl (by decide)).drew (one1 _) ?d1 ?d2 ?_)
        try (case hw => first
          | exact .inl rfl
          | exact .inr rfl)
        case d4 => simp
        case d1 => simp only [List.length_cons, List.length_nil]; omega
        case d2 => simp; have := r2.size; have := H.out.1.size; omega
        intro w4 hown4 hb4
        have hw : ∃ W, (W = (w3.setCell ⟨w1.heap.size, y, none⟩ (.int .u8 pb)).setCell ⟨w1.heap.size, y + 1, none⟩ (.int .u8 pa) ∨ W = (w3.setCell ⟨w1.heap.size, y + 1, none⟩ (.int .u8 pa)).setCell ⟨w1.heap.size, y, none⟩ (.int .u8 pb)) ∧ Below (w1.heap.size + 1) (W.alloc (.cells #[.int .i64 ((y : Int) + 1)] 3)).drew w4 := by
          first
          | exact ⟨_, .inl rfl, hb4⟩
          | exact ⟨_, .inr rfl, hb4⟩
        have HW4 := Lib.hid (And.intro hown4 hw)
        clear hown4 hb4 hw
        go_wp2
        go_roundw
        case rel =>
          obtain ⟨hown4, W, hW, hb4⟩ := HW4.out
          obtain ⟨x1, ⟨f2, x2, x3⟩, x4⟩ := HE.out W hW
          have hlt4 : w1.heap.size < W.heap.size := lt_of_block x2.choose_spec.1
          refine ⟨k + 1, by omega, by go_num, rfl, Lib.hid ⟨Below.trans ((x1.alloc _).drew) (Below.mono hb4 (Nat.le_succ _)), ⟨f2, ?_, x3⟩, ?_⟩⟩
          · exact (((Ext.refl W).alloc _).row x2).drew.of_block (hb4.block _ (Nat.lt_succ_self _))
          · rw [wlet_succ, List.map_append, HY.out]
            exact hown4
        case measure => simp [intOf]; omega
    · obtain rfl : k = M := by omega
      go_wp2
      go_ret2
      refine ⟨_, rfl, ?_, HX.out.trans H.out.1⟩
      have := IS.of_ownx H.out.2.2 (HW.out _)
      exact this

end Go.Proofs.YtigffblelngpjaaDoor
