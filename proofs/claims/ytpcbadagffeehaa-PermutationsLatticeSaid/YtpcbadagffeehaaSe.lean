/- Contract of the law's own function lives: the examples of the chapter. -/
import Derived.Test.YtpcbadagffeehaaSd
namespace Go.Proofs.Ytpcbadagffeehaa
set_option linter.unusedVariables false
set_option linter.unusedSimpArgs false
open Go Go.RowKit

theorem RetIE.lit {k : IntKind} {w0 w' : World} {c : Nat} {xs : List Int} {err : Int} {e : Ending} (h : RetIE k w0 c xs err e w') {n : Nat} (hn : xs.length = n) :
    ∃ a, e = .returned (.tuple #[.slice a n c, .int .i64 err]) ∧ IS k w' (.slice a n c) c xs ∧ Ext w0 w' := by
  obtain ⟨a, n', c', rfl, rfl, rfl, h1, h2⟩ := h.open
  subst hn
  exact ⟨a, rfl, h1, h2⟩

theorem lv_times (W : World) (v1 v2 : Value) (c1 c2 : Nat) (h : IS .u8 W v1 c1 [2, 3, 1]) (h' : IS .u8 W v2 c2 [2, 1, 3]) :
    Calls Try.prog 23 #[v1, v2] W (RetIE .u8 W 3 [1, 3, 2] 0) := by
  have := Times_calls v1 v2 c1 c2 [2, 3, 1] [2, 1, 3] W h h' (show U8L [2, 3, 1] by unfold U8L; decide) (show U8L [2, 1, 3] by unfold U8L; decide)
  exact this

theorem lv_inv (W : World) (v : Value) (c : Nat) (h : IS .u8 W v c [2, 3, 1]) :
    Calls Try.prog 27 #[v] W (RetIE .u8 W 3 [3, 1, 2] 0) := by
  have := Inverse_calls v c [2, 3, 1] W h (show U8L [2, 3, 1] by unfold U8L; decide)
  exact this

theorem lv_flip (W : World) (v : Value) (c : Nat) (h : IS .u8 W v c [2, 3, 1]) : Calls Try.prog 28 #[v] W (RetIE .u8 W 3 [3, 1, 2] 0) := by
  have := Flip_ok v c [2, 3, 1] W h (show U8L [2, 3, 1] by unfold U8L; decide) (by decide)
  exact this

theorem lv_starts (W : World) (v : Value) (c : Nat) (h : IS .u8 W v c [2, 3, 1]) :
    Calls Try.prog 13 #[v] W (RetIE .i64 W 1 [2] 0) := by
  have := Starts_calls v c [2, 3, 1] W h (show U8L [2, 3, 1] by unfold U8L; decide)
  exact this

theorem lv_ends (W : World) (v : Value) (c : Nat) (h : IS .u8 W v c [2, 3, 1]) :
    Calls Try.prog 14 #[v] W (RetIE .i64 W 1 [1] 0) := by
  have := Ends_calls v c [2, 3, 1] W h (show U8L [2, 3, 1] by unfold U8L; decide)
  exact this

theorem lv_word (W : World) (v : Value) (c : Nat) (h : IS .u8 W v c [2, 3, 1]) : Calls Try.prog 30 #[v] W (RetIE .i64 W 2 [2, 1] 0) := by
  have := Word_ok v c [2, 3, 1] W h (show U8L [2, 3, 1] by unfold U8L; decide) (by decide)
  exact this

theorem lv_meet (W : World) (v1 v2 : Value) (c1 c2 : Nat) (h : IS .u8 W v1 c1 [2, 3, 1]) (h' : IS .u8 W v2 c2 [3, 1, 2]) :
    Calls Try.prog 19 #[v1, v2] W (RetIE .u8 W 3 [1, 2, 3] 0) := by
  have := Meet_calls v1 v2 c1 c2 [2, 3, 1] [3, 1, 2] W h h' (show U8L [2, 3, 1] by unfold U8L; decide) (show U8L [3, 1, 2] by unfold U8L; decide)
  exact this

theorem lv_join (W : World) (v1 v2 : Value) (c1 c2 : Nat) (h : IS .u8 W v1 c1 [2, 1, 3]) (h' : IS .u8 W v2 c2 [1, 3, 2]) :
    Calls Try.prog 25 #[v1, v2] W (RetIE .u8 W 3 [3, 2, 1] 0) := by
  have := Join_calls v1 v2 c1 c2 [2, 1, 3] [1, 3, 2] W h h' (show U8L [2, 1, 3] by unfold U8L; decide) (show U8L [1, 3, 2] by unfold U8L; decide)
  exact this

theorem lv_rest (W : World) (v1 v2 : Value) (c1 c2 : Nat) (h : IS .u8 W v1 c1 [1, 3, 2]) (h' : IS .u8 W v2 c2 [2, 3, 1]) :
    Calls Try.prog 21 #[v1, v2] W (RetIE .u8 W 3 [2, 1, 3] 0) := by
  have := Rest_calls v1 v2 c1 c2 [1, 3, 2] [2, 3, 1] W h h' (show U8L [1, 3, 2] by unfold U8L; decide) (show U8L [2, 3, 1] by unfold U8L; decide) (fun _ => show inR (invL [1, 3, 2]) 3 by unfold inR; decide)
  exact this

theorem lv_no (W : World) (v1 v2 : Value) (c1 c2 : Nat) (h : IS .u8 W v1 c1 [2, 1, 3]) (h' : IS .u8 W v2 c2 [2, 3, 1]) :
    Calls Try.prog 21 #[v1, v2] W (RetIE .u8 W 0 [] 7) := by
  have := Rest_calls v1 v2 c1 c2 [2, 1, 3] [2, 3, 1] W h h' (show U8L [2, 1, 3] by unfold U8L; decide) (show U8L [2, 3, 1] by unfold U8L; decide) (fun _ => show inR (invL [2, 1, 3]) 3 by unfold inR; decide)
  exact this

theorem lv_below (W : World) (v1 v2 : Value) (c1 c2 : Nat) (h : IS .u8 W v1 c1 [1, 3, 2]) (h' : IS .u8 W v2 c2 [2, 3, 1]) :
    Calls Try.prog 20 #[v1, v2] W fun e w' => e = .returned (.tuple #[.bool true, .int .i64 0]) ∧ Ext W w' := by
  have := Below_calls v1 v2 c1 c2 [1, 3, 2] [2, 3, 1] W h h' (show U8L [1, 3, 2] by unfold U8L; decide) (show U8L [2, 3, 1] by unfold U8L; decide)
  exact this

theorem lv_same (xs : List Int) (hb : U8L xs) (W : World) (v1 v2 : Value) (c2 : Nat) (c1 : Nat) (hc : c1 = xs.length) (h : IS .u8 W v1 c1 xs) (h' : IS .u8 W v2 c2 xs) :
    Calls Try.prog 24 #[v1, v2] W fun e w' => e = .returned (.bool true) ∧ W = w' := by
  have := same_calls v1 v2 c1 c2 xs xs W h h' hb hb
  have e : sameB xs xs c1 = true := by unfold sameB; exact decide_eq_true ⟨rfl, hc⟩
  rw [e] at this; exact this
theorem lv_list (xs : List Int) (W : World) (v1 v2 : Value) (c2 : Nat) (c1 : Nat) (hc : c1 = xs.length) (h : IS .i64 W v1 c1 xs) (h' : IS .i64 W v2 c2 xs) :
    Calls Try.prog 16 #[v1, v2] W fun e w' => e = .returned (.bool true) ∧ Ext W w' := by
  have := list_calls v1 v2 c1 c2 xs xs W h h'
  have e : sameB xs xs c1 = true := by unfold sameB; exact decide_eq_true ⟨rfl, hc⟩
  rw [e] at this; exact this
theorem lv_pairs (W : World) (v : Value) (c : Nat) (h : IS .u8 W v c [2, 3, 1]) :
    Calls Try.prog 11 #[v] W fun e w' => ∃ b, e = .returned (.tuple #[.slice (some ⟨b, 0, none⟩) 2 2, .int .i64 0]) ∧
      (w'.cell? ⟨b, 0, none⟩ = some (.int .u8 1) ∧ w'.cell? ⟨b, 1, none⟩ = some (.int .u8 3) ∧ w'.cell? ⟨b, 2, none⟩ = some (.int .u8 2) ∧ w'.cell? ⟨b, 3, none⟩ = some (.int .u8 3)) ∧ Ext W w' := by
  refine (Inversions_calls 5 (by omega) v c [2, 3, 1] W h (show U8L [2, 3, 1] by unfold U8L; decide)).mono ?_
  rintro e w' ⟨v', rfl, hp, hx⟩
  have e0 : pcheck [2, 3, 1] = 0 := by decide
  rw [e0] at hp ⊢
  rw [if_pos rfl, if_pos rfl] at hp
  have el : (crossers [2, 3, 1]).map Subtype.val = [(1, 3), (2, 3)] := by decide
  have en : (crossers [2, 3, 1]).length = 2 := by have := congrArg List.length el; simpa using this
  rcases hp with ⟨_, _, h0⟩ | ⟨b, rfl, _, hc⟩
  · rw [h0] at en; cases en
  · rw [en]
    have hg : ∀ i y, [(1, 3), (2, 3)][i]? = some y → ∃ x : Pr (List.length [(2 : Int), 3, 1]), (crossers [2, 3, 1])[i]? = some x ∧ x.1 = y := fun i y hy => by
      rw [← el, List.getElem?_map] at hy
      obtain ⟨x, hx, hxy⟩ := Option.map_eq_some_iff.1 hy
      exact ⟨x, hx, hxy⟩
    obtain ⟨x, hx0, hx1⟩ := hg 0 _ rfl
    obtain ⟨y, hy0, hy1⟩ := hg 1 _ rfl
    have a := hc 0 x hx0
    have b' := hc 1 y hy0
    rw [hx1] at a
    rw [hy1] at b'
    exact ⟨b, rfl, ⟨a.1, a.2, b'.1, b'.2⟩, hx⟩

set_option maxRecDepth 100000 in
set_option maxHeartbeats 8000000 in
theorem lives_calls (w : World) : Calls Try.prog 17 #[] w fun e w' => e = .returned (.bool true) ∧ Ext w w' := by
  have HX := Lib.hid (Ext.refl w)
  have hn1 : ∀ W, (binOp .neq 36 (.agg #[.int .u8 1, .int .u8 3]) (.agg #[.int .u8 1, .int .u8 3])).run Try.prog W = .ok (.bool false) W := fun W => by kernel_rfl
  have hn2 : ∀ W, (binOp .neq 36 (.agg #[.int .u8 2, .int .u8 3]) (.agg #[.int .u8 2, .int .u8 3])).run Try.prog W = .ok (.bool false) W := fun W => by kernel_rfl
  replace HX := Lib.hid (HX.out.alloc (.cells #[.int .u8 2, .int .u8 3, .int .u8 1] 5))
  have I1 : Hid (IS .u8 (w.alloc (.cells #[.int .u8 2, .int .u8 3, .int .u8 1] 5)) (.slice (some ⟨w.heap.size, 0, none⟩) 3 3) 3 [2, 3, 1]) := Lib.hid (IS.lit rfl (by simp) rfl (by decide))
  replace I1 := Lib.hid (I1.out.ext (((Ext.refl (w.alloc (.cells #[.int .u8 2, .int .u8 3, .int .u8 1] 5))).alloc (.cells #[.int .u8 2, .int .u8 1, .int .u8 3] 5))))
  replace HX := Lib.hid (HX.out.alloc (.cells #[.int .u8 2, .int .u8 1, .int .u8 3] 5))
  have I2 : Hid (IS .u8 ((w.alloc (.cells #[.int .u8 2, .int .u8 3, .int .u8 1] 5)).alloc (.cells #[.int .u8 2, .int .u8 1, .int .u8 3] 5)) (.slice (some ⟨w.heap.size + 1, 0, none⟩) 3 3) 3 [2, 1, 3]) := Lib.hid (IS.lit rfl (by simp) rfl (by decide))
  replace I1 := Lib.hid (I1.out.ext (((Ext.refl ((w.alloc (.cells #[.int .u8 2, .int .u8 3, .int .u8 1] 5)).alloc (.cells #[.int .u8 2, .int .u8 1, .int .u8 3] 5))).alloc (.cells #[.int .u8 1, .int .u8 3, .int .u8 2] 5))))
  replace I2 := Lib.hid (I2.out.ext (((Ext.refl ((w.alloc (.cells #[.int .u8 2, .int .u8 3, .int .u8 1] 5)).alloc (.cells #[.int .u8 2, .int .u8 1, .int .u8 3] 5))).alloc (.cells #[.int .u8 1, .int .u8 3, .int .u8 2] 5))))
  replace HX := Lib.hid (HX.out.alloc (.cells #[.int .u8 1, .int .u8 3, .int .u8 2] 5))
  have I3 : Hid (IS .u8 (((w.alloc (.cells #[.int .u8 2, .int .u8 3, .int .u8 1] 5)).alloc (.cells #[.int .u8 2, .int .u8 1, .int .u8 3] 5)).alloc (.cells #[.int .u8 1, .int .u8 3, .int .u8 2] 5)) (.slice (some ⟨w.heap.size + 1 + 1, 0, none⟩) 3 3) 3 [1, 3, 2]) := Lib.hid (IS.lit rfl (by simp) rfl (by decide))
  go_enter Try.func17, Try.ntmps17
  have HC := Lib.hid (lv_times _ _ _ _ _ I1.out I2.out)
  go_wp2_with fail
  refine HC.out.mono ?_
  clear HC
  rintro e w1 hret
  obtain ⟨aI4, rfl, r, x⟩ := hret.lit (n := 3) rfl
  replace I1 := Lib.hid (I1.out.ext (x))
  replace I2 := Lib.hid (I2.out.ext (x))
  replace I3 := Lib.hid (I3.out.ext (x))
  have I4 := Lib.hid r
  replace HX := Lib.hid (HX.out.trans x)
  clear r x
  have HC := Lib.hid (lv_inv _ _ _ I1.out)
  go_wp2_with fail
  refine HC.out.mono ?_
  clear HC
  rintro e w2 hret
  obtain ⟨aI6, rfl, r, x⟩ := hret.lit (n := 3) rfl
  replace I1 := Lib.hid (I1.out.ext (x))
  replace I2 := Lib.hid (I2.out.ext (x))
  replace I3 := Lib.hid (I3.out.ext (x))
  replace I4 := Lib.hid (I4.out.ext (x))
  have I6 := Lib.hid r
  replace HX := Lib.hid (HX.out.trans x)
  clear r x
  have HC := Lib.hid (lv_flip _ _ _ I1.out)
  go_wp2_with fail
  refine HC.out.mono ?_
  clear HC
  rintro e w3 hret
  obtain ⟨aI8, rfl, r, x⟩ := hret.lit (n := 3) rfl
  replace I1 := Lib.hid (I1.out.ext (x))
  replace I2 := Lib.hid (I2.out.ext (x))
  replace I3 := Lib.hid (I3.out.ext (x))
  replace I4 := Lib.hid (I4.out.ext (x))
  replace I6 := Lib.hid (I6.out.ext (x))
  have I8 := Lib.hid r
  replace HX := Lib.hid (HX.out.trans x)
  clear r x
  have HC := Lib.hid (lv_pairs _ _ _ I1.out)
  go_wp2_with fail
  refine HC.out.mono ?_
  clear HC
  rintro e w4 ⟨bd, rfl, ⟨d0, d1, d2, d3⟩, x⟩
  replace I1 := Lib.hid (I1.out.ext (x))
  replace I2 := Lib.hid (I2.out.ext (x))
  replace I3 := Lib.hid (I3.out.ext (x))
  replace I4 := Lib.hid (I4.out.ext (x))
  replace I6 := Lib.hid (I6.out.ext (x))
  replace I8 := Lib.hid (I8.out.ext (x))
  replace HX := Lib.hid (HX.out.trans x)
  clear x
  have HC := Lib.hid (lv_starts _ _ _ I1.out)
  go_wp2_with fail
  refine HC.out.mono ?_
  clear HC
  rintro e w5 hret
  obtain ⟨aI12, rfl, r, x⟩ := hret.lit (n := 1) rfl
  replace I1 := Lib.hid (I1.out.ext (x))
  replace I2 := Lib.hid (I2.out.ext (x))
  replace I3 := Lib.hid (I3.out.ext (x))
  replace I4 := Lib.hid (I4.out.ext (x))
  replace I6 := Lib.hid (I6.out.ext (x))
  replace I8 := Lib.hid (I8.out.ext (x))
  have d0' := (x).cell d0
  have d0_89 := d0'
  clear d0'
  have d1' := (x).cell d1
  have d1_92 := d1'
  clear d1'
  have d2' := (x).cell d2
  have d2_95 := d2'
  clear d2'
  have d3' := (x).cell d3
  have d3_98 := d3'
  clear d3'
  have I12 := Lib.hid r
  replace HX := Lib.hid (HX.out.trans x)
  clear r x
  have HC := Lib.hid (lv_ends _ _ _ I1.out)
  go_wp2_with fail
  refine HC.out.mono ?_
  clear HC
  rintro e w6 hret
  obtain ⟨aI14, rfl, r, x⟩ := hret.lit (n := 1) rfl
  replace I1 := Lib.hid (I1.out.ext (x))
  replace I2 := Lib.hid (I2.out.ext (x))
  replace I3 := Lib.hid (I3.out.ext (x))
  replace I4 := Lib.hid (I4.out.ext (x))
  replace I6 := Lib.hid (I6.out.ext (x))
  replace I8 := Lib.hid (I8.out.ext (x))
  replace I12 := Lib.hid (I12.out.ext (x))
  have d0' := (x).cell d0_89
  have d0_117 := d0'
  clear d0'
  have d1' := (x).cell d1_92
  have d1_120 := d1'
  clear d1'
  have d2' := (x).cell d2_95
  have d2_123 := d2'
  clear d2'
  have d3' := (x).cell d3_98
  have d3_126 := d3'
  clear d3'
  have I14 := Lib.hid r
  replace HX := Lib.hid (HX.out.trans x)
  clear r x
  have HC := Lib.hid (lv_word _ _ _ I1.out)
  go_wp2_with fail
  refine HC.out.mono ?_
  clear HC
  rintro e w7 hret
  obtain ⟨aI16, rfl, r, x⟩ := hret.lit (n := 2) rfl
  replace I1 := Lib.hid (I1.out.ext (x))
  replace I2 := Lib.hid (I2.out.ext (x))
  replace I3 := Lib.hid (I3.out.ext (x))
  replace I4 := Lib.hid (I4.out.ext (x))
  replace I6 := Lib.hid (I6.out.ext (x))
  replace I8 := Lib.hid (I8.out.ext (x))
  replace I12 := Lib.hid (I12.out.ext (x))
  replace I14 := Lib.hid (I14.out.ext (x))
  have d0' := (x).cell d0_117
  have d0_146 := d0'
  clear d0'
  have d1' := (x).cell d1_120
  have d1_149 := d1'
  clear d1'
  have d2' := (x).cell d2_123
  have d2_152 := d2'
  clear d2'
  have d3' := (x).cell d3_126
  have d3_155 := d3'
  clear d3'
  have I16 := Lib.hid r
  replace HX := Lib.hid (HX.out.trans x)
  clear r x
  have HC := Lib.hid (lv_same [1, 3, 2] (show U8L [1, 3, 2] by unfold U8L; decide) _ _ _ _ _ rfl I4.out I3.out)
  go_wp2_with fail
  refine HC.out.mono ?_
  clear HC
  rintro e w' ⟨rfl, rfl⟩
  replace I1 := Lib.hid (I1.out.ext (((Ext.refl w7).alloc (.cells #[.int .u8 3, .int .u8 1, .int .u8 2] 5))))
  replace I2 := Lib.hid (I2.out.ext (((Ext.refl w7).alloc (.cells #[.int .u8 3, .int .u8 1, .int .u8 2] 5))))
  replace I3 := Lib.hid (I3.out.ext (((Ext.refl w7).alloc (.cells #[.int .u8 3, .int .u8 1, .int .u8 2] 5))))
  replace I4 := Lib.hid (I4.out.ext (((Ext.refl w7).alloc (.cells #[.int .u8 3, .int .u8 1, .int .u8 2] 5))))
  replace I6 := Lib.hid (I6.out.ext (((Ext.refl w7).alloc (.cells #[.int .u8 3, .int .u8 1, .int .u8 2] 5))))
  replace I8 := Lib.hid (I8.out.ext (((Ext.refl w7).alloc (.cells #[.int .u8 3, .int .u8 1, .int .u8 2] 5))))
  replace I12 := Lib.hid (I12.out.ext (((Ext.refl w7).alloc (.cells #[.int .u8 3, .int .u8 1, .int .u8 2] 5))))
  replace I14 := Lib.hid (I14.out.ext (((Ext.refl w7).alloc (.cells #[.int .u8 3, .int .u8 1, .int .u8 2] 5))))
  replace I16 := Lib.hid (I16.out.ext (((Ext.refl w7).alloc (.cells #[.int .u8 3, .int .u8 1, .int .u8 2] 5))))
  have d0' := (((Ext.refl w7).alloc (.cells #[.int .u8 3, .int .u8 1, .int .u8 2] 5))).cell d0_146
  have d0_175 := d0'
  clear d0'
  have d1' := (((Ext.refl w7).alloc (.cells #[.int .u8 3, .int .u8 1, .int .u8 2] 5))).cell d1_149
  have d1_178 := d1'
  clear d1'
  have d2' := (((Ext.refl w7).alloc (.cells #[.int .u8 3, .int .u8 1, .int .u8 2] 5))).cell d2_152
  have d2_181 := d2'
  clear d2'
  have d3' := (((Ext.refl w7).alloc (.cells #[.int .u8 3, .int .u8 1, .int .u8 2] 5))).cell d3_155
  have d3_184 := d3'
  clear d3'
  replace HX := Lib.hid (HX.out.alloc (.cells #[.int .u8 3, .int .u8 1, .int .u8 2] 5))
  have J1 : Hid (IS .u8 (w7.alloc (.cells #[.int .u8 3, .int .u8 1, .int .u8 2] 5)) (.slice (some ⟨w7.heap.size, 0, none⟩) 3 3) 3 [3, 1, 2]) := Lib.hid (IS.lit rfl (by simp) rfl (by decide))
  have HC := Lib.hid (lv_same [3, 1, 2] (show U8L [3, 1, 2] by unfold U8L; decide) _ _ _ _ _ rfl I6.out J1.out)
  go_wp2_with fail
  refine HC.out.mono ?_
  clear HC
  rintro e w' ⟨rfl, rfl⟩
  replace I1 := Lib.hid (I1.out.ext (((Ext.refl (w7.alloc (.cells #[.int .u8 3, .int .u8 1, .int .u8 2] 5))).alloc (.cells #[.int .u8 3, .int .u8 1, .int .u8 2] 5))))
  replace I2 := Lib.hid (I2.out.ext (((Ext.refl (w7.alloc (.cells #[.int .u8 3, .int .u8 1, .int .u8 2] 5))).alloc (.cells #[.int .u8 3, .int .u8 1, .int .u8 2] 5))))
  replace I3 := Lib.hid (I3.out.ext (((Ext.refl (w7.alloc (.cells #[.int .u8 3, .int .u8 1, .int .u8 2] 5))).alloc (.cells #[.int .u8 3, .int .u8 1, .int .u8 2] 5))))
  replace I4 := Lib.hid (I4.out.ext (((Ext.refl (w7.alloc (.cells #[.int .u8 3, .int .u8 1, .int .u8 2] 5))).alloc (.cells #[.int .u8 3, .int .u8 1, .int .u8 2] 5))))
  replace I6 := Lib.hid (I6.out.ext (((Ext.refl (w7.alloc (.cells #[.int .u8 3, .int .u8 1, .int .u8 2] 5))).alloc (.cells #[.int .u8 3, .int .u8 1, .int .u8 2] 5))))
  replace I8 := Lib.hid (I8.out.ext (((Ext.refl (w7.alloc (.cells #[.int .u8 3, .int .u8 1, .int .u8 2] 5))).alloc (.cells #[.int .u8 3, .int .u8 1, .int .u8 2] 5))))
  replace I12 := Lib.hid (I12.out.ext (((Ext.refl (w7.alloc (.cells #[.int .u8 3, .int .u8 1, .int .u8 2] 5))).alloc (.cells #[.int .u8 3, .int .u8 1, .int .u8 2] 5))))
  replace I14 := Lib.hid (I14.out.ext (((Ext.refl (w7.alloc (.cells #[.int .u8 3, .int .u8 1, .int .u8 2] 5))).alloc (.cells #[.int .u8 3, .int .u8 1, .int .u8 2] 5))))
  replace I16 := Lib.hid (I16.out.ext (((Ext.refl (w7.alloc (.cells #[.int .u8 3, .int .u8 1, .int .u8 2] 5))).alloc (.cells #[.int .u8 3, .int .u8 1, .int .u8 2] 5))))
  replace J1 := Lib.hid (J1.out.ext (((Ext.refl (w7.alloc (.cells #[.int .u8 3, .int .u8 1, .int .u8 2] 5))).alloc (.cells #[.int .u8 3, .int .u8 1, .int .u8 2] 5))))
  have d0' := (((Ext.refl (w7.alloc (.cells #[.int .u8 3, .int .u8 1, .int .u8 2] 5))).alloc (.cells #[.int .u8 3, .int .u8 1, .int .u8 2] 5))).cell d0_175
  have d0_204 := d0'
  clear d0'
  have d1' := (((Ext.refl (w7.alloc (.cells #[.int .u8 3, .int .u8 1, .int .u8 2] 5))).alloc (.cells #[.int .u8 3, .int .u8 1, .int .u8 2] 5))).cell d1_178
  have d1_207 := d1'
  clear d1'
  have d2' := (((Ext.refl (w7.alloc (.cells #[.int .u8 3, .int .u8 1, .int .u8 2] 5))).alloc (.cells #[.int .u8 3, .int .u8 1, .int .u8 2] 5))).cell d2_181
  have d2_210 := d2'
  clear d2'
  have d3' := (((Ext.refl (w7.alloc (.cells #[.int .u8 3, .int .u8 1, .int .u8 2] 5))).alloc (.cells #[.int .u8 3, .int .u8 1, .int .u8 2] 5))).cell d3_184
  have d3_213 := d3'
  clear d3'
  replace HX := Lib.hid (HX.out.alloc (.cells #[.int .u8 3, .int .u8 1, .int .u8 2] 5))
  have J2 : Hid (IS .u8 ((w7.alloc (.cells #[.int .u8 3, .int .u8 1, .int .u8 2] 5)).alloc (.cells #[.int .u8 3, .int .u8 1, .int .u8 2] 5)) (.slice (some ⟨w7.heap.size + 1, 0, none⟩) 3 3) 3 [3, 1, 2]) := Lib.hid (IS.lit rfl (by simp) rfl (by decide))
  have HC := Lib.hid (lv_same [3, 1, 2] (show U8L [3, 1, 2] by unfold U8L; decide) _ _ _ _ _ rfl I8.out J2.out)
  go_wp2_with fail
  refine HC.out.mono ?_
  clear HC
  rintro e w' ⟨rfl, rfl⟩
  replace I1 := Lib.hid (I1.out.ext (((Ext.refl ((w7.alloc (.cells #[.int .u8 3, .int .u8 1, .int .u8 2] 5)).alloc (.cells #[.int .u8 3, .int .u8 1, .int .u8 2] 5))).alloc (.cells #[.int .i64 2] 3))))
  replace I2 := Lib.hid (I2.out.ext (((Ext.refl ((w7.alloc (.cells #[.int .u8 3, .int .u8 1, .int .u8 2] 5)).alloc (.cells #[.int .u8 3, .int .u8 1, .int .u8 2] 5))).alloc (.cells #[.int .i64 2] 3))))
  replace I3 := Lib.hid (I3.out.ext (((Ext.refl ((w7.alloc (.cells #[.int .u8 3, .int .u8 1, .int .u8 2] 5)).alloc (.cells #[.int .u8 3, .int .u8 1, .int .u8 2] 5))).alloc (.cells #[.int .i64 2] 3))))
  replace I4 := Lib.hid (I4.out.ext (((Ext.refl ((w7.alloc (.cells #[.int .u8 3, .int .u8 1, .int .u8 2] 5)).alloc (.cells #[.int .u8 3, .int .u8 1, .int .u8 2] 5))).alloc (.cells #[.int .i64 2] 3))))
  replace I6 := Lib.hid (I6.out.ext (((Ext.refl ((w7.alloc (.cells #[.int .u8 3, .int .u8 1, .int .u8 2] 5)).alloc (.cells #[.int .u8 3, .int .u8 1, .int .u8 2] 5))).alloc (.cells #[.int .i64 2] 3))))
  replace I8 := Lib.hid (I8.out.ext (((Ext.refl ((w7.alloc (.cells #[.int .u8 3, .int .u8 1, .int .u8 2] 5)).alloc (.cells #[.int .u8 3, .int .u8 1, .int .u8 2] 5))).alloc (.cells #[.int .i64 2] 3))))
  replace I12 := Lib.hid (I12.out.ext (((Ext.refl ((w7.alloc (.cells #[.int .u8 3, .int .u8 1, .int .u8 2] 5)).alloc (.cells #[.int .u8 3, .int .u8 1, .int .u8 2] 5))).alloc (.cells #[.int .i64 2] 3))))
  replace I14 := Lib.hid (I14.out.ext (((Ext.refl ((w7.alloc (.cells #[.int .u8 3, .int .u8 1, .int .u8 2] 5)).alloc (.cells #[.int .u8 3, .int .u8 1, .int .u8 2] 5))).alloc (.cells #[.int .i64 2] 3))))
  replace I16 := Lib.hid (I16.out.ext (((Ext.refl ((w7.alloc (.cells #[.int .u8 3, .int .u8 1, .int .u8 2] 5)).alloc (.cells #[.int .u8 3, .int .u8 1, .int .u8 2] 5))).alloc (.cells #[.int .i64 2] 3))))
  replace J1 := Lib.hid (J1.out.ext (((Ext.refl ((w7.alloc (.cells #[.int .u8 3, .int .u8 1, .int .u8 2] 5)).alloc (.cells #[.int .u8 3, .int .u8 1, .int .u8 2] 5))).alloc (.cells #[.int .i64 2] 3))))
  replace J2 := Lib.hid (J2.out.ext (((Ext.refl ((w7.alloc (.cells #[.int .u8 3, .int .u8 1, .int .u8 2] 5)).alloc (.cells #[.int .u8 3, .int .u8 1, .int .u8 2] 5))).alloc (.cells #[.int .i64 2] 3))))
  have d0' := (((Ext.refl ((w7.alloc (.cells #[.int .u8 3, .int .u8 1, .int .u8 2] 5)).alloc (.cells #[.int .u8 3, .int .u8 1, .int .u8 2] 5))).alloc (.cells #[.int .i64 2] 3))).cell d0_204
  have d0_234 := d0'
  clear d0'
  have d1' := (((Ext.refl ((w7.alloc (.cells #[.int .u8 3, .int .u8 1, .int .u8 2] 5)).alloc (.cells #[.int .u8 3, .int .u8 1, .int .u8 2] 5))).alloc (.cells #[.int .i64 2] 3))).cell d1_207
  have d1_237 := d1'
  clear d1'
  have d2' := (((Ext.refl ((w7.alloc (.cells #[.int .u8 3, .int .u8 1, .int .u8 2] 5)).alloc (.cells #[.int .u8 3, .int .u8 1, .int .u8 2] 5))).alloc (.cells #[.int .i64 2] 3))).cell d2_210
  have d2_240 := d2'
  clear d2'
  have d3' := (((Ext.refl ((w7.alloc (.cells #[.int .u8 3, .int .u8 1, .int .u8 2] 5)).alloc (.cells #[.int .u8 3, .int .u8 1, .int .u8 2] 5))).alloc (.cells #[.int .i64 2] 3))).cell d3_213
  have d3_243 := d3'
  clear d3'
  replace HX := Lib.hid (HX.out.alloc (.cells #[.int .i64 2] 3))
  have J3 : Hid (IS .i64 (((w7.alloc (.cells #[.int .u8 3, .int .u8 1, .int .u8 2] 5)).alloc (.cells #[.int .u8 3, .int .u8 1, .int .u8 2] 5)).alloc (.cells #[.int .i64 2] 3)) (.slice (some ⟨w7.heap.size + 1 + 1, 0, none⟩) 1 1) 1 [2]) := Lib.hid (IS.lit rfl (by simp) rfl (by decide))
  have HC := Lib.hid (lv_list [2] _ _ _ _ _ rfl I12.out J3.out)
  go_wp2_with fail
  refine HC.out.mono ?_
  clear HC
  rintro e w8 ⟨rfl, x⟩
  replace I1 := Lib.hid (I1.out.ext (x))
  replace I2 := Lib.hid (I2.out.ext (x))
  replace I3 := Lib.hid (I3.out.ext (x))
  replace I4 := Lib.hid (I4.out.ext (x))
  replace I6 := Lib.hid (I6.out.ext (x))
  replace I8 := Lib.hid (I8.out.ext (x))
  replace I12 := Lib.hid (I12.out.ext (x))
  replace I14 := Lib.hid (I14.out.ext (x))
  replace I16 := Lib.hid (I16.out.ext (x))
  replace J1 := Lib.hid (J1.out.ext (x))
  replace J2 := Lib.hid (J2.out.ext (x))
  replace J3 := Lib.hid (J3.out.ext (x))
  have d0' := (x).cell d0_234
  have d0_265 := d0'
  clear d0'
  have d1' := (x).cell d1_237
  have d1_268 := d1'
  clear d1'
  have d2' := (x).cell d2_240
  have d2_271 := d2'
  clear d2'
  have d3' := (x).cell d3_243
  have d3_274 := d3'
  clear d3'
  replace HX := Lib.hid (HX.out.trans x)
  clear x
  replace I1 := Lib.hid (I1.out.ext (((Ext.refl w8).alloc (.cells #[.int .i64 1] 3))))
  replace I2 := Lib.hid (I2.out.ext (((Ext.refl w8).alloc (.cells #[.int .i64 1] 3))))
  replace I3 := Lib.hid (I3.out.ext (((Ext.refl w8).alloc (.cells #[.int .i64 1] 3))))
  replace I4 := Lib.hid (I4.out.ext (((Ext.refl w8).alloc (.cells #[.int .i64 1] 3))))
  replace I6 := Lib.hid (I6.out.ext (((Ext.refl w8).alloc (.cells #[.int .i64 1] 3))))
  replace I8 := Lib.hid (I8.out.ext (((Ext.refl w8).alloc (.cells #[.int .i64 1] 3))))
  replace I12 := Lib.hid (I12.out.ext (((Ext.refl w8).alloc (.cells #[.int .i64 1] 3))))
  replace I14 := Lib.hid (I14.out.ext (((Ext.refl w8).alloc (.cells #[.int .i64 1] 3))))
  replace I16 := Lib.hid (I16.out.ext (((Ext.refl w8).alloc (.cells #[.int .i64 1] 3))))
  replace J1 := Lib.hid (J1.out.ext (((Ext.refl w8).alloc (.cells #[.int .i64 1] 3))))
  replace J2 := Lib.hid (J2.out.ext (((Ext.refl w8).alloc (.cells #[.int .i64 1] 3))))
  replace J3 := Lib.hid (J3.out.ext (((Ext.refl w8).alloc (.cells #[.int .i64 1] 3))))
  have d0' := (((Ext.refl w8).alloc (.cells #[.int .i64 1] 3))).cell d0_265
  have d0_291 := d0'
  clear d0'
  have d1' := (((Ext.refl w8).alloc (.cells #[.int .i64 1] 3))).cell d1_268
  have d1_294 := d1'
  clear d1'
  have d2' := (((Ext.refl w8).alloc (.cells #[.int .i64 1] 3))).cell d2_271
  have d2_297 := d2'
  clear d2'
  have d3' := (((Ext.refl w8).alloc (.cells #[.int .i64 1] 3))).cell d3_274
  have d3_300 := d3'
  clear d3'
  replace HX := Lib.hid (HX.out.alloc (.cells #[.int .i64 1] 3))
  have J4 : Hid (IS .i64 (w8.alloc (.cells #[.int .i64 1] 3)) (.slice (some ⟨w8.heap.size, 0, none⟩) 1 1) 1 [1]) := Lib.hid (IS.lit rfl (by simp) rfl (by decide))
  have HC := Lib.hid (lv_list [1] _ _ _ _ _ rfl I14.out J4.out)
  go_wp2_with fail
  refine HC.out.mono ?_
  clear HC
  rintro e w9 ⟨rfl, x⟩
  replace I1 := Lib.hid (I1.out.ext (x))
  replace I2 := Lib.hid (I2.out.ext (x))
  replace I3 := Lib.hid (I3.out.ext (x))
  replace I4 := Lib.hid (I4.out.ext (x))
  replace I6 := Lib.hid (I6.out.ext (x))
  replace I8 := Lib.hid (I8.out.ext (x))
  replace I12 := Lib.hid (I12.out.ext (x))
  replace I14 := Lib.hid (I14.out.ext (x))
  replace I16 := Lib.hid (I16.out.ext (x))
  replace J1 := Lib.hid (J1.out.ext (x))
  replace J2 := Lib.hid (J2.out.ext (x))
  replace J3 := Lib.hid (J3.out.ext (x))
  replace J4 := Lib.hid (J4.out.ext (x))
  have d0' := (x).cell d0_291
  have d0_323 := d0'
  clear d0'
  have d1' := (x).cell d1_294
  have d1_326 := d1'
  clear d1'
  have d2' := (x).cell d2_297
  have d2_329 := d2'
  clear d2'
  have d3' := (x).cell d3_300
  have d3_332 := d3'
  clear d3'
  replace HX := Lib.hid (HX.out.trans x)
  clear x
  replace I1 := Lib.hid (I1.out.ext (((Ext.refl w9).alloc (.cells #[.int .i64 2, .int .i64 1] 3))))
  replace I2 := Lib.hid (I2.out.ext (((Ext.refl w9).alloc (.cells #[.int .i64 2, .int .i64 1] 3))))
  replace I3 := Lib.hid (I3.out.ext (((Ext.refl w9).alloc (.cells #[.int .i64 2, .int .i64 1] 3))))
  replace I4 := Lib.hid (I4.out.ext (((Ext.refl w9).alloc (.cells #[.int .i64 2, .int .i64 1] 3))))
  replace I6 := Lib.hid (I6.out.ext (((Ext.refl w9).alloc (.cells #[.int .i64 2, .int .i64 1] 3))))
  replace I8 := Lib.hid (I8.out.ext (((Ext.refl w9).alloc (.cells #[.int .i64 2, .int .i64 1] 3))))
  replace I12 := Lib.hid (I12.out.ext (((Ext.refl w9).alloc (.cells #[.int .i64 2, .int .i64 1] 3))))
  replace I14 := Lib.hid (I14.out.ext (((Ext.refl w9).alloc (.cells #[.int .i64 2, .int .i64 1] 3))))
  replace I16 := Lib.hid (I16.out.ext (((Ext.refl w9).alloc (.cells #[.int .i64 2, .int .i64 1] 3))))
  replace J1 := Lib.hid (J1.out.ext (((Ext.refl w9).alloc (.cells #[.int .i64 2, .int .i64 1] 3))))
  replace J2 := Lib.hid (J2.out.ext (((Ext.refl w9).alloc (.cells #[.int .i64 2, .int .i64 1] 3))))
  replace J3 := Lib.hid (J3.out.ext (((Ext.refl w9).alloc (.cells #[.int .i64 2, .int .i64 1] 3))))
  replace J4 := Lib.hid (J4.out.ext (((Ext.refl w9).alloc (.cells #[.int .i64 2, .int .i64 1] 3))))
  have d0' := (((Ext.refl w9).alloc (.cells #[.int .i64 2, .int .i64 1] 3))).cell d0_323
  have d0_350 := d0'
  clear d0'
  have d1' := (((Ext.refl w9).alloc (.cells #[.int .i64 2, .int .i64 1] 3))).cell d1_326
  have d1_353 := d1'
  clear d1'
  have d2' := (((Ext.refl w9).alloc (.cells #[.int .i64 2, .int .i64 1] 3))).cell d2_329
  have d2_356 := d2'
  clear d2'
  have d3' := (((Ext.refl w9).alloc (.cells #[.int .i64 2, .int .i64 1] 3))).cell d3_332
  have d3_359 := d3'
  clear d3'
  replace HX := Lib.hid (HX.out.alloc (.cells #[.int .i64 2, .int .i64 1] 3))
  have J5 : Hid (IS .i64 (w9.alloc (.cells #[.int .i64 2, .int .i64 1] 3)) (.slice (some ⟨w9.heap.size, 0, none⟩) 2 2) 2 [2, 1]) := Lib.hid (IS.lit rfl (by simp) rfl (by decide))
  have HC := Lib.hid (lv_list [2, 1] _ _ _ _ _ rfl I16.out J5.out)
  go_wp2_with fail
  refine HC.out.mono ?_
  clear HC
  rintro e w10 ⟨rfl, x⟩
  replace I1 := Lib.hid (I1.out.ext (x))
  replace I2 := Lib.hid (I2.out.ext (x))
  replace I3 := Lib.hid (I3.out.ext (x))
  replace I4 := Lib.hid (I4.out.ext (x))
  replace I6 := Lib.hid (I6.out.ext (x))
  replace I8 := Lib.hid (I8.out.ext (x))
  replace I12 := Lib.hid (I12.out.ext (x))
  replace I14 := Lib.hid (I14.out.ext (x))
  replace I16 := Lib.hid (I16.out.ext (x))
  replace J1 := Lib.hid (J1.out.ext (x))
  replace J2 := Lib.hid (J2.out.ext (x))
  replace J3 := Lib.hid (J3.out.ext (x))
  replace J4 := Lib.hid (J4.out.ext (x))
  replace J5 := Lib.hid (J5.out.ext (x))
  have d0' := (x).cell d0_350
  have d0_383 := d0'
  clear d0'
  have d1' := (x).cell d1_353
  have d1_386 := d1'
  clear d1'
  have d2' := (x).cell d2_356
  have d2_389 := d2'
  clear d2'
  have d3' := (x).cell d3_359
  have d3_392 := d3'
  clear d3'
  replace HX := Lib.hid (HX.out.trans x)
  clear x
  have HC := Lib.hid (lv_meet _ _ _ _ _ I1.out I6.out)
  go_wp2_with fail
  refine HC.out.mono ?_
  clear HC
  rintro e w11 hret
  obtain ⟨aI18, rfl, r, x⟩ := hret.lit (n := 3) rfl
  replace I1 := Lib.hid (I1.out.ext (x))
  replace I2 := Lib.hid (I2.out.ext (x))
  replace I3 := Lib.hid (I3.out.ext (x))
  replace I4 := Lib.hid (I4.out.ext (x))
  replace I6 := Lib.hid (I6.out.ext (x))
  replace I8 := Lib.hid (I8.out.ext (x))
  replace I12 := Lib.hid (I12.out.ext (x))
  replace I14 := Lib.hid (I14.out.ext (x))
  replace I16 := Lib.hid (I16.out.ext (x))
  replace J1 := Lib.hid (J1.out.ext (x))
  replace J2 := Lib.hid (J2.out.ext (x))
  replace J3 := Lib.hid (J3.out.ext (x))
  replace J4 := Lib.hid (J4.out.ext (x))
  replace J5 := Lib.hid (J5.out.ext (x))
  have d0' := (x).cell d0_383
  have d0_417 := d0'
  clear d0'
  have d1' := (x).cell d1_386
  have d1_420 := d1'
  clear d1'
  have d2' := (x).cell d2_389
  have d2_423 := d2'
  clear d2'
  have d3' := (x).cell d3_392
  have d3_426 := d3'
  clear d3'
  have I18 := Lib.hid r
  replace HX := Lib.hid (HX.out.trans x)
  clear r x
  have HC := Lib.hid (lv_join _ _ _ _ _ I2.out I3.out)
  go_wp2_with fail
  refine HC.out.mono ?_
  clear HC
  rintro e w12 hret
  obtain ⟨aI20, rfl, r, x⟩ := hret.lit (n := 3) rfl
  replace I1 := Lib.hid (I1.out.ext (x))
  replace I2 := Lib.hid (I2.out.ext (x))
  replace I3 := Lib.hid (I3.out.ext (x))
  replace I4 := Lib.hid (I4.out.ext (x))
  replace I6 := Lib.hid (I6.out.ext (x))
  replace I8 := Lib.hid (I8.out.ext (x))
  replace I12 := Lib.hid (I12.out.ext (x))
  replace I14 := Lib.hid (I14.out.ext (x))
  replace I16 := Lib.hid (I16.out.ext (x))
  replace J1 := Lib.hid (J1.out.ext (x))
  replace J2 := Lib.hid (J2.out.ext (x))
  replace J3 := Lib.hid (J3.out.ext (x))
  replace J4 := Lib.hid (J4.out.ext (x))
  replace J5 := Lib.hid (J5.out.ext (x))
  replace I18 := Lib.hid (I18.out.ext (x))
  have d0' := (x).cell d0_417
  have d0_453 := d0'
  clear d0'
  have d1' := (x).cell d1_420
  have d1_456 := d1'
  clear d1'
  have d2' := (x).cell d2_423
  have d2_459 := d2'
  clear d2'
  have d3' := (x).cell d3_426
  have d3_462 := d3'
  clear d3'
  have I20 := Lib.hid r
  replace HX := Lib.hid (HX.out.trans x)
  clear r x
  have HC := Lib.hid (lv_below _ _ _ _ _ I3.out I1.out)
  go_wp2_with fail
  refine HC.out.mono ?_
  clear HC
  rintro e w13 ⟨rfl, x⟩
  replace I1 := Lib.hid (I1.out.ext (x))
  replace I2 := Lib.hid (I2.out.ext (x))
  replace I3 := Lib.hid (I3.out.ext (x))
  replace I4 := Lib.hid (I4.out.ext (x))
  replace I6 := Lib.hid (I6.out.ext (x))
  replace I8 := Lib.hid (I8.out.ext (x))
  replace I12 := Lib.hid (I12.out.ext (x))
  replace I14 := Lib.hid (I14.out.ext (x))
  replace I16 := Lib.hid (I16.out.ext (x))
  replace J1 := Lib.hid (J1.out.ext (x))
  replace J2 := Lib.hid (J2.out.ext (x))
  replace J3 := Lib.hid (J3.out.ext (x))
  replace J4 := Lib.hid (J4.out.ext (x))
  replace J5 := Lib.hid (J5.out.ext (x))
  replace I18 := Lib.hid (I18.out.ext (x))
  replace I20 := Lib.hid (I20.out.ext (x))
  have d0' := (x).cell d0_453
  have d0_489 := d0'
  clear d0'
  have d1' := (x).cell d1_456
  have d1_492 := d1'
  clear d1'
  have d2' := (x).cell d2_459
  have d2_495 := d2'
  clear d2'
  have d3' := (x).cell d3_462
  have d3_498 := d3'
  clear d3'
  replace HX := Lib.hid (HX.out.trans x)
  clear x
  have HC := Lib.hid (lv_rest _ _ _ _ _ I3.out I1.out)
  go_wp2_with fail
  refine HC.out.mono ?_
  clear HC
  rintro e w14 hret
  obtain ⟨aI24, rfl, r, x⟩ := hret.lit (n := 3) rfl
  replace I1 := Lib.hid (I1.out.ext (x))
  replace I2 := Lib.hid (I2.out.ext (x))
  replace I3 := Lib.hid (I3.out.ext (x))
  replace I4 := Lib.hid (I4.out.ext (x))
  replace I6 := Lib.hid (I6.out.ext (x))
  replace I8 := Lib.hid (I8.out.ext (x))
  replace I12 := Lib.hid (I12.out.ext (x))
  replace I14 := Lib.hid (I14.out.ext (x))
  replace I16 := Lib.hid (I16.out.ext (x))
  replace J1 := Lib.hid (J1.out.ext (x))
  replace J2 := Lib.hid (J2.out.ext (x))
  replace J3 := Lib.hid (J3.out.ext (x))
  replace J4 := Lib.hid (J4.out.ext (x))
  replace J5 := Lib.hid (J5.out.ext (x))
  replace I18 := Lib.hid (I18.out.ext (x))
  replace I20 := Lib.hid (I20.out.ext (x))
  have d0' := (x).cell d0_489
  have d0_525 := d0'
  clear d0'
  have d1' := (x).cell d1_492
  have d1_528 := d1'
  clear d1'
  have d2' := (x).cell d2_495
  have d2_531 := d2'
  clear d2'
  have d3' := (x).cell d3_498
  have d3_534 := d3'
  clear d3'
  have I24 := Lib.hid r
  replace HX := Lib.hid (HX.out.trans x)
  clear r x
  have HC := Lib.hid (lv_no _ _ _ _ _ I2.out I1.out)
  go_wp2_with fail
  refine HC.out.mono ?_
  clear HC
  rintro e w15 hret
  obtain ⟨aI26, rfl, r, x⟩ := hret.lit (n := 0) rfl
  replace I1 := Lib.hid (I1.out.ext (x))
  replace I2 := Lib.hid (I2.out.ext (x))
  replace I3 := Lib.hid (I3.out.ext (x))
  replace I4 := Lib.hid (I4.out.ext (x))
  replace I6 := Lib.hid (I6.out.ext (x))
  replace I8 := Lib.hid (I8.out.ext (x))
  replace I12 := Lib.hid (I12.out.ext (x))
  replace I14 := Lib.hid (I14.out.ext (x))
  replace I16 := Lib.hid (I16.out.ext (x))
  replace J1 := Lib.hid (J1.out.ext (x))
  replace J2 := Lib.hid (J2.out.ext (x))
  replace J3 := Lib.hid (J3.out.ext (x))
  replace J4 := Lib.hid (J4.out.ext (x))
  replace J5 := Lib.hid (J5.out.ext (x))
  replace I18 := Lib.hid (I18.out.ext (x))
  replace I20 := Lib.hid (I20.out.ext (x))
  replace I24 := Lib.hid (I24.out.ext (x))
  have d0' := (x).cell d0_525
  have d0_563 := d0'
  clear d0'
  have d1' := (x).cell d1_528
  have d1_566 := d1'
  clear d1'
  have d2' := (x).cell d2_531
  have d2_569 := d2'
  clear d2'
  have d3' := (x).cell d3_534
  have d3_572 := d3'
  clear d3'
  have I26 := Lib.hid r
  replace HX := Lib.hid (HX.out.trans x)
  clear r x
  replace I1 := Lib.hid (I1.out.ext (((Ext.refl w15).alloc (.cells #[.int .u8 1, .int .u8 2, .int .u8 3] 5))))
  replace I2 := Lib.hid (I2.out.ext (((Ext.refl w15).alloc (.cells #[.int .u8 1, .int .u8 2, .int .u8 3] 5))))
  replace I3 := Lib.hid (I3.out.ext (((Ext.refl w15).alloc (.cells #[.int .u8 1, .int .u8 2, .int .u8 3] 5))))
  replace I4 := Lib.hid (I4.out.ext (((Ext.refl w15).alloc (.cells #[.int .u8 1, .int .u8 2, .int .u8 3] 5))))
  replace I6 := Lib.hid (I6.out.ext (((Ext.refl w15).alloc (.cells #[.int .u8 1, .int .u8 2, .int .u8 3] 5))))
  replace I8 := Lib.hid (I8.out.ext (((Ext.refl w15).alloc (.cells #[.int .u8 1, .int .u8 2, .int .u8 3] 5))))
  replace I12 := Lib.hid (I12.out.ext (((Ext.refl w15).alloc (.cells #[.int .u8 1, .int .u8 2, .int .u8 3] 5))))
  replace I14 := Lib.hid (I14.out.ext (((Ext.refl w15).alloc (.cells #[.int .u8 1, .int .u8 2, .int .u8 3] 5))))
  replace I16 := Lib.hid (I16.out.ext (((Ext.refl w15).alloc (.cells #[.int .u8 1, .int .u8 2, .int .u8 3] 5))))
  replace J1 := Lib.hid (J1.out.ext (((Ext.refl w15).alloc (.cells #[.int .u8 1, .int .u8 2, .int .u8 3] 5))))
  replace J2 := Lib.hid (J2.out.ext (((Ext.refl w15).alloc (.cells #[.int .u8 1, .int .u8 2, .int .u8 3] 5))))
  replace J3 := Lib.hid (J3.out.ext (((Ext.refl w15).alloc (.cells #[.int .u8 1, .int .u8 2, .int .u8 3] 5))))
  replace J4 := Lib.hid (J4.out.ext (((Ext.refl w15).alloc (.cells #[.int .u8 1, .int .u8 2, .int .u8 3] 5))))
  replace J5 := Lib.hid (J5.out.ext (((Ext.refl w15).alloc (.cells #[.int .u8 1, .int .u8 2, .int .u8 3] 5))))
  replace I18 := Lib.hid (I18.out.ext (((Ext.refl w15).alloc (.cells #[.int .u8 1, .int .u8 2, .int .u8 3] 5))))
  replace I20 := Lib.hid (I20.out.ext (((Ext.refl w15).alloc (.cells #[.int .u8 1, .int .u8 2, .int .u8 3] 5))))
  replace I24 := Lib.hid (I24.out.ext (((Ext.refl w15).alloc (.cells #[.int .u8 1, .int .u8 2, .int .u8 3] 5))))
  replace I26 := Lib.hid (I26.out.ext (((Ext.refl w15).alloc (.cells #[.int .u8 1, .int .u8 2, .int .u8 3] 5))))
  have d0' := (((Ext.refl w15).alloc (.cells #[.int .u8 1, .int .u8 2, .int .u8 3] 5))).cell d0_563
  have d0_596 := d0'
  clear d0'
  have d1' := (((Ext.refl w15).alloc (.cells #[.int .u8 1, .int .u8 2, .int .u8 3] 5))).cell d1_566
  have d1_599 := d1'
  clear d1'
  have d2' := (((Ext.refl w15).alloc (.cells #[.int .u8 1, .int .u8 2, .int .u8 3] 5))).cell d2_569
  have d2_602 := d2'
  clear d2'
  have d3' := (((Ext.refl w15).alloc (.cells #[.int .u8 1, .int .u8 2, .int .u8 3] 5))).cell d3_572
  have d3_605 := d3'
  clear d3'
  replace HX := Lib.hid (HX.out.alloc (.cells #[.int .u8 1, .int .u8 2, .int .u8 3] 5))
  have J6 : Hid (IS .u8 (w15.alloc (.cells #[.int .u8 1, .int .u8 2, .int .u8 3] 5)) (.slice (some ⟨w15.heap.size, 0, none⟩) 3 3) 3 [1, 2, 3]) := Lib.hid (IS.lit rfl (by simp) rfl (by decide))
  have HC := Lib.hid (lv_same [1, 2, 3] (show U8L [1, 2, 3] by unfold U8L; decide) _ _ _ _ _ rfl I18.out J6.out)
  go_wp2_with fail
  refine HC.out.mono ?_
  clear HC
  rintro e w' ⟨rfl, rfl⟩
  replace I1 := Lib.hid (I1.out.ext (((Ext.refl (w15.alloc (.cells #[.int .u8 1, .int .u8 2, .int .u8 3] 5))).alloc (.cells #[.int .u8 3, .int .u8 2, .int .u8 1] 5))))
  replace I2 := Lib.hid (I2.out.ext (((Ext.refl (w15.alloc (.cells #[.int .u8 1, .int .u8 2, .int .u8 3] 5))).alloc (.cells #[.int .u8 3, .int .u8 2, .int .u8 1] 5))))
  replace I3 := Lib.hid (I3.out.ext (((Ext.refl (w15.alloc (.cells #[.int .u8 1, .int .u8 2, .int .u8 3] 5))).alloc (.cells #[.int .u8 3, .int .u8 2, .int .u8 1] 5))))
  replace I4 := Lib.hid (I4.out.ext (((Ext.refl (w15.alloc (.cells #[.int .u8 1, .int .u8 2, .int .u8 3] 5))).alloc (.cells #[.int .u8 3, .int .u8 2, .int .u8 1] 5))))
  replace I6 := Lib.hid (I6.out.ext (((Ext.refl (w15.alloc (.cells #[.int .u8 1, .int .u8 2, .int .u8 3] 5))).alloc (.cells #[.int .u8 3, .int .u8 2, .int .u8 1] 5))))
  replace I8 := Lib.hid (I8.out.ext (((Ext.refl (w15.alloc (.cells #[.int .u8 1, .int .u8 2, .int .u8 3] 5))).alloc (.cells #[.int .u8 3, .int .u8 2, .int .u8 1] 5))))
  replace I12 := Lib.hid (I12.out.ext (((Ext.refl (w15.alloc (.cells #[.int .u8 1, .int .u8 2, .int .u8 3] 5))).alloc (.cells #[.int .u8 3, .int .u8 2, .int .u8 1] 5))))
  replace I14 := Lib.hid (I14.out.ext (((Ext.refl (w15.alloc (.cells #[.int .u8 1, .int .u8 2, .int .u8 3] 5))).alloc (.cells #[.int .u8 3, .int .u8 2, .int .u8 1] 5))))
  replace I16 := Lib.hid (I16.out.ext (((Ext.refl (w15.alloc (.cells #[.int .u8 1, .int .u8 2, .int .u8 3] 5))).alloc (.cells #[.int .u8 3, .int .u8 2, .int .u8 1] 5))))
  replace J1 := Lib.hid (J1.out.ext (((Ext.refl (w15.alloc (.cells #[.int .u8 1, .int .u8 2, .int .u8 3] 5))).alloc (.cells #[.int .u8 3, .int .u8 2, .int .u8 1] 5))))
  replace J2 := Lib.hid (J2.out.ext (((Ext.refl (w15.alloc (.cells #[.int .u8 1, .int .u8 2, .int .u8 3] 5))).alloc (.cells #[.int .u8 3, .int .u8 2, .int .u8 1] 5))))
  replace J3 := Lib.hid (J3.out.ext (((Ext.refl (w15.alloc (.cells #[.int .u8 1, .int .u8 2, .int .u8 3] 5))).alloc (.cells #[.int .u8 3, .int .u8 2, .int .u8 1] 5))))
  replace J4 := Lib.hid (J4.out.ext (((Ext.refl (w15.alloc (.cells #[.int .u8 1, .int .u8 2, .int .u8 3] 5))).alloc (.cells #[.int .u8 3, .int .u8 2, .int .u8 1] 5))))
  replace J5 := Lib.hid (J5.out.ext (((Ext.refl (w15.alloc (.cells #[.int .u8 1, .int .u8 2, .int .u8 3] 5))).alloc (.cells #[.int .u8 3, .int .u8 2, .int .u8 1] 5))))
  replace I18 := Lib.hid (I18.out.ext (((Ext.refl (w15.alloc (.cells #[.int .u8 1, .int .u8 2, .int .u8 3] 5))).alloc (.cells #[.int .u8 3, .int .u8 2, .int .u8 1] 5))))
  replace I20 := Lib.hid (I20.out.ext (((Ext.refl (w15.alloc (.cells #[.int .u8 1, .int .u8 2, .int .u8 3] 5))).alloc (.cells #[.int .u8 3, .int .u8 2, .int .u8 1] 5))))
  replace I24 := Lib.hid (I24.out.ext (((Ext.refl (w15.alloc (.cells #[.int .u8 1, .int .u8 2, .int .u8 3] 5))).alloc (.cells #[.int .u8 3, .int .u8 2, .int .u8 1] 5))))
  replace I26 := Lib.hid (I26.out.ext (((Ext.refl (w15.alloc (.cells #[.int .u8 1, .int .u8 2, .int .u8 3] 5))).alloc (.cells #[.int .u8 3, .int .u8 2, .int .u8 1] 5))))
  replace J6 := Lib.hid (J6.out.ext (((Ext.refl (w15.alloc (.cells #[.int .u8 1, .int .u8 2, .int .u8 3] 5))).alloc (.cells #[.int .u8 3, .int .u8 2, .int .u8 1] 5))))
  have d0' := (((Ext.refl (w15.alloc (.cells #[.int .u8 1, .int .u8 2, .int .u8 3] 5))).alloc (.cells #[.int .u8 3, .int .u8 2, .int .u8 1] 5))).cell d0_596
  have d0_634 := d0'
  clear d0'
  have d1' := (((Ext.refl (w15.alloc (.cells #[.int .u8 1, .int .u8 2, .int .u8 3] 5))).alloc (.cells #[.int .u8 3, .int .u8 2, .int .u8 1] 5))).cell d1_599
  have d1_637 := d1'
  clear d1'
  have d2' := (((Ext.refl (w15.alloc (.cells #[.int .u8 1, .int .u8 2, .int .u8 3] 5))).alloc (.cells #[.int .u8 3, .int .u8 2, .int .u8 1] 5))).cell d2_602
  have d2_640 := d2'
  clear d2'
  have d3' := (((Ext.refl (w15.alloc (.cells #[.int .u8 1, .int .u8 2, .int .u8 3] 5))).alloc (.cells #[.int .u8 3, .int .u8 2, .int .u8 1] 5))).cell d3_605
  have d3_643 := d3'
  clear d3'
  replace HX := Lib.hid (HX.out.alloc (.cells #[.int .u8 3, .int .u8 2, .int .u8 1] 5))
  have J7 : Hid (IS .u8 ((w15.alloc (.cells #[.int .u8 1, .int .u8 2, .int .u8 3] 5)).alloc (.cells #[.int .u8 3, .int .u8 2, .int .u8 1] 5)) (.slice (some ⟨w15.heap.size + 1, 0, none⟩) 3 3) 3 [3, 2, 1]) := Lib.hid (IS.lit rfl (by simp) rfl (by decide))
  have HC := Lib.hid (lv_same [3, 2, 1] (show U8L [3, 2, 1] by unfold U8L; decide) _ _ _ _ _ rfl I20.out J7.out)
  go_wp2_with fail
  refine HC.out.mono ?_
  clear HC
  rintro e w' ⟨rfl, rfl⟩
  have HC := Lib.hid (lv_same [2, 1, 3] (show U8L [2, 1, 3] by unfold U8L; decide) _ _ _ _ _ rfl I24.out I2.out)
  go_wp2_with fail
  refine HC.out.mono ?_
  clear HC
  rintro e w' ⟨rfl, rfl⟩
  go_wp2
  go_ret
  exact ⟨rfl, HX.out⟩
end Go.Proofs.Ytpcbadagffeehaa
