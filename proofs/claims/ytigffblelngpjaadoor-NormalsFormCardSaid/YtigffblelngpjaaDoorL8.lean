/- Texts of this claim in one file: libraries and walks. -/
import Derived.Laws.EntriesVeiled
import Derived.Test.YtigffblelngpjaaDoorL7
/- Contract of permutations.below. -/
namespace Go.Proofs.YtigffblelngpjaaDoor
set_option linter.unusedVariables false
set_option linter.unusedSimpArgs false
open Go Go.RowKit Go.Shelf
attribute [local go_sem] Oper.semAt_some

/-- All pairs that cross in xs cross in ys. -/
def belowB (xs ys : List Int) : Bool := (crossers xs).all fun x => crossB ys x.1.1 x.1.2

theorem b2_kept {W W' : World} {b : Nat} {x y : Value} {t : TypeId} {row : Option Nat} (h : B2 W b x y t) (hg : W.grownBy W' row) (hr : ∀ r, row = some r → ∃ o : Obj, W.heap[r]? = some o ∧ o.isCells = false) : B2 W' b x y t :=
  (hg.block b h.lt (fun e => by obtain ⟨o, ho, hc⟩ := hr b e.symm; rw [show W.heap[b]? = _ from h] at ho; cases ho; cases hc)).trans h

/-- crossing$1 at a list that is as long as another. -/
theorem crossing1_as (B : Nat) (v : Value) (c : Nat) (ys : List Int) (n : Nat) (hn : n = ys.length) (x : Pr n) (w : World) (hB : w.cell? ⟨B, 0, none⟩ = some v) (h : IS .u8 w v c ys) (h8 : n ≤ 8) :
    Calls Tryd.prog 94 #[x.val, .pointer (some ⟨B, 0, none⟩)] w fun e w' => e = .returned (.bool (crossB ys x.1.1 x.1.2)) ∧ Ext w w' := by
  subst hn
  exact crossing1_calls B v c ys x w hB h h8

set_option maxRecDepth 100000 in
set_option maxHeartbeats 4000000 in
theorem below_calls (m : Nat) (hm : 5 ≤ m) (v1 v2 : Value) (c1 c2 : Nat) (xs ys : List Int) (w : World) (h : IS .u8 w v1 c1 xs) (h' : IS .u8 w v2 c2 ys) (h8 : xs.length ≤ 8) (hl : ys.length = xs.length) :
    Calls Tryd.prog 75 #[v1, v2] w fun e w' => e = .returned (.bool (belowB xs ys)) ∧ Ext w w' := by
  obtain ⟨_, _, ao, rfl, _⟩ := h.open
  obtain ⟨_, _, bo, rfl, _⟩ := h'.open
  have h1m : 1 ≤ m := by omega
  have h1m' : 1 ≤ m - 1 - 1 := by omega
  refine (callsIn_wide (n := m)).1 ?_
  refine callsIn_of_wp_marks Tryd.func75 rfl trivial ?_ rfl
  simp only [Tryd.ntmps75, List.size_toArray, List.length_cons, List.length_nil, Nat.reduceAdd, Nat.reduceSub, Array.replicate_succ, Array.replicate_zero, List.push_toArray, List.append_toArray, List.nil_append, List.cons_append]
  have HIS := Lib.hid h
  have HIS' := Lib.hid h'
  have HL := Lib.hid hl
  clear h h' hl
  obtain ⟨L2, hL2⟩ : ∃ L2, L2 = ys.length := ⟨_, rfl⟩
  rw [← hL2] at HIS' HL ⊢
  have HL2 := Lib.hid hL2
  clear hL2
  gi_wp2_with first
    | (refine ⟨trivial, ?_⟩; gi_at_call 88; refine (callsIn_wide.2 (crossing_calls _ _ _ _)).mono ?_; rintro e w2 ⟨rfl, rfl⟩)
    | (refine ⟨trivial, ?_⟩; gi_at_call 89; refine (callsIn_wide.2 (pairs_calls _ _ _ _)).mono ?_; rintro e w3 ⟨rfl, rfl⟩)
  have z0 : w.heap.size = w.heap.size := rfl
  have z1 : (w.alloc (.cells #[.bool false] 4)).heap.size = w.heap.size + 1 := by rw [World.size_alloc, z0]
  have z2 : ((w.alloc (.cells #[.bool false] 4)).alloc (.cells #[.slice bo L2 c2] 22)).heap.size = w.heap.size + 1 + 1 := by rw [World.size_alloc, z1]
  have z3 : (((w.alloc (.cells #[.bool false] 4)).alloc (.cells #[.slice bo L2 c2] 22)).alloc (.cells #[.func (.func 94) #[] #[.pointer (some ⟨w.heap.size + 1, 0, none⟩)]] 106)).heap.size = w.heap.size + 1 + 1 + 1 := by rw [World.size_alloc, z2]
  have z4 : ((((w.alloc (.cells #[.bool false] 4)).alloc (.cells #[.slice bo L2 c2] 22)).alloc (.cells #[.func (.func 94) #[] #[.pointer (some ⟨w.heap.size + 1, 0, none⟩)]] 106)).alloc (.cells #[.slice ao xs.length c1] 22)).heap.size = w.heap.size + 1 + 1 + 1 + 1 := by rw [World.size_alloc, z3]
  have z5 : (((((w.alloc (.cells #[.bool false] 4)).alloc (.cells #[.slice bo L2 c2] 22)).alloc (.cells #[.func (.func 94) #[] #[.pointer (some ⟨w.heap.size + 1, 0, none⟩)]] 106)).alloc (.cells #[.slice ao xs.length c1] 22)).alloc (.cells #[.int .i64 (xs.length : Int)] 3)).heap.size = w.heap.size + 1 + 1 + 1 + 1 + 1 := by rw [World.size_alloc, z4]
  have z6 : ((((((w.alloc (.cells #[.bool false] 4)).alloc (.cells #[.slice bo L2 c2] 22)).alloc (.cells #[.func (.func 94) #[] #[.pointer (some ⟨w.heap.size + 1, 0, none⟩)]] 106)).alloc (.cells #[.slice ao xs.length c1] 22)).alloc (.cells #[.int .i64 (xs.length : Int)] 3)).alloc (.cells #[.func (.func 94) #[] #[.pointer (some ⟨w.heap.size + 1 + 1 + 1, 0, none⟩)]] 106)).heap.size = w.heap.size + 1 + 1 + 1 + 1 + 1 + 1 := by rw [World.size_alloc, z5]
  have f0 : Boxed (w.alloc (.cells #[.bool false] 4)) (w.heap.size) 4 (.bool false) := by have hh := Boxed.new w 4 (.bool false); rw [z0] at hh; exact hh
  replace f0 := f0.alloc (.cells #[.slice bo L2 c2] 22)
  replace f0 := f0.alloc (.cells #[.func (.func 94) #[] #[.pointer (some ⟨w.heap.size + 1, 0, none⟩)]] 106)
  replace f0 := f0.alloc (.cells #[.slice ao xs.length c1] 22)
  replace f0 := f0.alloc (.cells #[.int .i64 (xs.length : Int)] 3)
  replace f0 := f0.alloc (.cells #[.func (.func 94) #[] #[.pointer (some ⟨w.heap.size + 1 + 1 + 1, 0, none⟩)]] 106)
  have f1 : Boxed ((w.alloc (.cells #[.bool false] 4)).alloc (.cells #[.slice bo L2 c2] 22)) (w.heap.size + 1) 22 (.slice bo L2 c2) := by have hh := Boxed.new (w.alloc (.cells #[.bool false] 4)) 22 (.slice bo L2 c2); rw [z1] at hh; exact hh
  replace f1 := f1.alloc (.cells #[.func (.func 94) #[] #[.pointer (some ⟨w.heap.size + 1, 0, none⟩)]] 106)
  replace f1 := f1.alloc (.cells #[.slice ao xs.length c1] 22)
  replace f1 := f1.alloc (.cells #[.int .i64 (xs.length : Int)] 3)
  replace f1 := f1.alloc (.cells #[.func (.func 94) #[] #[.pointer (some ⟨w.heap.size + 1 + 1 + 1, 0, none⟩)]] 106)
  have f2 : Boxed (((w.alloc (.cells #[.bool false] 4)).alloc (.cells #[.slice bo L2 c2] 22)).alloc (.cells #[.func (.func 94) #[] #[.pointer (some ⟨w.heap.size + 1, 0, none⟩)]] 106)) (w.heap.size + 1 + 1) 106 (.func (.func 94) #[] #[.pointer (some ⟨w.heap.size + 1, 0, none⟩)]) := by have hh := Boxed.new ((w.alloc (.cells #[.bool false] 4)).alloc (.cells #[.slice bo L2 c2] 22)) 106 (.func (.func 94) #[] #[.pointer (some ⟨w.heap.size + 1, 0, none⟩)]); rw [z2] at hh; exact hh
  replace f2 := f2.alloc (.cells #[.slice ao xs.length c1] 22)
  replace f2 := f2.alloc (.cells #[.int .i64 (xs.length : Int)] 3)
  replace f2 := f2.alloc (.cells #[.func (.func 94) #[] #[.pointer (some ⟨w.heap.size + 1 + 1 + 1, 0, none⟩)]] 106)
  have f3 : Boxed ((((w.alloc (.cells #[.bool false] 4)).alloc (.cells #[.slice bo L2 c2] 22)).alloc (.cells #[.func (.func 94) #[] #[.pointer (some ⟨w.heap.size + 1, 0, none⟩)]] 106)).alloc (.cells #[.slice ao xs.length c1] 22)) (w.heap.size + 1 + 1 + 1) 22 (.slice ao xs.length c1) := by have hh := Boxed.new (((w.alloc (.cells #[.bool false] 4)).alloc (.cells #[.slice bo L2 c2] 22)).alloc (.cells #[.func (.func 94) #[] #[.pointer (some ⟨w.heap.size + 1, 0, none⟩)]] 106)) 22 (.slice ao xs.length c1); rw [z3] at hh; exact hh
  replace f3 := f3.alloc (.cells #[.int .i64 (xs.length : Int)] 3)
  replace f3 := f3.alloc (.cells #[.func (.func 94) #[] #[.pointer (some ⟨w.heap.size + 1 + 1 + 1, 0, none⟩)]] 106)
  have f4 : Boxed (((((w.alloc (.cells #[.bool false] 4)).alloc (.cells #[.slice bo L2 c2] 22)).alloc (.cells #[.func (.func 94) #[] #[.pointer (some ⟨w.heap.size + 1, 0, none⟩)]] 106)).alloc (.cells #[.slice ao xs.length c1] 22)).alloc (.cells #[.int .i64 (xs.length : Int)] 3)) (w.heap.size + 1 + 1 + 1 + 1) 3 (.int .i64 (xs.length : Int)) := by have hh := Boxed.new ((((w.alloc (.cells #[.bool false] 4)).alloc (.cells #[.slice bo L2 c2] 22)).alloc (.cells #[.func (.func 94) #[] #[.pointer (some ⟨w.heap.size + 1, 0, none⟩)]] 106)).alloc (.cells #[.slice ao xs.length c1] 22)) 3 (.int .i64 (xs.length : Int)); rw [z4] at hh; exact hh
  replace f4 := f4.alloc (.cells #[.func (.func 94) #[] #[.pointer (some ⟨w.heap.size + 1 + 1 + 1, 0, none⟩)]] 106)
  have f5 : Boxed ((((((w.alloc (.cells #[.bool false] 4)).alloc (.cells #[.slice bo L2 c2] 22)).alloc (.cells #[.func (.func 94) #[] #[.pointer (some ⟨w.heap.size + 1, 0, none⟩)]] 106)).alloc (.cells #[.slice ao xs.length c1] 22)).alloc (.cells #[.int .i64 (xs.length : Int)] 3)).alloc (.cells #[.func (.func 94) #[] #[.pointer (some ⟨w.heap.size + 1 + 1 + 1, 0, none⟩)]] 106)) (w.heap.size + 1 + 1 + 1 + 1 + 1) 106 (.func (.func 94) #[] #[.pointer (some ⟨w.heap.size + 1 + 1 + 1, 0, none⟩)]) := by have hh := Boxed.new (((((w.alloc (.cells #[.bool false] 4)).alloc (.cells #[.slice bo L2 c2] 22)).alloc (.cells #[.func (.func 94) #[] #[.pointer (some ⟨w.heap.size + 1, 0, none⟩)]] 106)).alloc (.cells #[.slice ao xs.length c1] 22)).alloc (.cells #[.int .i64 (xs.length : Int)] 3)) 106 (.func (.func 94) #[] #[.pointer (some ⟨w.heap.size + 1 + 1 + 1, 0, none⟩)]); rw [z5] at hh; exact hh
  have hx0 : Ext w ((((((w.alloc (.cells #[.bool false] 4)).alloc (.cells #[.slice bo L2 c2] 22)).alloc (.cells #[.func (.func 94) #[] #[.pointer (some ⟨w.heap.size + 1, 0, none⟩)]] 106)).alloc (.cells #[.slice ao xs.length c1] 22)).alloc (.cells #[.int .i64 (xs.length : Int)] 3)).alloc (.cells #[.func (.func 94) #[] #[.pointer (some ⟨w.heap.size + 1 + 1 + 1, 0, none⟩)]] 106)) := ((((((Ext.refl _).alloc _).alloc _).alloc _).alloc _).alloc _).alloc _
  have hsz : ((((((w.alloc (.cells #[.bool false] 4)).alloc (.cells #[.slice bo L2 c2] 22)).alloc (.cells #[.func (.func 94) #[] #[.pointer (some ⟨w.heap.size + 1, 0, none⟩)]] 106)).alloc (.cells #[.slice ao xs.length c1] 22)).alloc (.cells #[.int .i64 (xs.length : Int)] 3)).alloc (.cells #[.func (.func 94) #[] #[.pointer (some ⟨w.heap.size + 1 + 1 + 1, 0, none⟩)]] 106)).heap.size = w.heap.size + 6 := by rw [z6]
  clear z0 z1 z2 z3 z4 z5 z6
  obtain ⟨W0, hW0⟩ : ∃ W0, ((((((w.alloc (.cells #[.bool false] 4)).alloc (.cells #[.slice bo L2 c2] 22)).alloc (.cells #[.func (.func 94) #[] #[.pointer (some ⟨w.heap.size + 1, 0, none⟩)]] 106)).alloc (.cells #[.slice ao xs.length c1] 22)).alloc (.cells #[.int .i64 (xs.length : Int)] 3)).alloc (.cells #[.func (.func 94) #[] #[.pointer (some ⟨w.heap.size + 1 + 1 + 1, 0, none⟩)]] 106)) = W0 := ⟨_, rfl⟩
  rw [hW0] at f0 f1 f2 f3 f4 f5 hx0 hsz  ⊢
  clear hW0
  have hN72 := prsAll_len h8 (crossB xs)
  refine wpIn_rangeFunc_ownH rfl h1m (gf := 95) (lb := #[.pointer (some ⟨w.heap.size + 1 + 1 + 1 + 1, 0, none⟩), .pointer (some ⟨w.heap.size + 1 + 1 + 1 + 1 + 1, 0, none⟩)]) rfl trivial (enters_of Tryd.func95 (by kernel_rfl) rfl)
    (pairs_c_stops (m - 1) (by omega) (w.heap.size + 1 + 1 + 1 + 1) (w.heap.size + 1 + 1 + 1 + 1 + 1) (w.heap.size + 1 + 1 + 1) xs.length h8 (crossB xs) (fun b => b < w.heap.size + 6) W0
      (cross_ready h8 HIS.out hx0 (fun b hb => by omega) (by omega) (by omega) (by omega) f3 f4 f5))
    KL.trans (KL.putObj (fun b hb => by omega)) (Below.refl _ _) (fun _ => rfl)
    (fun pre W => ((∀ x ∈ pre, crossB ys x.1.1 x.1.2 = true) ∧ Boxed W w.heap.size 4 (.bool false) ∧ Boxed W (w.heap.size + 1) 22 (.slice bo L2 c2) ∧ Boxed W (w.heap.size + 1 + 1) 106 (.func (.func 94) #[] #[.pointer (some ⟨w.heap.size + 1, 0, none⟩)])) ∧ Below w.heap.size w W)
    (fun c pre W => (c = .ret ∧ (∃ x ∈ pre, crossB ys x.1.1 x.1.2 = false) ∧ Boxed W w.heap.size 4 (.bool false)) ∧ Below w.heap.size w W)
    (OwnFrom.and (OwnFrom.and (ownFrom_pure _ _) (OwnFrom.and (Own.from (boxed_own _ _ _) _) (OwnFrom.and (Own.from (boxed_own _ _ _) _) (Own.from (boxed_own _ _ _) _)))) (ownFrom_below (Nat.le_refl _) (by omega)))
    (fun c => OwnFrom.and (OwnFrom.and (ownFrom_pure _ _) (OwnFrom.and (ownFrom_pure _ _) (Own.from (boxed_own _ _ _) _))) (ownFrom_below (Nat.le_refl _) (by omega)))
    ⟨⟨by simp, f0, f1, f2⟩, hx0⟩
    (fun x a' W => ∃ Bx, B2 W Bx (.int .u8 (x.1.1 : Int)) (.int .u8 (x.1.2 : Int)) 112 ∧ a' = { tmps := #[.slice ao xs.length c1, .slice bo L2 c2, undef, undef, .pointer (some ⟨w.heap.size, 0, none⟩), .pointer (some ⟨w.heap.size + 1 + 1, 0, none⟩), .pointer (some ⟨Bx, 0, none⟩), .slice bo L2 c2, .func (.func 94) #[] #[.pointer (some ⟨w.heap.size + 1, 0, none⟩)], .slice ao xs.length c1, .int .i64 (xs.length : Int), .slice ao xs.length c1, .func (.func 94) #[] #[.pointer (some ⟨w.heap.size + 1 + 1 + 1, 0, none⟩)], .func (.func 95) #[] #[.pointer (some ⟨w.heap.size + 1 + 1 + 1 + 1, 0, none⟩), .pointer (some ⟨w.heap.size + 1 + 1 + 1 + 1 + 1, 0, none⟩)], x.val, undef, undef, undef, undef], defers := [] })
    (fun x a' _ X Y row hs hg hr => by obtain ⟨Bx, h2, h3⟩ := hs; exact ⟨Bx, b2_kept h2 hg (fun r e => (hr r e).2), h3⟩)
    ?assign ?body ?done ?stop
  case assign =>
    rintro l pre x W K ⟨⟨i1, i2, i3, i4⟩, i5⟩ hK
    obtain ⟨⟨a, b⟩, p1, p2, p3⟩ := x
    unfold Pr.val at hK ⊢
    simp only at hK ⊢
    have b2 := B2.new W (.int .u8 (a : Int)) (.int .u8 (b : Int)) 112
    have HB2 := Lib.hid b2
    have HI := Lib.hid (And.intro i1 (And.intro i2 (And.intro i3 i4)))
    have HKK := Lib.hid hK
    have hle := i5.size
    have HB := Lib.hid i5
    clear b2 i1 i2 i3 i4 i5 hK
    gi_wp2
    exact HKK.out _ _ ((KeepsOthers.alloc _ _).from _) ((KL.refl _ _).alloc _) ⟨⟨HI.out.1, HI.out.2.1.alloc _, HI.out.2.2.1.alloc _, HI.out.2.2.2.alloc _⟩, Ext.alloc HB.out _⟩ ⟨W.heap.size, HB2.out, rfl⟩
  case body =>
    rintro l pre x a' W hl ⟨r, hr⟩ ⟨⟨i1, i2, i3, i4⟩, i5⟩ ⟨Bx, bX, rfl⟩ hlt
    have hcall := crossing1_as (w.heap.size + 1) _ c2 ys xs.length (by rw [← HL.out, HL2.out]) x W i3.cell (HIS'.out.ext i5) h8
    obtain ⟨⟨a, b⟩, p1, p2, p3⟩ := x
    unfold Pr.val at hcall ⊢
    simp only at hcall ⊢
    have q0 := i2.cell
    have q0f := i2.frozen
    have q2 := i4.cell
    have r0 : W.cell? ⟨Bx, 0, none⟩ = some (.int .u8 (a : Int)) := bX.c0
    have r1 : W.cell? ⟨Bx, 1, none⟩ = some (.int .u8 (b : Int)) := bX.c1
    have HC := Lib.hid hcall
    have HI := Lib.hid (And.intro i1 (And.intro i2 (And.intro i3 (And.intro i4 i5))))
    clear hcall i1 i2 i3 i4 i5 bX hr
    by_cases hcb : crossB ys a b = true
    · rw [hcb] at HC
      have HCB := Lib.hid hcb; clear hcb
      gi_wp2_with (refine ⟨trivial, ?_⟩; gi_at_call 94; refine (CallsIn.inRound l (callsIn_wide.2 HC.out)).mono ?_; rintro e w' ⟨rfl, hx⟩)
      obtain ⟨i1, i2, i3, i4, i5⟩ := HI.out
      refine ⟨KeepsFrom.of_grownBy hx.toGrown (fun j e => by cases e), KL.of_ext hx, ⟨?_, boxed_ext i2 hx, boxed_ext i3 hx, boxed_ext i4 hx⟩, Ext.trans (a := w) i5 hx⟩
      intro y hy
      rcases List.mem_append.1 hy with hy | hy
      · exact i1 y hy
      · simp only [List.mem_cons, List.not_mem_nil, or_false] at hy; subst hy; exact HCB.out
    · rw [Bool.not_eq_true] at hcb
      rw [hcb] at HC
      have HCB := Lib.hid hcb; clear hcb
      gi_wp2_with (refine ⟨trivial, ?_⟩; gi_at_call 94; refine (CallsIn.inRound l (callsIn_wide.2 HC.out)).mono ?_; rintro e w' ⟨rfl, hx⟩; have q0 := hx.cell q0; have q0f : w'.frozen? ⟨w.heap.size, 0, none⟩ = false := (boxed_ext HI.out.2.1 hx).frozen)
      obtain ⟨i1, i2, i3, i4, i5⟩ := HI.out
      refine ⟨(KeepsFrom.of_grownBy hx.toGrown (fun j e => by cases e)).trans ((KeepsOthers.setCell _ _ _).from _), ⟨rfl, ⟨_, List.mem_append.2 (.inr (List.mem_singleton.2 rfl)), HCB.out⟩, (boxed_ext i2 hx).set _⟩, Below.setCell (p := ⟨w.heap.size, 0, none⟩) (Ext.trans (a := w) i5 hx) (Nat.le_refl _) _⟩
  case done =>
    rintro D zs W hD rfl ⟨⟨i1, i2, i3, i4⟩, i5⟩ hK
    have q0 := i2.cell
    have q0f := i2.frozen
    have HA := Lib.hid i1; have H2 := Lib.hid i2; have H5 := Lib.hid i5
    clear i1 i2 i3 i4 i5
    gi_wp2
    have hK' := (KeepsOthers.setCell W ⟨w.heap.size, 0, none⟩ (.bool true)).same D _ hK rfl
    refine ⟨by simp, .inl ⟨_, _, rfl, run_takeDeferred hK', ?_⟩⟩
    have hc5 := cell_kept (H2.out.set (.bool true)).cell (grownBy_putObj' _ D (.deferred none)) (fun r e => by cases e; exact ⟨_, hK', rfl⟩)
    refine ⟨.bool true, ?_, ?_, Below.trans (H5.out.setCell (p := ⟨w.heap.size, 0, none⟩) (Nat.le_refl _) _) (belowK_b (w := w) (Nat.le_refl _) _ D _ _ (by omega) hK' rfl rfl)⟩
    · simp [results, Tryd.f75, go_sem, hc5]
    · have : belowB xs ys = true := List.all_eq_true.2 HA.out
      rw [this]
  case stop =>
    rintro D c pre W hD hpre ⟨⟨rfl, ⟨x, hx1, hx2⟩, i2⟩, i5⟩ hK
    have HX := Lib.hid hx2; have H2 := Lib.hid i2; have H5 := Lib.hid i5
    clear hx2 i5
    gi_wp2
    refine ⟨by simp, .inl ⟨_, _, rfl, run_takeDeferred hK, ?_⟩⟩
    have hc5 := cell_kept H2.out.cell (grownBy_putObj' _ D (.deferred none)) (fun r e => by cases e; exact ⟨_, hK, rfl⟩)
    refine ⟨.bool false, ?_, ?_, Below.trans H5.out (belowK_b (w := w) (Nat.le_refl _) _ D _ _ (by omega) hK rfl rfl)⟩
    · simp [results, Tryd.f75, go_sem, hc5]
    · have : belowB xs ys = false := by
        unfold belowB
        rw [List.all_eq_false]
        exact ⟨x, hpre.subset hx1, by rw [HX.out]; simp⟩
      rw [this]
end Go.Proofs.YtigffblelngpjaaDoor
/- Contracts of permutations: both, size, Inverse, Times, Starts, Ends, Below, Rest. -/
namespace Go.Proofs.YtigffblelngpjaaDoor
set_option linter.unusedVariables false
set_option linter.unusedSimpArgs false
open Go Go.RowKit

def sizeE (n : Int) : Int := if n < 1 then 1 else if 8 < n then 3 else 0
def bothE (xs ys : List Int) : Int := if pcheck xs ≠ 0 then pcheck xs else if pcheck ys ≠ 0 then pcheck ys else if xs.length ≠ ys.length then 5 else 0

/-- All numbers are bytes. -/
def U8L (xs : List Int) : Prop := ∀ i, i < xs.length → 0 ≤ gi xs i ∧ gi xs i ≤ 255

theorem both_calls (v1 v2 : Value) (c1 c2 : Nat) (xs ys : List Int) (w : World) (h : IS .u8 w v1 c1 xs) (h' : IS .u8 w v2 c2 ys) (hb : U8L xs) (hb' : U8L ys) :
    Calls Tryd.prog 74 #[v1, v2] w fun e w' => e = .returned (.int .i64 (bothE xs ys)) ∧ Ext w w' := by
  have hP := Pcheck_calls _ _ _ _ h hb
  have hQ : ∀ w1, Ext w w1 → _ := fun w1 hx => Pcheck_calls _ _ _ w1 (h'.ext hx) hb'
  obtain ⟨_, _, ao, rfl, _⟩ := h.open
  obtain ⟨_, _, bo, rfl, _⟩ := h'.open
  clear h h' hb hb'
  unfold bothE
  obtain ⟨e1, he1⟩ : ∃ e, e = pcheck xs := ⟨_, rfl⟩
  obtain ⟨e2, he2⟩ : ∃ e, e = pcheck ys := ⟨_, rfl⟩
  obtain ⟨n1, hn1⟩ : ∃ e, e = xs.length := ⟨_, rfl⟩
  obtain ⟨n2, hn2⟩ : ∃ e, e = ys.length := ⟨_, rfl⟩
  rw [← he1, ← hn1] at hP
  rw [← he2, ← hn2] at hQ
  rw [← he1, ← he2, ← hn1, ← hn2]
  have HP := Lib.hid hP; have HQ := Lib.hid hQ
  clear hP hQ he1 he2 hn1 hn2
  by_cases h1 : e1 = 0
  · subst h1
    by_cases h2 : e2 = 0
    · subst h2
      by_cases h3 : n1 = n2
      · subst h3
        simp only [ne_eq, not_true_eq_false, if_false]
        go_enter Tryd.func74, Tryd.ntmps74
        go_wp2_with fail
        refine HP.out.mono ?_
        rintro e w1 ⟨rfl, hx⟩
        have HR := Lib.hid (HQ.out w1 hx)
        go_wp2_with fail
        refine HR.out.mono ?_
        rintro e w2 ⟨rfl, hx2⟩
        go_wp2
        go_ret
        exact ⟨rfl, hx.trans hx2⟩
      · have hne : ((n1 : Int) != (n2 : Int)) = true := by simp; omega
        rw [if_neg (by simp), if_neg (by simp), if_pos h3]
        clear h3
        go_enter Tryd.func74, Tryd.ntmps74
        go_wp2_with fail
        refine HP.out.mono ?_
        rintro e w1 ⟨rfl, hx⟩
        have HR := Lib.hid (HQ.out w1 hx)
        go_wp2_with fail
        refine HR.out.mono ?_
        rintro e w2 ⟨rfl, hx2⟩
        go_wp2
        go_ret
        exact ⟨rfl, hx.trans hx2⟩
    · have hne : (e2 != 0) = true := by simpa using h2
      rw [if_neg (by simp), if_pos h2]
      clear h2
      go_enter Tryd.func74, Tryd.ntmps74
      go_wp2_with fail
      refine HP.out.mono ?_
      rintro e w1 ⟨rfl, hx⟩
      have HR := Lib.hid (HQ.out w1 hx)
      go_wp2_with fail
      refine HR.out.mono ?_
      rintro e w2 ⟨rfl, hx2⟩
      go_wp2
      go_ret
      exact ⟨rfl, hx.trans hx2⟩
  · have hne : (e1 != 0) = true := by simpa using h1
    rw [if_pos h1]
    clear h1
    go_enter Tryd.func74, Tryd.ntmps74
    go_wp2_with fail
    refine HP.out.mono ?_
    rintro e w1 ⟨rfl, hx⟩
    go_wp2
    go_ret
    exact ⟨rfl, hx⟩
end Go.Proofs.YtigffblelngpjaaDoor
/- Contracts of permutations: Inverse, Times, Starts, Ends, Below, Rest. -/
namespace Go.Proofs.YtigffblelngpjaaDoor
set_option linter.unusedVariables false
set_option linter.unusedSimpArgs false
open Go Go.RowKit

def turnL (xs : List Int) : List Int := updL (fun k => k) (fun k => (xs.length : Int) + 1 - gi xs k) xs.length
def invL (xs : List Int) : List Int := updL (fun k => (gi xs k - 1).toNat) (fun k => (k : Int) + 1) xs.length
def timesL (xs ys : List Int) : List Int := updL (fun k => k) (fun k => gi ys (gi xs k - 1).toNat) xs.length
theorem turnL_len (xs : List Int) : (turnL xs).length = xs.length := updL_len _ _ _
theorem invL_len (xs : List Int) : (invL xs).length = xs.length := updL_len _ _ _
theorem timesL_len (xs ys : List Int) : (timesL xs ys).length = xs.length := updL_len _ _ _
theorem pok_inR {xs : List Int} (h : pok xs) : inR xs xs.length := fun i hi => h.1 _ (gi_mem hi)
theorem pok_u8 {xs : List Int} (h : pok xs) (h8 : xs.length ≤ 8) : U8L xs := fun i hi => by have := pok_inR h i hi; omega
theorem upd_id (new : Nat → Int) : ∀ (n j : Nat), j < n → upd (fun k => k) new n j = new j
  | 0, j, h => absurd h (Nat.not_lt_zero _)
  | n + 1, j, h => by
    unfold upd
    by_cases e : j = n
    · subst e; rw [if_pos rfl]
    · rw [if_neg e]; exact upd_id new n j (by omega)
theorem timesL_gi {xs ys : List Int} {i : Nat} (h : i < xs.length) : gi (timesL xs ys) i = gi ys (gi xs i - 1).toNat := by
  unfold timesL; rw [updL_gi h, upd_id _ _ _ h]
theorem turnL_gi {xs : List Int} {i : Nat} (h : i < xs.length) : gi (turnL xs) i = (xs.length : Int) + 1 - gi xs i := by
  unfold turnL; rw [updL_gi h, upd_id _ _ _ h]
theorem bothE_zero {xs ys : List Int} (h : bothE xs ys = 0) : pcheck xs = 0 ∧ pcheck ys = 0 ∧ xs.length = ys.length := by
  unfold bothE at h
  split at h
  · rename_i a; exact absurd h a
  · rename_i a
    split at h
    · rename_i b; exact absurd h b
    · rename_i b
      split at h
      · omega
      · rename_i c
        exact ⟨by simpa using a, by simpa using b, by simpa using c⟩

theorem IS.nn2 {k : IntKind} {w : World} {xs : List Int} {c : Nat} {v : Value} (h : IS k w v c xs) : ∃ a, v = .slice a xs.length c := by
  obtain ⟨a, n, c', rfl, rfl, rfl, _⟩ := h.out
  exact ⟨a, rfl⟩

end Go.Proofs.YtigffblelngpjaaDoor
/- Contracts of permutations: Rest, Identity, Half, Flip. -/
namespace Go.Proofs.YtigffblelngpjaaDoor
set_option linter.unusedVariables false
set_option linter.unusedSimpArgs false
open Go Go.RowKit

def restE (xs ys : List Int) : Int := if bothE xs ys ≠ 0 then bothE xs ys else if belowB xs ys = true then 0 else 7
def restL (xs ys : List Int) : List Int := timesL (invL xs) ys
theorem invL_inR {xs : List Int} : inR (invL xs) (invL xs).length → inR (invL xs) xs.length := by rw [invL_len]; exact id

theorem Rest_calls (v1 v2 : Value) (c1 c2 : Nat) (xs ys : List Int) (w : World) (h : IS .u8 w v1 c1 xs) (h' : IS .u8 w v2 c2 ys) (hb : U8L xs) (hb' : U8L ys) (hinv : bothE xs ys = 0 → inR (invL xs) xs.length) :
    Calls Tryd.prog 50 #[v1, v2] w (RetIE .u8 w (if restE xs ys = 0 then xs.length else 0) (if restE xs ys = 0 then restL xs ys else []) (restE xs ys)) := by
  have hP := both_calls _ _ _ _ _ _ _ h h' hb hb'
  unfold restE
  obtain ⟨L, hL⟩ : ∃ L, L = restL xs ys := ⟨_, rfl⟩
  obtain ⟨Q, hQ⟩ : ∃ Q, Q = invL xs := ⟨_, rfl⟩
  obtain ⟨b, hbb⟩ : ∃ b, b = belowB xs ys := ⟨_, rfl⟩
  obtain ⟨cc, hcc⟩ : ∃ L, L = xs.length := ⟨_, rfl⟩
  have hF : bothE xs ys = 0 → ∀ w1, Ext w w1 → Calls Tryd.prog 75 #[v1, v2] w1 fun e w' => e = .returned (.bool b) ∧ Ext w1 w' := fun h0 w1 hx => by
    rw [hbb]
    have hz := bothE_zero h0
    exact below_calls 5 (by omega) v1 v2 c1 c2 xs ys w1 (h.ext hx) (h'.ext hx) (pcheck_zero hz.1).2.1 hz.2.2.symm
  have hG : bothE xs ys = 0 → ∀ w1, Ext w w1 → Calls Tryd.prog 77 #[v1] w1 (RetI .u8 w1 cc Q) := fun h0 w1 hx => by
    rw [hQ, hcc]
    have hz := bothE_zero h0
    exact inverse_calls v1 c1 xs w1 (h.ext hx) (pcheck_zero hz.1).2.1 (pok_inR (pcheck_zero hz.1).2.2)
  have hH : bothE xs ys = 0 → ∀ w1 v3 c3, IS .u8 w1 v3 c3 Q → Ext w w1 → Calls Tryd.prog 76 #[v3, v2] w1 (RetI .u8 w1 cc L) := fun h0 w1 v3 c3 h3 hx => by
    rw [hL, hcc]
    have hz := bothE_zero h0
    have := times_calls v3 c3 Q w1 h3 (by rw [hQ, invL_len]; exact (pcheck_zero hz.1).2.1) (by rw [hQ]; rw [invL_len]; exact hinv h0) v2 c2 ys (h'.ext hx) (by rw [hQ, invL_len]; exact hz.2.2.symm) hb'
    rw [hQ, invL_len] at this
    have e : restL xs ys = updL (fun k => k) (fun k => gi ys (gi (invL xs) k - 1).toNat) xs.length := by unfold restL timesL; rw [invL_len]
    rw [e]
    exact this
  have hQl : Q.length = cc := by rw [hQ, hcc, invL_len]
  rw [← hL, ← hbb]
  obtain ⟨e1, he1⟩ : ∃ e, e = bothE xs ys := ⟨_, rfl⟩
  obtain ⟨_, _, ao, rfl, _⟩ := h.open
  obtain ⟨_, _, bo, rfl, _⟩ := h'.open
  obtain ⟨n2, hn2⟩ : ∃ e, e = ys.length := ⟨_, rfl⟩
  rw [← he1] at hP hF hG hH ⊢
  rw [← hn2] at hP hF hH ⊢
  rw [← hcc] at hP hF hG ⊢
  have HP := Lib.hid hP; have HF := Lib.hid hF; have HG := Lib.hid hG; have HH := Lib.hid hH; have HQl := Lib.hid hQl
  clear hP hF hG hH he1 hn2 h hb h' hb' hL hcc hQ hbb hinv hQl
  by_cases h1 : e1 = 0
  · subst h1
    cases b with
    | true =>
      simp only [ne_eq, not_true_eq_false, if_false, if_true]
      go_enter Tryd.func50, Tryd.ntmps50
      go_wp2_with fail
      refine HP.out.mono ?_
      rintro e w1 ⟨rfl, hx⟩
      have HR := Lib.hid (HF.out (by simp) w1 hx)
      go_wp2_with fail
      refine HR.out.mono ?_
      rintro e w2 ⟨rfl, hx2⟩
      have HS := Lib.hid (HG.out (by simp) w2 (hx.trans hx2))
      go_wp2_with fail
      refine HS.out.mono ?_
      rintro e w3 hret
      obtain ⟨v3, rfl, r1, r2, r3⟩ := hret
      have HT := Lib.hid (HH.out (by simp) w3 v3 _ r1 ((hx.trans hx2).trans r2))
      obtain ⟨a2, n2', c2', rfl, rfl, rfl, r1⟩ := r1.out
      go_wp2_with fail
      refine HT.out.mono ?_
      rintro e w4 hret
      obtain ⟨v4, rfl, t1, t2, t3⟩ := hret
      obtain ⟨a4, n4, c4, rfl, rfl, rfl, t1⟩ := t1.out
      go_wp2
      go_ret2
      exact ⟨_, rfl, t1, ((hx.trans hx2).trans r2).trans t2⟩
    | false =>
      simp only [ne_eq, not_true_eq_false, if_false, Bool.false_eq_true]
      go_enter Tryd.func50, Tryd.ntmps50
      go_wp2_with fail
      refine HP.out.mono ?_
      rintro e w1 ⟨rfl, hx⟩
      have HR := Lib.hid (HF.out (by simp) w1 hx)
      go_wp2_with fail
      refine HR.out.mono ?_
      rintro e w2 ⟨rfl, hx2⟩
      go_wp2
      go_ret2
      exact ⟨_, rfl, IS.nil _ _, hx.trans hx2⟩
  · have hne : (e1 != 0) = true := by simpa using h1
    simp only [ne_eq, h1, not_false_eq_true, if_true, if_false]
    clear h1
    go_enter Tryd.func50, Tryd.ntmps50
    go_wp2_with fail
    refine HP.out.mono ?_
    rintro e w1 ⟨rfl, hx⟩
    go_wp2
    go_ret2
    exact ⟨_, rfl, IS.nil _ _, hx⟩
end Go.Proofs.YtigffblelngpjaaDoor
/- Contracts of permutations: Identity, Half, Flip. -/
namespace Go.Proofs.YtigffblelngpjaaDoor
set_option linter.unusedVariables false
set_option linter.unusedSimpArgs false
open Go Go.RowKit

def idL (n : Nat) : List Int := updL (fun k => k) (fun k => (k : Int) + 1) n
theorem idL_len (n : Nat) : (idL n).length = n := updL_len _ _ _
theorem idL_gi {n i : Nat} (h : i < n) : gi (idL n) i = (i : Int) + 1 := by unfold idL; rw [updL_gi h, upd_id _ _ _ h]

def halfL (n : Nat) : List Int := turnL (idL n)
theorem halfL_len (n : Nat) : (halfL n).length = n := by unfold halfL; rw [turnL_len, idL_len]
theorem halfL_gi {n i : Nat} (h : i < n) : gi (halfL n) i = (n : Int) - i := by
  unfold halfL; rw [turnL_gi (by rw [idL_len]; exact h), idL_len, idL_gi h]; omega

def flipL (xs : List Int) : List Int := updL (fun k => xs.length - 1 - k) (fun k => (xs.length : Int) + 1 - gi xs k) xs.length
theorem flipL_len (xs : List Int) : (flipL xs).length = xs.length := updL_len _ _ _
theorem Flip_bad (v : Value) (c : Nat) (xs : List Int) (w : World) (h : IS .u8 w v c xs) (hb : U8L xs) (h0 : pcheck xs ≠ 0) :
    Calls Tryd.prog 24 #[v] w (RetIE .u8 w 0 [] (pcheck xs)) := by
  have hP := Pcheck_calls _ _ _ _ h hb
  obtain ⟨_, _, ao, rfl, _⟩ := h.open
  obtain ⟨e1, he1⟩ : ∃ e, e = pcheck xs := ⟨_, rfl⟩
  rw [← he1] at hP h0 ⊢
  have HP := Lib.hid hP
  have hne : (e1 != 0) = true := by simpa using h0
  clear hP he1 h0 h hb
  go_enter Tryd.func24, Tryd.ntmps24
  go_wp2_with fail
  refine HP.out.mono ?_
  rintro e w1 ⟨rfl, hx⟩
  go_wp2
  go_ret2
  exact ⟨_, rfl, IS.nil _ _, hx⟩

set_option maxHeartbeats 1000000 in
theorem Flip_ok (v : Value) (c : Nat) (xs : List Int) (w : World) (h : IS .u8 w v c xs) (hb : U8L xs) (h0 : pcheck xs = 0) :
    Calls Tryd.prog 24 #[v] w (RetIE .u8 w xs.length (flipL xs) 0) := by
  have hP := Pcheck_calls _ _ _ _ h hb
  rw [h0] at hP
  obtain ⟨h1, h2, ao, rfl, hao⟩ := h.open
  obtain ⟨hl1, hl, hok⟩ := pcheck_zero h0
  have hb := pok_inR hok
  have hfin : ∀ w1 wr, URow w1 wr xs.length (fun k => xs.length - 1 - k) (fun k => (xs.length : Int) + 1 - gi xs k) xs.length → IS .u8 wr (.slice (some ⟨w1.heap.size, 0, none⟩) xs.length xs.length) xs.length (flipL xs) := fun w1 wr hu => hu.ret (by omega)
  obtain ⟨L, hL⟩ : ∃ L, L = flipL xs := ⟨_, rfl⟩
  rw [← hL] at hfin ⊢
  have hb' : ∀ i, i < xs.length → 1 ≤ gi xs i ∧ gi xs i ≤ (xs.length : Int) := hb
  obtain ⟨N, hN⟩ : ∃ N, N = xs.length := ⟨_, rfl⟩
  rw [← hN] at hP hao h1 hl hb' hfin hl1 ⊢
  have Hb := Lib.hid hb'; have HF := Lib.hid hfin; have HP := Lib.hid hP
  clear hN hb hb' hfin h hP h0 hok hL
  unfold maxLen at h2
  have hmk := run_make_row' (P := Tryd.prog) 22 5 (.int .u8 0) 1 Tryd.underlying22 (by kernel_rfl) rfl .i64 .i64 N (by omega) (by omega)
  go_enter Tryd.func24, Tryd.ntmps24
  go_wp2_with fail
  refine HP.out.mono ?_
  rintro e w1 ⟨rfl, hx⟩
  have HX := Lib.hid hx; clear hx
  go_wp2
  go_loopw [20] (fun i wr => ∃ k : Nat, k ≤ N ∧ i = .int .i64 k ∧ Hid (URow w1 wr N (fun k => N - 1 - k) (fun k => (N : Int) + 1 - gi xs k) k)) (fun i _ => N - (intOf i).toNat)
  case atStart => exact ⟨0, Nat.zero_le _, rfl, Lib.hid (URow.start w1 N _ _)⟩
  case round =>
    obtain ⟨k, hk, rfl, H⟩ := hrel
    by_cases hlt : k < N
    · obtain ⟨b, o, rfl, hc⟩ : ∃ b o, ao = some ⟨b, o, none⟩ ∧ ∀ i, i < N → w.cell? ⟨b, o + i, none⟩ = some (.int .u8 (gi xs i)) := by
        rcases hao with ⟨_, h0, _⟩ | h
        · omega
        · exact h
      have hck := H.out.1.cell (HX.out.cell (hc k hlt))
      obtain ⟨b1, b2⟩ := Hb.out k hlt
      have hnx := H.out.next
      obtain ⟨_, f, hrow, hf⟩ := H.out
      obtain ⟨y, hy⟩ : ∃ y, y = N - 1 - k := ⟨_, rfl⟩
      have hyi : (N : Int) - 1 - (k : Int) = (y : Int) := by omega
      have hst := hrow.cell (i := y) (by omega)
      have hfz := hrow.frozen y
      rw [hf y] at hst
      obtain ⟨x, hx⟩ : ∃ x, x = gi xs k := ⟨_, rfl⟩
      simp only [← hx, ← hy] at hck b1 b2 hnx
      have hyN : y < N := by omega
      have HNX := Lib.hid hnx
      clear hx hnx hc hao hrow hf hy
      go_wp2
      go_roundw
      case rel => exact ⟨k + 1, by omega, by go_num, HNX.out⟩
      case measure => simp [intOf]; omega
    · obtain rfl : k = N := by omega
      go_wp2
      go_ret2
      exact ⟨_, rfl, HF.out _ _ H.out, HX.out.trans H.out.1⟩
end Go.Proofs.YtigffblelngpjaaDoor
/- Plain facts on counting and on permutations as lists of numbers: ranks, and the relation of the pairs that cross. No program in sight. -/
namespace Go.Proofs.YtigffblelngpjaaDoor
set_option linter.unusedVariables false
set_option linter.unusedSimpArgs false
open Go

/-! ### Counting over 1 .. n -/
def sm : Nat → (Nat → Int) → Int
  | 0, _ => 0
  | n + 1, f => sm n f + f (n + 1)
def tf (b : Bool) : Int := if b then 1 else 0
def cnt (n : Nat) (p : Nat → Bool) : Int := sm n fun j => tf (p j)
theorem tf_true : tf true = 1 := rfl
theorem tf_false : tf false = 0 := rfl
theorem tf_bd (b : Bool) : 0 ≤ tf b ∧ tf b ≤ 1 := by cases b <;> simp [tf]
theorem sm_congr {n : Nat} {f g : Nat → Int} (h : ∀ j, 1 ≤ j → j ≤ n → f j = g j) : sm n f = sm n g := by
  induction n with
  | zero => rfl
  | succ n ih => rw [sm, sm, ih fun j h1 h2 => h j h1 (by omega), h (n + 1) (by omega) (by omega)]
theorem sm_le {n : Nat} {f g : Nat → Int} (h : ∀ j, 1 ≤ j → j ≤ n → f j ≤ g j) : sm n f ≤ sm n g := by
  induction n with
  | zero => exact Int.le_refl _
  | succ n ih => rw [sm, sm]; have := ih fun j h1 h2 => h j h1 (by omega); have := h (n + 1) (by omega) (by omega); omega
theorem sm_lt {n : Nat} {f g : Nat → Int} (h : ∀ j, 1 ≤ j → j ≤ n → f j ≤ g j) {i : Nat} (h1 : 1 ≤ i) (h2 : i ≤ n) (hi : f i < g i) : sm n f < sm n g := by
  induction n with
  | zero => omega
  | succ n ih =>
    rw [sm, sm]
    by_cases e : i = n + 1
    · subst e; have := sm_le (n := n) (f := f) (g := g) fun j h1 h2 => h j h1 (by omega); omega
    · have := ih (fun j h1 h2 => h j h1 (by omega)) (by omega); have := h (n + 1) (by omega) (by omega); omega
theorem sm_add (n : Nat) (f g : Nat → Int) : sm n (fun j => f j + g j) = sm n f + sm n g := by
  induction n with
  | zero => rfl
  | succ n ih => simp only [sm, ih]; omega
theorem sm_sub (n : Nat) (f g : Nat → Int) : sm n (fun j => f j - g j) = sm n f - sm n g := by
  induction n with
  | zero => rfl
  | succ n ih => simp only [sm, ih]; omega
theorem sm_zero {n : Nat} {f : Nat → Int} (h : ∀ j, 1 ≤ j → j ≤ n → f j = 0) : sm n f = 0 := by
  induction n with
  | zero => rfl
  | succ n ih => rw [sm, ih fun j h1 h2 => h j h1 (by omega), h (n + 1) (by omega) (by omega)]; rfl
theorem sm_nonneg {n : Nat} {f : Nat → Int} (h : ∀ j, 1 ≤ j → j ≤ n → 0 ≤ f j) : 0 ≤ sm n f := by
  have := sm_le (n := n) (f := fun _ => 0) (g := f) h
  rwa [sm_zero fun _ _ _ => rfl] at this
theorem sm_one (n : Nat) : sm n (fun _ => 1) = n := by
  induction n with
  | zero => rfl
  | succ n ih => simp only [sm, ih]; omega
theorem sm_comm (n m : Nat) (f : Nat → Nat → Int) : sm n (fun i => sm m fun j => f i j) = sm m fun j => sm n fun i => f i j := by
  induction n with
  | zero => exact (sm_zero fun _ _ _ => rfl).symm
  | succ n ih => simp only [sm, ih]; rw [← sm_add]
theorem sm_pick {n : Nat} {f : Nat → Int} {u : Nat} (h1 : 1 ≤ u) (h2 : u ≤ n) (h : ∀ j, 1 ≤ j → j ≤ n → j ≠ u → f j = 0) : sm n f = f u := by
  induction n with
  | zero => omega
  | succ n ih =>
    rw [sm]
    by_cases e : u = n + 1
    · subst e; rw [sm_zero fun j h1 h2 => h j h1 (by omega) (by omega)]; omega
    · rw [ih (by omega) fun j h1 h2 h3 => h j h1 (by omega) h3, h (n + 1) (by omega) (by omega) (fun e' => e e'.symm)]; omega
theorem sm_pos {n : Nat} {f : Nat → Int} (h0 : ∀ j, 1 ≤ j → j ≤ n → 0 ≤ f j) (h : 0 < sm n f) : ∃ j, 1 ≤ j ∧ j ≤ n ∧ 0 < f j := by
  induction n with
  | zero => simp [sm] at h
  | succ n ih =>
    rw [sm] at h
    by_cases e : 0 < f (n + 1)
    · exact ⟨n + 1, by omega, by omega, e⟩
    · have := h0 (n + 1) (by omega) (by omega)
      obtain ⟨j, a, b, c⟩ := ih (fun j h1 h2 => h0 j h1 (by omega)) (by omega)
      exact ⟨j, a, by omega, c⟩
theorem cnt_congr {n : Nat} {p q : Nat → Bool} (h : ∀ j, 1 ≤ j → j ≤ n → p j = q j) : cnt n p = cnt n q := sm_congr fun j h1 h2 => by rw [h j h1 h2]
theorem cnt_nonneg (n : Nat) (p : Nat → Bool) : 0 ≤ cnt n p := sm_nonneg fun j _ _ => (tf_bd _).1
theorem cnt_le (n : Nat) (p : Nat → Bool) : cnt n p ≤ n := by
  have := sm_le (n := n) (f := fun j => tf (p j)) (g := fun _ => 1) fun j _ _ => (tf_bd _).2
  rwa [sm_one] at this
theorem cnt_lt_of {n : Nat} {p q : Nat → Bool} (h : ∀ j, 1 ≤ j → j ≤ n → p j = true → q j = true) {i : Nat} (h1 : 1 ≤ i) (h2 : i ≤ n) (hp : p i = false) (hq : q i = true) : cnt n p < cnt n q := by
  refine sm_lt (fun j a b => ?_) h1 h2 (by rw [hp, hq]; decide)
  cases hj : p j with
  | false => exact (tf_bd _).1
  | true => rw [h j a b hj]; exact Int.le_refl _
theorem cnt_below {n i : Nat} (h1 : 1 ≤ i) (h : i ≤ n + 1) : cnt n (fun j => decide (j < i)) = (i : Int) - 1 := by
  induction n with
  | zero => have : i = 1 := by omega
            subst this; rfl
  | succ n ih =>
    simp only [cnt, sm] at *
    by_cases e : i = n + 1 + 1
    · subst e
      have : sm n (fun j => tf (decide (j < n + 1 + 1))) = sm n fun _ => 1 := sm_congr fun j a b => by rw [decide_eq_true (by omega)]; rfl
      rw [this, sm_one, decide_eq_true (by omega), tf_true]; omega
    · rw [ih (by omega), decide_eq_false (by omega), tf_false]; omega

/-! ### A relation that is closed both ways, and its ranks -/
def Trn (n : Nat) (C : Nat → Nat → Bool) : Prop := ∀ a b c, 1 ≤ a → a < b → b < c → c ≤ n → C a b = true → C b c = true → C a c = true
def Cot (n : Nat) (C : Nat → Nat → Bool) : Prop := ∀ a b c, 1 ≤ a → a < b → b < c → c ≤ n → C a c = true → C a b = true ∨ C b c = true
/-- i comes ahead of j. -/
def prec (C : Nat → Nat → Bool) (i j : Nat) : Bool := (decide (i < j) && !C i j) || (decide (j < i) && C j i)
def rank (n : Nat) (C : Nat → Nat → Bool) (i : Nat) : Int := 1 + cnt n fun j => prec C j i
theorem prec_irrefl (C : Nat → Nat → Bool) (i : Nat) : prec C i i = false := by simp [prec]
theorem prec_lt {C : Nat → Nat → Bool} {i j : Nat} (h : i < j) : prec C i j = !C i j := by simp [prec, h, show ¬ j < i by omega]
theorem prec_gt {C : Nat → Nat → Bool} {i j : Nat} (h : j < i) : prec C i j = C j i := by simp [prec, h, show ¬ i < j by omega]
theorem prec_total {C : Nat → Nat → Bool} {i j : Nat} (h : i ≠ j) : prec C i j = true ∨ prec C j i = true := by
  rcases Nat.lt_or_gt_of_ne h with h | h
  · rw [prec_lt h, prec_gt h]; cases C i j <;> simp
  · rw [prec_lt h, prec_gt h]; cases C j i <;> simp
theorem prec_trans {n : Nat} {C : Nat → Nat → Bool} (ht : Trn n C) (hc : Cot n C) {i j k : Nat} (i1 : 1 ≤ i) (i2 : i ≤ n) (j1 : 1 ≤ j) (j2 : j ≤ n) (k1 : 1 ≤ k) (k2 : k ≤ n)
    (h : prec C i j = true) (h' : prec C j k = true) : prec C i k = true := by
  have hij : i ≠ j := fun e => by subst e; rw [prec_irrefl] at h; cases h
  have hjk : j ≠ k := fun e => by subst e; rw [prec_irrefl] at h'; cases h'
  have hik : i ≠ k := fun e => by
    subst e
    rcases Nat.lt_or_gt_of_ne hij with l | l
    · rw [prec_lt l] at h; rw [prec_gt l] at h'; rw [h'] at h; cases h
    · rw [prec_gt l] at h; rw [prec_lt l] at h'; rw [h] at h'; cases h'
  rcases Nat.lt_or_gt_of_ne hij with l1 | l1 <;> rcases Nat.lt_or_gt_of_ne hjk with l2 | l2 <;> rcases Nat.lt_or_gt_of_ne hik with l3 | l3 <;> try omega
  all_goals
    first
      | rw [prec_lt l1] at h
      | rw [prec_gt l1] at h
    first
      | rw [prec_lt l2] at h'
      | rw [prec_gt l2] at h'
    first
      | rw [prec_lt l3]
      | rw [prec_gt l3]
  · -- i < j < k
    cases e : C i k with
    | false => rfl
    | true => rcases hc i j k i1 l1 l2 k2 e with x | x <;> simp [x] at h h'
  · -- i < k < j
    cases e : C i k with
    | false => rfl
    | true => have := ht i k j i1 l3 l2 j2 e h'; simp [this] at h
  · -- k < i < j
    rcases hc k i j k1 l3 l1 j2 h' with x | x
    · exact x
    · simp [x] at h
  · -- j < i < k
    cases e : C i k with
    | false => rfl
    | true => have := ht j i k j1 l1 l3 k2 h e; simp [this] at h'
  · -- j < k < i
    rcases hc j k i j1 l2 l3 i2 h with x | x
    · simp [x] at h'
    · exact x
  · exact ht k j i k1 l2 l1 i2 h' h
theorem rank_lt {n : Nat} {C : Nat → Nat → Bool} (ht : Trn n C) (hc : Cot n C) {i j : Nat} (i1 : 1 ≤ i) (i2 : i ≤ n) (j1 : 1 ≤ j) (j2 : j ≤ n) (h : prec C i j = true) : rank n C i < rank n C j := by
  unfold rank
  have := cnt_lt_of (n := n) (p := fun k => prec C k i) (q := fun k => prec C k j) (fun k a b hk => prec_trans ht hc a b i1 i2 j1 j2 hk h) i1 i2 (prec_irrefl _ _) h
  omega
theorem rank_lt_iff {n : Nat} {C : Nat → Nat → Bool} (ht : Trn n C) (hc : Cot n C) {i j : Nat} (i1 : 1 ≤ i) (i2 : i ≤ n) (j1 : 1 ≤ j) (j2 : j ≤ n) : rank n C i < rank n C j ↔ prec C i j = true := by
  refine ⟨fun h => ?_, rank_lt ht hc i1 i2 j1 j2⟩
  by_cases e : i = j
  · subst e; omega
  · rcases prec_total (C := C) e with x | x
    · exact x
    · have := rank_lt ht hc j1 j2 i1 i2 x; omega
theorem rank_bd {n : Nat} {C : Nat → Nat → Bool} {i : Nat} (i1 : 1 ≤ i) (i2 : i ≤ n) : 1 ≤ rank n C i ∧ rank n C i ≤ n := by
  unfold rank
  refine ⟨by have := cnt_nonneg n fun j => prec C j i; omega, ?_⟩
  have := cnt_lt_of (n := n) (p := fun k => prec C k i) (q := fun _ => true) (fun _ _ _ _ => rfl) i1 i2 (prec_irrefl _ _) rfl
  have := cnt_le n fun _ => true
  omega
/-- The rank, as the code counts it. -/
theorem rank_eq {n : Nat} {C : Nat → Nat → Bool} {i : Nat} (i1 : 1 ≤ i) (i2 : i ≤ n) :
    rank n C i = (i : Int) + cnt n (fun b => decide (i < b) && C i b) - cnt n (fun a => decide (a < i) && C a i) := by
  unfold rank
  have h1 : cnt n (fun j => decide (j < i)) = (i : Int) - 1 := cnt_below i1 (by omega)
  have h2 : cnt n (fun j => prec C j i) = cnt n (fun j => decide (j < i)) - cnt n (fun a => decide (a < i) && C a i) + cnt n (fun b => decide (i < b) && C i b) := by
    simp only [cnt]
    rw [← sm_sub, ← sm_add]
    refine sm_congr fun j _ _ => ?_
    rcases Nat.lt_trichotomy j i with l | l | l
    · rw [prec_lt l]; simp only [decide_eq_true l, decide_eq_false (show ¬ i < j by omega)]; cases C j i <;> rfl
    · subst l; rw [prec_irrefl]; simp [tf]
    · rw [prec_gt l]; simp only [decide_eq_true l, decide_eq_false (show ¬ j < i by omega)]; cases C i j <;> rfl
  omega

/-! ### Warshall -/
def wround (C : Nat → Nat → Bool) (m : Nat) : Nat → Nat → Bool := fun a c => C a c || (decide (a < m) && decide (m < c) && C a m && C m c)
def wsh (E : Nat → Nat → Bool) : Nat → Nat → Nat → Bool
  | 0 => E
  | k + 1 => wround (wsh E k) k
theorem wround_le (C : Nat → Nat → Bool) (m : Nat) {a c : Nat} (h : C a c = true) : wround C m a c = true := by simp [wround, h]
theorem wround_new {C : Nat → Nat → Bool} {m a c : Nat} (h1 : a < m) (h2 : m < c) (h3 : C a m = true) (h4 : C m c = true) : wround C m a c = true := by simp [wround, h1, h2, h3, h4]
theorem wround_cases {C : Nat → Nat → Bool} {m a c : Nat} (h : wround C m a c = true) : C a c = true ∨ (a < m ∧ m < c ∧ C a m = true ∧ C m c = true) := by
  simp only [wround, Bool.or_eq_true, Bool.and_eq_true, decide_eq_true_eq] at h
  rcases h with h | ⟨⟨⟨h1, h2⟩, h3⟩, h4⟩
  · exact .inl h
  · exact .inr ⟨h1, h2, h3, h4⟩
theorem wsh_le (E : Nat → Nat → Bool) {a c : Nat} (h : E a c = true) : ∀ k, wsh E k a c = true
  | 0 => h
  | k + 1 => wround_le _ _ (wsh_le E h k)
theorem wsh_least {n : Nat} {E D : Nat → Nat → Bool} (hE : ∀ a c, E a c = true → 1 ≤ a ∧ a < c ∧ c ≤ n ∧ D a c = true) (ht : Trn n D) : ∀ k a c, wsh E k a c = true → 1 ≤ a ∧ a < c ∧ c ≤ n ∧ D a c = true
  | 0, a, c, h => hE a c h
  | k + 1, a, c, h => by
    rcases wround_cases h with h | ⟨h1, h2, h3, h4⟩
    · exact wsh_least hE ht k a c h
    · have x := wsh_least hE ht k _ _ h3
      have y := wsh_least hE ht k _ _ h4
      exact ⟨x.1, by omega, y.2.2.1, ht a k c x.1 h1 h2 y.2.2.1 x.2.2.2 y.2.2.2⟩
theorem wsh_cot {n : Nat} {E : Nat → Nat → Bool} (h : Cot n E) : ∀ k, Cot n (wsh E k)
  | 0 => h
  | k + 1 => fun a b c a1 ab bc cn hac => by
    have ih := wsh_cot h k
    rcases wround_cases hac with hac | ⟨h1, h2, h3, h4⟩
    · rcases ih a b c a1 ab bc cn hac with x | x
      · exact .inl (wround_le _ _ x)
      · exact .inr (wround_le _ _ x)
    · rcases Nat.lt_trichotomy b k with l | l | l
      · rcases ih a b k a1 ab l (by omega) h3 with x | x
        · exact .inl (wround_le _ _ x)
        · exact .inr (wround_new l h2 x h4)
      · subst l; exact .inl (wround_le _ _ h3)
      · rcases ih k b c (by omega) l bc cn h4 with x | x
        · exact .inl (wround_new h1 l h3 x)
        · exact .inr (wround_le _ _ x)
theorem wsh_part {E : Nat → Nat → Bool} : ∀ k a b c, a < b → b < c → b < k → wsh E k a b = true → wsh E k b c = true → wsh E k a c = true
  | 0, a, b, c, _, _, h, _, _ => absurd h (Nat.not_lt_zero _)
  | k + 1, a, b, c, ab, bc, bk, h1, h2 => by
    have ih := @wsh_part E k
    by_cases e : b = k
    · subst e
      rcases wround_cases h1 with h1 | ⟨_, x, _⟩
      · rcases wround_cases h2 with h2 | ⟨x, _⟩
        · exact wround_new ab bc h1 h2
        · omega
      · omega
    · rcases wround_cases h1 with h1 | ⟨_, x, _⟩
      · rcases wround_cases h2 with h2 | ⟨_, x, y, z⟩
        · exact wround_le _ _ (ih a b c ab bc (by omega) h1 h2)
        · exact wround_new (by omega) x (ih a b k ab (by omega) (by omega) h1 y) z
      · omega
theorem wsh_trn {n : Nat} {E : Nat → Nat → Bool} {k : Nat} (hk : n ≤ k) : Trn n (wsh E k) := fun a b c _ ab bc cn h1 h2 => wsh_part k a b c ab bc (by omega) h1 h2

/-! ### Permutations -/
/-- The number of strand i. -/
def pv (xs : List Int) (i : Nat) : Nat := (gi xs (i - 1)).toNat
def crB (xs : List Int) (a b : Nat) : Bool := decide (gi xs (b - 1) < gi xs (a - 1))
theorem pok_bd {xs : List Int} (h : pok xs) {i : Nat} (h1 : 1 ≤ i) (h2 : i ≤ xs.length) : 1 ≤ gi xs (i - 1) ∧ gi xs (i - 1) ≤ (xs.length : Int) := h.1 _ (gi_mem (by omega))
theorem pok_inj {xs : List Int} (h : pok xs) {i j : Nat} (h1 : 1 ≤ i) (h2 : i ≤ xs.length) (h3 : 1 ≤ j) (h4 : j ≤ xs.length) (e : gi xs (i - 1) = gi xs (j - 1)) : i = j := by
  rw [gi_of_lt (show i - 1 < xs.length by omega), gi_of_lt (show j - 1 < xs.length by omega)] at e
  have := (List.getElem_inj h.2).1 e
  omega
theorem pok_mk {xs : List Int} (h : ∀ i, 1 ≤ i → i ≤ xs.length → 1 ≤ gi xs (i - 1) ∧ gi xs (i - 1) ≤ (xs.length : Int)) (hi : ∀ i j, 1 ≤ i → i < j → j ≤ xs.length → gi xs (i - 1) ≠ gi xs (j - 1)) : pok xs := by
  refine ⟨gi_all fun i hi' => ?_, ?_⟩
  · have := h (i + 1) (by omega) (by omega); rwa [Nat.add_sub_cancel] at this
  · rw [List.nodup_iff_pairwise_ne, List.pairwise_iff_getElem]
    intro i j h1 h2 hij
    have := hi (i + 1) (j + 1) (by omega) (by omega) (by omega)
    rwa [Nat.add_sub_cancel, Nat.add_sub_cancel, gi_of_lt h1, gi_of_lt h2] at this
theorem cnt_eq_le {xs : List Int} (h : pok xs) (v : Int) {n : Nat} (hn : n ≤ xs.length) : cnt n (fun j => decide (gi xs (j - 1) = v)) ≤ 1 := by
  induction n with
  | zero => simp [cnt, sm]
  | succ n ih =>
    simp only [cnt, sm] at *
    by_cases e : gi xs (n + 1 - 1) = v
    · have : sm n (fun j => tf (decide (gi xs (j - 1) = v))) = 0 := sm_zero fun j h1 h2 => by
        rw [decide_eq_false (fun e' => by have := pok_inj h h1 (by omega) (by omega) (by omega) (e'.trans e.symm); omega)]; rfl
      rw [this]; have := (tf_bd (decide (gi xs (n + 1 - 1) = v))).2; omega
    · rw [decide_eq_false e]; have := ih (by omega); simp only [tf_false]; omega
/-- How many are less than a number. -/
theorem cnt_def (n : Nat) (p : Nat → Bool) : cnt n p = sm n fun j => tf (p j) := rfl
theorem cnt_less {xs : List Int} (h : pok xs) : ∀ v : Nat, 1 ≤ v → v ≤ xs.length + 1 → cnt xs.length (fun j => decide (gi xs (j - 1) < (v : Int))) = (v : Int) - 1 := by
  have hs : ∀ v : Nat, cnt xs.length (fun j => decide (gi xs (j - 1) < ((v + 1 : Nat) : Int))) = cnt xs.length (fun j => decide (gi xs (j - 1) < (v : Int))) + cnt xs.length (fun j => decide (gi xs (j - 1) = (v : Int))) := fun v => by
    simp only [cnt]
    rw [← sm_add]
    refine sm_congr fun j _ _ => ?_
    by_cases a : gi xs (j - 1) < (v : Int)
    · rw [decide_eq_true a, decide_eq_true (show gi xs (j - 1) < ((v + 1 : Nat) : Int) by omega), decide_eq_false (by omega)]; rfl
    · by_cases b : gi xs (j - 1) = (v : Int)
      · rw [decide_eq_false a, decide_eq_true b, decide_eq_true (by omega)]; rfl
      · rw [decide_eq_false a, decide_eq_false b, decide_eq_false (by omega)]; rfl
  have h1 : cnt xs.length (fun j => decide (gi xs (j - 1) < ((1 : Nat) : Int))) = 0 := (cnt_def _ _).trans <| sm_zero fun j a b => by
    rw [decide_eq_false (by have := pok_bd h a b; omega)]; rfl
  have h2 : cnt xs.length (fun j => decide (gi xs (j - 1) < ((xs.length + 1 : Nat) : Int))) = xs.length := by
    have : cnt xs.length (fun j => decide (gi xs (j - 1) < ((xs.length + 1 : Nat) : Int))) = sm xs.length fun _ => 1 := (cnt_def _ _).trans <| sm_congr fun j a b => by
      rw [decide_eq_true (by have := pok_bd h a b; omega)]; rfl
    rw [this, sm_one]
  have up : ∀ v : Nat, 1 ≤ v → cnt xs.length (fun j => decide (gi xs (j - 1) < (v : Int))) ≤ (v : Int) - 1 := fun v => by
    induction v with
    | zero => intro h; omega
    | succ v ih =>
      intro _
      by_cases e : v = 0
      · subst e; rw [h1]; omega
      · have := ih (by omega)
        have := cnt_eq_le h (v : Int) (Nat.le_refl xs.length)
        rw [hs]; omega
  have down : ∀ d v : Nat, 1 ≤ v → v + d = xs.length + 1 → (v : Int) - 1 ≤ cnt xs.length (fun j => decide (gi xs (j - 1) < (v : Int))) := fun d => by
    induction d with
    | zero => intro v _ e; obtain rfl : v = xs.length + 1 := by omega
              rw [h2]; omega
    | succ d ih =>
      intro v hv e
      have := ih (v + 1) (by omega) (by omega)
      have := cnt_eq_le h (v : Int) (Nat.le_refl xs.length)
      rw [hs] at *; omega
  intro v hv hle
  have := up v hv
  have := down (xs.length + 1 - v) v hv (by omega)
  omega
theorem pok_surj {xs : List Int} (h : pok xs) {v : Nat} (h1 : 1 ≤ v) (h2 : v ≤ xs.length) : cnt xs.length (fun j => decide (gi xs (j - 1) = (v : Int))) = 1 := by
  have a := cnt_less h v h1 (by omega)
  have b := cnt_less h (v + 1) (by omega) (by omega)
  have hs : cnt xs.length (fun j => decide (gi xs (j - 1) < ((v + 1 : Nat) : Int))) = cnt xs.length (fun j => decide (gi xs (j - 1) < (v : Int))) + cnt xs.length (fun j => decide (gi xs (j - 1) = (v : Int))) := by
    simp only [cnt]
    rw [← sm_add]
    refine sm_congr fun j _ _ => ?_
    by_cases a : gi xs (j - 1) < (v : Int)
    · rw [decide_eq_true a, decide_eq_true (show gi xs (j - 1) < ((v + 1 : Nat) : Int) by omega), decide_eq_false (by omega)]; rfl
    · by_cases b : gi xs (j - 1) = (v : Int)
      · rw [decide_eq_false a, decide_eq_true b, decide_eq_true (by omega)]; rfl
      · rw [decide_eq_false a, decide_eq_false b, decide_eq_false (by omega)]; rfl
  omega
theorem pok_onto {xs : List Int} (h : pok xs) {v : Nat} (h1 : 1 ≤ v) (h2 : v ≤ xs.length) : ∃ i, 1 ≤ i ∧ i ≤ xs.length ∧ gi xs (i - 1) = (v : Int) := by
  obtain ⟨j, a, b, c⟩ := sm_pos (n := xs.length) (f := fun j => tf (decide (gi xs (j - 1) = (v : Int)))) (fun _ _ _ => (tf_bd _).1) (by have := pok_surj h h1 h2; rw [cnt_def] at this; omega)
  refine ⟨j, a, b, ?_⟩
  by_cases e : gi xs (j - 1) = (v : Int)
  · exact e
  · rw [decide_eq_false e] at c; simp [tf] at c
theorem crB_trn {xs : List Int} (n : Nat) : Trn n (crB xs) := fun a b c _ _ _ _ h1 h2 => by
  simp only [crB, decide_eq_true_eq] at *; omega
theorem crB_cot {xs : List Int} (n : Nat) : Cot n (crB xs) := fun a b c _ _ _ _ h => by
  simp only [crB, decide_eq_true_eq] at *; omega
/-- A permutation's number is the rank under what crosses. -/
theorem pok_rank {xs : List Int} (h : pok xs) {i : Nat} (h1 : 1 ≤ i) (h2 : i ≤ xs.length) : gi xs (i - 1) = rank xs.length (crB xs) i := by
  have hb := pok_bd h h1 h2
  obtain ⟨v, hv⟩ : ∃ v : Nat, gi xs (i - 1) = (v : Int) := ⟨(gi xs (i - 1)).toNat, by omega⟩
  have hl := cnt_less h v (by omega) (by omega)
  unfold rank
  have : cnt xs.length (fun j => prec (crB xs) j i) = cnt xs.length (fun j => decide (gi xs (j - 1) < (v : Int))) := by
    refine cnt_congr fun j a b => ?_
    rcases Nat.lt_trichotomy j i with l | l | l
    · rw [prec_lt l]
      have : gi xs (j - 1) ≠ gi xs (i - 1) := fun e => by have := pok_inj h a b h1 h2 e; omega
      simp only [crB, hv] at *
      rw [Bool.eq_iff_iff]; simp; omega
    · subst l; rw [prec_irrefl, hv]; simp
    · rw [prec_gt l]; simp only [crB, hv]
  rw [this, hl, hv]; omega
theorem crB_ext {xs ys : List Int} (hx : pok xs) (hy : pok ys) (hl : xs.length = ys.length) (h : ∀ a b, 1 ≤ a → a < b → b ≤ xs.length → crB xs a b = crB ys a b) : xs = ys := by
  refine gi_ext hl fun i hi => ?_
  have a := pok_rank hx (i := i + 1) (by omega) (by omega)
  have b := pok_rank hy (i := i + 1) (by omega) (by omega)
  rw [Nat.add_sub_cancel] at a b
  rw [a, b, ← hl]
  unfold rank
  congr 1
  refine cnt_congr fun j j1 j2 => ?_
  rcases Nat.lt_trichotomy j (i + 1) with l | l | l
  · rw [prec_lt l, prec_lt l, h j (i + 1) j1 l (by omega)]
  · subst l; rw [prec_irrefl, prec_irrefl]
  · rw [prec_gt l, prec_gt l, h (i + 1) j (by omega) l j2]
/-- The list of the ranks of a relation that is closed both ways. -/
def rankL (n : Nat) (C : Nat → Nat → Bool) : List Int := (List.range n).map fun i => rank n C (i + 1)
theorem rankL_len (n : Nat) (C : Nat → Nat → Bool) : (rankL n C).length = n := by simp [rankL]
theorem rankL_gi {n : Nat} {C : Nat → Nat → Bool} {i : Nat} (h1 : 1 ≤ i) (h2 : i ≤ n) : gi (rankL n C) (i - 1) = rank n C i := by
  unfold rankL; rw [gi_range_map _ (by omega), Nat.sub_add_cancel h1]
theorem rankL_pok {n : Nat} {C : Nat → Nat → Bool} (ht : Trn n C) (hc : Cot n C) : pok (rankL n C) := by
  refine pok_mk (fun i h1 h2 => ?_) (fun i j h1 h2 h3 => ?_)
  · rw [rankL_len] at *; rw [rankL_gi h1 h2]; exact rank_bd h1 h2
  · rw [rankL_len] at *
    rw [rankL_gi h1 (by omega), rankL_gi (by omega) h3]
    rcases prec_total (C := C) (show i ≠ j by omega) with x | x
    · have := rank_lt ht hc h1 (by omega) (by omega) h3 x; omega
    · have := rank_lt ht hc (by omega) h3 h1 (by omega) x; omega
theorem rankL_cr {n : Nat} {C : Nat → Nat → Bool} (ht : Trn n C) (hc : Cot n C) {a b : Nat} (h1 : 1 ≤ a) (h2 : a < b) (h3 : b ≤ n) : crB (rankL n C) a b = C a b := by
  unfold crB
  rw [rankL_gi h1 (by omega), rankL_gi (by omega) h3, Bool.eq_iff_iff, decide_eq_true_eq, rank_lt_iff ht hc (by omega) h3 h1 (by omega), prec_gt h2]

/-- Sums over a permutation's numbers. -/
theorem sm_reindex {xs : List Int} (h : pok xs) (f : Nat → Int) : sm xs.length f = sm xs.length fun i => f (pv xs i) := by
  have e1 : sm xs.length f = sm xs.length fun u => sm xs.length fun i => if pv xs i = u then f u else 0 := sm_congr fun u u1 u2 => by
    obtain ⟨i, i1, i2, hi⟩ := pok_onto h u1 u2
    rw [sm_pick i1 i2 (f := fun i => if pv xs i = u then f u else 0) fun j j1 j2 hj => if_neg fun e => hj (pok_inj h j1 j2 i1 i2 (by have := pok_bd h j1 j2; unfold pv at e; omega))]
    rw [if_pos (by unfold pv; omega)]
  rw [e1, sm_comm]
  refine sm_congr fun i i1 i2 => ?_
  have hb := pok_bd h i1 i2
  rw [sm_pick (u := pv xs i) (by unfold pv; omega) (by unfold pv; omega) fun j _ _ hj => if_neg fun e => hj e.symm, if_pos rfl]
end Go.Proofs.YtigffblelngpjaaDoor
