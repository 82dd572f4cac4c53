/- Contract of permutations.below. -/
import Derived.Test.YtpcbadagffeehaaPd
import Derived.Laws.EntriesVeiled
namespace Go.Proofs.Ytpcbadagffeehaa
set_option linter.unusedVariables false
set_option linter.unusedSimpArgs false
open Go Go.RowKit Go.Shelf
attribute [local go_sem] Oper.semAt_some

/-- All pairs that cross in xs cross in ys. -/
def belowB (xs ys : List Int) : Bool := (crossers xs).all fun x => crossB ys x.1.1 x.1.2

theorem b2_kept {W W' : World} {b : Nat} {x y : Value} {t : TypeId} {row : Option Nat} (h : B2 W b x y t) (hg : W.grownBy W' row) (hr : ∀ r, row = some r → ∃ o : Obj, W.heap[r]? = some o ∧ o.isCells = false) : B2 W' b x y t :=
  (hg.block b h.lt (fun e => by obtain ⟨o, ho, hc⟩ := hr b e.symm; rw [show W.heap[b]? = _ from h] at ho; cases ho; cases hc)).trans h

/-- crossing$1 at a list that is as long as another. -/
theorem crossing1_as (B : Nat) (v : Value) (c : Nat) (ys : List Int) (n : Nat) (hn : n = ys.length) (x : Pr n) (w : World) (hB : w.cell? ⟨B, 0, none⟩ = some v) (h : IS .u8 w v c ys) (h8 : n ≤ 8) :
    Calls Try.prog 48 #[x.val, .pointer (some ⟨B, 0, none⟩)] w fun e w' => e = .returned (.bool (crossB ys x.1.1 x.1.2)) ∧ Ext w w' := by
  subst hn
  exact crossing1_calls B v c ys x w hB h h8

set_option maxRecDepth 100000 in
set_option maxHeartbeats 4000000 in
theorem below_calls (m : Nat) (hm : 5 ≤ m) (v1 v2 : Value) (c1 c2 : Nat) (xs ys : List Int) (w : World) (h : IS .u8 w v1 c1 xs) (h' : IS .u8 w v2 c2 ys) (h8 : xs.length ≤ 8) (hl : ys.length = xs.length) :
    Calls Try.prog 42 #[v1, v2] w fun e w' => e = .returned (.bool (belowB xs ys)) ∧ Ext w w' := by
  obtain ⟨_, _, ao, rfl, _⟩ := h.open
  obtain ⟨_, _, bo, rfl, _⟩ := h'.open
  have h1m : 1 ≤ m := by omega
  have h1m' : 1 ≤ m - 1 - 1 := by omega
  refine (callsIn_wide (n := m)).1 ?_
  refine callsIn_of_wp_marks Try.func42 rfl trivial ?_ rfl
  simp only [Try.ntmps42, List.size_toArray, List.length_cons, List.length_nil, Nat.reduceAdd, Nat.reduceSub, Array.replicate_succ, Array.replicate_zero, List.push_toArray, List.append_toArray, List.nil_append, List.cons_append]
  have HIS := Lib.hid h
  have HIS' := Lib.hid h'
  have HL := Lib.hid hl
  clear h h' hl
  obtain ⟨L2, hL2⟩ : ∃ L2, L2 = ys.length := ⟨_, rfl⟩
  rw [← hL2] at HIS' HL ⊢
  have HL2 := Lib.hid hL2
  clear hL2
  gi_wp2_with first
    | (refine ⟨trivial, ?_⟩; gi_at_call 36; refine (callsIn_wide.2 (crossing_calls _ _ _ _)).mono ?_; rintro e w2 ⟨rfl, rfl⟩)
    | (refine ⟨trivial, ?_⟩; gi_at_call 35; refine (callsIn_wide.2 (pairs_calls _ _ _ _)).mono ?_; rintro e w3 ⟨rfl, rfl⟩)
  have z0 : w.heap.size = w.heap.size := rfl
  have z1 : (w.alloc (.cells #[.bool false] 4)).heap.size = w.heap.size + 1 := by rw [World.size_alloc, z0]
  have z2 : ((w.alloc (.cells #[.bool false] 4)).alloc (.cells #[.slice bo L2 c2] 22)).heap.size = w.heap.size + 1 + 1 := by rw [World.size_alloc, z1]
  have z3 : (((w.alloc (.cells #[.bool false] 4)).alloc (.cells #[.slice bo L2 c2] 22)).alloc (.cells #[.func (.func 48) #[] #[.pointer (some ⟨w.heap.size + 1, 0, none⟩)]] 59)).heap.size = w.heap.size + 1 + 1 + 1 := by rw [World.size_alloc, z2]
  have z4 : ((((w.alloc (.cells #[.bool false] 4)).alloc (.cells #[.slice bo L2 c2] 22)).alloc (.cells #[.func (.func 48) #[] #[.pointer (some ⟨w.heap.size + 1, 0, none⟩)]] 59)).alloc (.cells #[.slice ao xs.length c1] 22)).heap.size = w.heap.size + 1 + 1 + 1 + 1 := by rw [World.size_alloc, z3]
  have z5 : (((((w.alloc (.cells #[.bool false] 4)).alloc (.cells #[.slice bo L2 c2] 22)).alloc (.cells #[.func (.func 48) #[] #[.pointer (some ⟨w.heap.size + 1, 0, none⟩)]] 59)).alloc (.cells #[.slice ao xs.length c1] 22)).alloc (.cells #[.int .i64 (xs.length : Int)] 3)).heap.size = w.heap.size + 1 + 1 + 1 + 1 + 1 := by rw [World.size_alloc, z4]
  have z6 : ((((((w.alloc (.cells #[.bool false] 4)).alloc (.cells #[.slice bo L2 c2] 22)).alloc (.cells #[.func (.func 48) #[] #[.pointer (some ⟨w.heap.size + 1, 0, none⟩)]] 59)).alloc (.cells #[.slice ao xs.length c1] 22)).alloc (.cells #[.int .i64 (xs.length : Int)] 3)).alloc (.cells #[.func (.func 48) #[] #[.pointer (some ⟨w.heap.size + 1 + 1 + 1, 0, none⟩)]] 59)).heap.size = w.heap.size + 1 + 1 + 1 + 1 + 1 + 1 := by rw [World.size_alloc, z5]
  have f0 : Boxed (w.alloc (.cells #[.bool false] 4)) (w.heap.size) 4 (.bool false) := by have hh := Boxed.new w 4 (.bool false); rw [z0] at hh; exact hh
  replace f0 := f0.alloc (.cells #[.slice bo L2 c2] 22)
  replace f0 := f0.alloc (.cells #[.func (.func 48) #[] #[.pointer (some ⟨w.heap.size + 1, 0, none⟩)]] 59)
  replace f0 := f0.alloc (.cells #[.slice ao xs.length c1] 22)
  replace f0 := f0.alloc (.cells #[.int .i64 (xs.length : Int)] 3)
  replace f0 := f0.alloc (.cells #[.func (.func 48) #[] #[.pointer (some ⟨w.heap.size + 1 + 1 + 1, 0, none⟩)]] 59)
  have f1 : Boxed ((w.alloc (.cells #[.bool false] 4)).alloc (.cells #[.slice bo L2 c2] 22)) (w.heap.size + 1) 22 (.slice bo L2 c2) := by have hh := Boxed.new (w.alloc (.cells #[.bool false] 4)) 22 (.slice bo L2 c2); rw [z1] at hh; exact hh
  replace f1 := f1.alloc (.cells #[.func (.func 48) #[] #[.pointer (some ⟨w.heap.size + 1, 0, none⟩)]] 59)
  replace f1 := f1.alloc (.cells #[.slice ao xs.length c1] 22)
  replace f1 := f1.alloc (.cells #[.int .i64 (xs.length : Int)] 3)
  replace f1 := f1.alloc (.cells #[.func (.func 48) #[] #[.pointer (some ⟨w.heap.size + 1 + 1 + 1, 0, none⟩)]] 59)
  have f2 : Boxed (((w.alloc (.cells #[.bool false] 4)).alloc (.cells #[.slice bo L2 c2] 22)).alloc (.cells #[.func (.func 48) #[] #[.pointer (some ⟨w.heap.size + 1, 0, none⟩)]] 59)) (w.heap.size + 1 + 1) 59 (.func (.func 48) #[] #[.pointer (some ⟨w.heap.size + 1, 0, none⟩)]) := by have hh := Boxed.new ((w.alloc (.cells #[.bool false] 4)).alloc (.cells #[.slice bo L2 c2] 22)) 59 (.func (.func 48) #[] #[.pointer (some ⟨w.heap.size + 1, 0, none⟩)]); rw [z2] at hh; exact hh
  replace f2 := f2.alloc (.cells #[.slice ao xs.length c1] 22)
  replace f2 := f2.alloc (.cells #[.int .i64 (xs.length : Int)] 3)
  replace f2 := f2.alloc (.cells #[.func (.func 48) #[] #[.pointer (some ⟨w.heap.size + 1 + 1 + 1, 0, none⟩)]] 59)
  have f3 : Boxed ((((w.alloc (.cells #[.bool false] 4)).alloc (.cells #[.slice bo L2 c2] 22)).alloc (.cells #[.func (.func 48) #[] #[.pointer (some ⟨w.heap.size + 1, 0, none⟩)]] 59)).alloc (.cells #[.slice ao xs.length c1] 22)) (w.heap.size + 1 + 1 + 1) 22 (.slice ao xs.length c1) := by have hh := Boxed.new (((w.alloc (.cells #[.bool false] 4)).alloc (.cells #[.slice bo L2 c2] 22)).alloc (.cells #[.func (.func 48) #[] #[.pointer (some ⟨w.heap.size + 1, 0, none⟩)]] 59)) 22 (.slice ao xs.length c1); rw [z3] at hh; exact hh
  replace f3 := f3.alloc (.cells #[.int .i64 (xs.length : Int)] 3)
  replace f3 := f3.alloc (.cells #[.func (.func 48) #[] #[.pointer (some ⟨w.heap.size + 1 + 1 + 1, 0, none⟩)]] 59)
  have f4 : Boxed (((((w.alloc (.cells #[.bool false] 4)).alloc (.cells #[.slice bo L2 c2] 22)).alloc (.cells #[.func (.func 48) #[] #[.pointer (some ⟨w.heap.size + 1, 0, none⟩)]] 59)).alloc (.cells #[.slice ao xs.length c1] 22)).alloc (.cells #[.int .i64 (xs.length : Int)] 3)) (w.heap.size + 1 + 1 + 1 + 1) 3 (.int .i64 (xs.length : Int)) := by have hh := Boxed.new ((((w.alloc (.cells #[.bool false] 4)).alloc (.cells #[.slice bo L2 c2] 22)).alloc (.cells #[.func (.func 48) #[] #[.pointer (some ⟨w.heap.size + 1, 0, none⟩)]] 59)).alloc (.cells #[.slice ao xs.length c1] 22)) 3 (.int .i64 (xs.length : Int)); rw [z4] at hh; exact hh
  replace f4 := f4.alloc (.cells #[.func (.func 48) #[] #[.pointer (some ⟨w.heap.size + 1 + 1 + 1, 0, none⟩)]] 59)
  have f5 : Boxed ((((((w.alloc (.cells #[.bool false] 4)).alloc (.cells #[.slice bo L2 c2] 22)).alloc (.cells #[.func (.func 48) #[] #[.pointer (some ⟨w.heap.size + 1, 0, none⟩)]] 59)).alloc (.cells #[.slice ao xs.length c1] 22)).alloc (.cells #[.int .i64 (xs.length : Int)] 3)).alloc (.cells #[.func (.func 48) #[] #[.pointer (some ⟨w.heap.size + 1 + 1 + 1, 0, none⟩)]] 59)) (w.heap.size + 1 + 1 + 1 + 1 + 1) 59 (.func (.func 48) #[] #[.pointer (some ⟨w.heap.size + 1 + 1 + 1, 0, none⟩)]) := by have hh := Boxed.new (((((w.alloc (.cells #[.bool false] 4)).alloc (.cells #[.slice bo L2 c2] 22)).alloc (.cells #[.func (.func 48) #[] #[.pointer (some ⟨w.heap.size + 1, 0, none⟩)]] 59)).alloc (.cells #[.slice ao xs.length c1] 22)).alloc (.cells #[.int .i64 (xs.length : Int)] 3)) 59 (.func (.func 48) #[] #[.pointer (some ⟨w.heap.size + 1 + 1 + 1, 0, none⟩)]); rw [z5] at hh; exact hh
  have hx0 : Ext w ((((((w.alloc (.cells #[.bool false] 4)).alloc (.cells #[.slice bo L2 c2] 22)).alloc (.cells #[.func (.func 48) #[] #[.pointer (some ⟨w.heap.size + 1, 0, none⟩)]] 59)).alloc (.cells #[.slice ao xs.length c1] 22)).alloc (.cells #[.int .i64 (xs.length : Int)] 3)).alloc (.cells #[.func (.func 48) #[] #[.pointer (some ⟨w.heap.size + 1 + 1 + 1, 0, none⟩)]] 59)) := ((((((Ext.refl _).alloc _).alloc _).alloc _).alloc _).alloc _).alloc _
  have hsz : ((((((w.alloc (.cells #[.bool false] 4)).alloc (.cells #[.slice bo L2 c2] 22)).alloc (.cells #[.func (.func 48) #[] #[.pointer (some ⟨w.heap.size + 1, 0, none⟩)]] 59)).alloc (.cells #[.slice ao xs.length c1] 22)).alloc (.cells #[.int .i64 (xs.length : Int)] 3)).alloc (.cells #[.func (.func 48) #[] #[.pointer (some ⟨w.heap.size + 1 + 1 + 1, 0, none⟩)]] 59)).heap.size = w.heap.size + 6 := by rw [z6]
  clear z0 z1 z2 z3 z4 z5 z6
  obtain ⟨W0, hW0⟩ : ∃ W0, ((((((w.alloc (.cells #[.bool false] 4)).alloc (.cells #[.slice bo L2 c2] 22)).alloc (.cells #[.func (.func 48) #[] #[.pointer (some ⟨w.heap.size + 1, 0, none⟩)]] 59)).alloc (.cells #[.slice ao xs.length c1] 22)).alloc (.cells #[.int .i64 (xs.length : Int)] 3)).alloc (.cells #[.func (.func 48) #[] #[.pointer (some ⟨w.heap.size + 1 + 1 + 1, 0, none⟩)]] 59)) = W0 := ⟨_, rfl⟩
  rw [hW0] at f0 f1 f2 f3 f4 f5 hx0 hsz  ⊢
  clear hW0
  have hN72 := prsAll_len h8 (crossB xs)
  refine wpIn_rangeFunc_ownH rfl h1m (gf := 47) (lb := #[.pointer (some ⟨w.heap.size + 1 + 1 + 1 + 1, 0, none⟩), .pointer (some ⟨w.heap.size + 1 + 1 + 1 + 1 + 1, 0, none⟩)]) rfl trivial (enters_of Try.func47 (by kernel_rfl) rfl)
    (pairs_c_stops (m - 1) (by omega) (w.heap.size + 1 + 1 + 1 + 1) (w.heap.size + 1 + 1 + 1 + 1 + 1) (w.heap.size + 1 + 1 + 1) xs.length h8 (crossB xs) (fun b => b < w.heap.size + 6) W0
      (cross_ready h8 HIS.out hx0 (fun b hb => by omega) (by omega) (by omega) (by omega) f3 f4 f5))
    KL.trans (KL.putObj (fun b hb => by omega)) (Below.refl _ _) (fun _ => rfl)
    (fun pre W => ((∀ x ∈ pre, crossB ys x.1.1 x.1.2 = true) ∧ Boxed W w.heap.size 4 (.bool false) ∧ Boxed W (w.heap.size + 1) 22 (.slice bo L2 c2) ∧ Boxed W (w.heap.size + 1 + 1) 59 (.func (.func 48) #[] #[.pointer (some ⟨w.heap.size + 1, 0, none⟩)])) ∧ Below w.heap.size w W)
    (fun c pre W => (c = .ret ∧ (∃ x ∈ pre, crossB ys x.1.1 x.1.2 = false) ∧ Boxed W w.heap.size 4 (.bool false)) ∧ Below w.heap.size w W)
    (OwnFrom.and (OwnFrom.and (ownFrom_pure _ _) (OwnFrom.and (Own.from (boxed_own _ _ _) _) (OwnFrom.and (Own.from (boxed_own _ _ _) _) (Own.from (boxed_own _ _ _) _)))) (ownFrom_below (Nat.le_refl _) (by omega)))
    (fun c => OwnFrom.and (OwnFrom.and (ownFrom_pure _ _) (OwnFrom.and (ownFrom_pure _ _) (Own.from (boxed_own _ _ _) _))) (ownFrom_below (Nat.le_refl _) (by omega)))
    ⟨⟨by simp, f0, f1, f2⟩, hx0⟩
    (fun x a' W => ∃ Bx, B2 W Bx (.int .u8 (x.1.1 : Int)) (.int .u8 (x.1.2 : Int)) 36 ∧ a' = { tmps := #[.slice ao xs.length c1, .slice bo L2 c2, undef, undef, .pointer (some ⟨w.heap.size, 0, none⟩), .pointer (some ⟨w.heap.size + 1 + 1, 0, none⟩), .pointer (some ⟨Bx, 0, none⟩), .slice bo L2 c2, .func (.func 48) #[] #[.pointer (some ⟨w.heap.size + 1, 0, none⟩)], .slice ao xs.length c1, .int .i64 (xs.length : Int), .slice ao xs.length c1, .func (.func 48) #[] #[.pointer (some ⟨w.heap.size + 1 + 1 + 1, 0, none⟩)], .func (.func 47) #[] #[.pointer (some ⟨w.heap.size + 1 + 1 + 1 + 1, 0, none⟩), .pointer (some ⟨w.heap.size + 1 + 1 + 1 + 1 + 1, 0, none⟩)], x.val, undef, undef, undef, undef], defers := [] })
    (fun x a' _ X Y row hs hg hr => by obtain ⟨Bx, h2, h3⟩ := hs; exact ⟨Bx, b2_kept h2 hg (fun r e => (hr r e).2), h3⟩)
    ?assign ?body ?done ?stop
  case assign =>
    rintro l pre x W K ⟨⟨i1, i2, i3, i4⟩, i5⟩ hK
    obtain ⟨⟨a, b⟩, p1, p2, p3⟩ := x
    unfold Pr.val at hK ⊢
    simp only at hK ⊢
    have b2 := B2.new W (.int .u8 (a : Int)) (.int .u8 (b : Int)) 36
    have HB2 := Lib.hid b2
    have HI := Lib.hid (And.intro i1 (And.intro i2 (And.intro i3 i4)))
    have HKK := Lib.hid hK
    have hle := i5.size
    have HB := Lib.hid i5
    clear b2 i1 i2 i3 i4 i5 hK
    gi_wp2
    exact HKK.out _ _ ((KeepsOthers.alloc _ _).from _) ((KL.refl _ _).alloc _) ⟨⟨HI.out.1, HI.out.2.1.alloc _, HI.out.2.2.1.alloc _, HI.out.2.2.2.alloc _⟩, Ext.alloc HB.out _⟩ ⟨W.heap.size, HB2.out, rfl⟩
  case body =>
    rintro l pre x a' W hl ⟨r, hr⟩ ⟨⟨i1, i2, i3, i4⟩, i5⟩ ⟨Bx, bX, rfl⟩ hlt
    have hcall := crossing1_as (w.heap.size + 1) _ c2 ys xs.length (by rw [← HL.out, HL2.out]) x W i3.cell (HIS'.out.ext i5) h8
    obtain ⟨⟨a, b⟩, p1, p2, p3⟩ := x
    unfold Pr.val at hcall ⊢
    simp only at hcall ⊢
    have q0 := i2.cell
    have q0f := i2.frozen
    have q2 := i4.cell
    have r0 : W.cell? ⟨Bx, 0, none⟩ = some (.int .u8 (a : Int)) := bX.c0
    have r1 : W.cell? ⟨Bx, 1, none⟩ = some (.int .u8 (b : Int)) := bX.c1
    have HC := Lib.hid hcall
    have HI := Lib.hid (And.intro i1 (And.intro i2 (And.intro i3 (And.intro i4 i5))))
    clear hcall i1 i2 i3 i4 i5 bX hr
    by_cases hcb : crossB ys a b = true
    · rw [hcb] at HC
      have HCB := Lib.hid hcb; clear hcb
      gi_wp2_with (refine ⟨trivial, ?_⟩; gi_at_call 48; refine (CallsIn.inRound l (callsIn_wide.2 HC.out)).mono ?_; rintro e w' ⟨rfl, hx⟩)
      obtain ⟨i1, i2, i3, i4, i5⟩ := HI.out
      refine ⟨KeepsFrom.of_grownBy hx.toGrown (fun j e => by cases e), KL.of_ext hx, ⟨?_, boxed_ext i2 hx, boxed_ext i3 hx, boxed_ext i4 hx⟩, Ext.trans (a := w) i5 hx⟩
      intro y hy
      rcases List.mem_append.1 hy with hy | hy
      · exact i1 y hy
      · simp only [List.mem_cons, List.not_mem_nil, or_false] at hy; subst hy; exact HCB.out
    · rw [Bool.not_eq_true] at hcb
      rw [hcb] at HC
      have HCB := Lib.hid hcb; clear hcb
      gi_wp2_with (refine ⟨trivial, ?_⟩; gi_at_call 48; refine (CallsIn.inRound l (callsIn_wide.2 HC.out)).mono ?_; rintro e w' ⟨rfl, hx⟩; have q0 := hx.cell q0; have q0f : w'.frozen? ⟨w.heap.size, 0, none⟩ = false := (boxed_ext HI.out.2.1 hx).frozen)
      obtain ⟨i1, i2, i3, i4, i5⟩ := HI.out
      refine ⟨(KeepsFrom.of_grownBy hx.toGrown (fun j e => by cases e)).trans ((KeepsOthers.setCell _ _ _).from _), ⟨rfl, ⟨_, List.mem_append.2 (.inr (List.mem_singleton.2 rfl)), HCB.out⟩, (boxed_ext i2 hx).set _⟩, Below.setCell (p := ⟨w.heap.size, 0, none⟩) (Ext.trans (a := w) i5 hx) (Nat.le_refl _) _⟩
  case done =>
    rintro D zs W hD rfl ⟨⟨i1, i2, i3, i4⟩, i5⟩ hK
    have q0 := i2.cell
    have q0f := i2.frozen
    have HA := Lib.hid i1; have H2 := Lib.hid i2; have H5 := Lib.hid i5
    clear i1 i2 i3 i4 i5
    gi_wp2
    have hK' := (KeepsOthers.setCell W ⟨w.heap.size, 0, none⟩ (.bool true)).same D _ hK rfl
    refine ⟨by simp, .inl ⟨_, _, rfl, run_takeDeferred hK', ?_⟩⟩
    have hc5 := cell_kept (H2.out.set (.bool true)).cell (grownBy_putObj' _ D (.deferred none)) (fun r e => by cases e; exact ⟨_, hK', rfl⟩)
    refine ⟨.bool true, ?_, ?_, Below.trans (H5.out.setCell (p := ⟨w.heap.size, 0, none⟩) (Nat.le_refl _) _) (belowK_b (w := w) (Nat.le_refl _) _ D _ _ (by omega) hK' rfl rfl)⟩
    · simp [results, Try.f42, go_sem, hc5]
    · have : belowB xs ys = true := List.all_eq_true.2 HA.out
      rw [this]
  case stop =>
    rintro D c pre W hD hpre ⟨⟨rfl, ⟨x, hx1, hx2⟩, i2⟩, i5⟩ hK
    have HX := Lib.hid hx2; have H2 := Lib.hid i2; have H5 := Lib.hid i5
    clear hx2 i5
    gi_wp2
    refine ⟨by simp, .inl ⟨_, _, rfl, run_takeDeferred hK, ?_⟩⟩
    have hc5 := cell_kept H2.out.cell (grownBy_putObj' _ D (.deferred none)) (fun r e => by cases e; exact ⟨_, hK, rfl⟩)
    refine ⟨.bool false, ?_, ?_, Below.trans H5.out (belowK_b (w := w) (Nat.le_refl _) _ D _ _ (by omega) hK rfl rfl)⟩
    · simp [results, Try.f42, go_sem, hc5]
    · have : belowB xs ys = false := by
        unfold belowB
        rw [List.all_eq_false]
        exact ⟨x, hpre.subset hx1, by rw [HX.out]; simp⟩
      rw [this]
end Go.Proofs.Ytpcbadagffeehaa
