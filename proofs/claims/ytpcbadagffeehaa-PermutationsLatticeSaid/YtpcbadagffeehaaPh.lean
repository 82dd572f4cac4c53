/- Contract of permutations.join. -/
import Derived.Test.YtpcbadagffeehaaPg
import Derived.Test.YtpcbadagffeehaaQc
import Derived.Outline
namespace Go.Proofs.Ytpcbadagffeehaa
set_option linter.unusedVariables false
set_option linter.unusedSimpArgs false
open Go Go.RowKit Go.Shelf
attribute [local go_sem] Oper.semAt_some

theorem zero76 (w : World) : (zeroValue 76).run Try.prog w = .ok (.agg (Array.replicate 81 (.bool false))) w := by kernel_rfl
theorem CR.start (w : World) : CR (w.alloc (.cells (Array.replicate 81 (.bool false)) 76)) w.heap.size (fun _ _ => false) := by
  refine ⟨fun _ => .bool false, ⟨_, Deep.blk_alloc_new _ _, by simp, fun i hi => ?_⟩, fun _ _ _ _ => rfl⟩
  rw [Array.getElem?_replicate, if_pos hi]
theorem CR.kept {W W' : World} {B : Nat} {C : Nat → Nat → Bool} {row : Option Nat} (h : CR W B C) (hg : W.grownBy W' row) (hr : ∀ r, row = some r → ∃ o : Obj, W.heap[r]? = some o ∧ o.isCells = false) : CR W' B C := by
  obtain ⟨f, ⟨c, h1, h2, h3⟩, hf⟩ := h
  refine ⟨f, ⟨c, ?_, h2, h3⟩, hf⟩
  rw [hg.block B (lt_of_block h1) (fun e => by obtain ⟨o, ho, hc⟩ := hr B e.symm; rw [h1] at ho; cases ho; cases hc)]
  exact h1
theorem CR.congr {W : World} {B : Nat} {C C' : Nat → Nat → Bool} (h : CR W B C) (he : ∀ i j, C i j = C' i j) : CR W B C' := by
  obtain ⟨f, h1, hf⟩ := h
  exact ⟨f, h1, fun i j hi hj => by rw [hf i j hi hj, he]⟩
theorem CR.frozen {W : World} {B : Nat} {C : Nat → Nat → Bool} (h : CR W B C) (i : Nat) : W.frozen? ⟨B, i, none⟩ = false := by
  obtain ⟨f, h1, hf⟩ := h
  exact h1.frozen i

/-- The pairs of a list, as a relation. -/
def cfold {n : Nat} (l : List (Pr n)) : Nat → Nat → Bool := fun i j => l.any fun x => decide (x.1.1 = i ∧ x.1.2 = j)
theorem cfold_snoc {n : Nat} (l : List (Pr n)) (x : Pr n) (i j : Nat) : cset (cfold l) x.1.1 x.1.2 i j = cfold (l ++ [x]) i j := by
  unfold cset cfold
  rw [List.any_append, Bool.or_comm]
  congr 1
  simp [eq_comm]

theorem mem_pick {n : Nat} {want : Nat → Nat → Bool} {a b : Nat} {x : Pr n} : pick n want a b = some x ↔ x.1 = (a, b) ∧ want a b = true := by
  unfold pick
  by_cases h : 1 ≤ a ∧ a < b ∧ b ≤ n
  · rw [dif_pos h]
    cases e : want a b with
    | true =>
      obtain ⟨y, hy⟩ := x
      simp only [if_true, Option.some.injEq, Subtype.mk.injEq, and_true]
      exact eq_comm
    | false => simp
  · rw [dif_neg h]
    constructor
    · intro e; cases e
    · rintro ⟨e, _⟩; have := x.2; rw [e] at this; exact absurd this h
theorem mem_prsAll (n : Nat) (want : Nat → Nat → Bool) (x : Pr n) : x ∈ prsAll n want ↔ want x.1.1 x.1.2 = true := by
  unfold prsAll
  rw [← prows_end n want (n + 1) (by omega)]
  unfold prows prow
  simp only [List.mem_flatMap, List.mem_filterMap, List.mem_range]
  constructor
  · rintro ⟨a, ha, b, hb, hp⟩
    obtain ⟨e, hw⟩ := mem_pick.1 hp
    rw [e]; exact hw
  · intro hw
    exact ⟨x.1.1, by have := x.2; omega, x.1.2, by have := x.2; omega, mem_pick.2 ⟨rfl, hw⟩⟩
theorem cfold_jE (xs ys : List Int) {n : Nat} (hn : n = xs.length) (i j : Nat) : cfold (prsAll n fun a b => crossB xs a b || crossB ys a b) i j = jE n xs ys i j := by
  rw [Bool.eq_iff_iff]
  unfold cfold jE
  simp only [List.any_eq_true, decide_eq_true_eq, Bool.and_eq_true]
  constructor
  · rintro ⟨⟨⟨a, b⟩, h1, h2, h3⟩, hm, e1, e2⟩
    simp only at e1 e2
    subst e1; subst e2
    have := (mem_prsAll _ _ _).1 hm
    exact ⟨⟨h1, h2, h3⟩, this⟩
  · rintro ⟨⟨h1, h2, h3⟩, h4⟩
    exact ⟨⟨(i, j), h1, h2, h3⟩, (mem_prsAll _ _ _).2 h4, rfl, rfl⟩
theorem wsh_two {n : Nat} {E : Nat → Nat → Bool} (h : Sup n E) (i j : Nat) : E i j = wsh E 2 i j := by
  have e : ∀ C : Nat → Nat → Bool, Sup n C → ∀ m, m < 2 → wround C m = C := fun C hC m hm => by
    funext a c
    unfold wround
    cases e : C a m with
    | false => simp
    | true => have := hC _ _ e; rw [decide_eq_false (show ¬ a < m by omega)]; simp
  show E i j = wround (wround E 0) 1 i j
  rw [e E h 0 (by omega), e E h 1 (by omega)]
/-- Block B alone, of what lay there, has turned. -/
def OnlyB (B : Nat) (w w' : World) : Prop := w.grownBy w' (some B)
theorem OnlyB.refl (B : Nat) (w : World) : OnlyB B w w := ⟨rfl, rfl, rfl, Nat.le_refl _, fun _ _ _ => rfl⟩
theorem OnlyB.set {B : Nat} {w w' : World} (h : OnlyB B w w') (i : Nat) (v : Value) : OnlyB B w (w'.setCell ⟨B, i, none⟩ v) :=
  ⟨h.os, h.tape, h.output, by simpa [World.setCell] using h.size, fun k hk hne => (Below.heap_setCell _ _ _ k (fun e => hne (by rw [e]))).trans (h.block k hk hne)⟩

theorem URow.alloc {w wr : World} {N : Nat} {pos : Nat → Nat} {new : Nat → Int} {k : Nat} (h : URow w wr N pos new k) (o : Obj) : URow w (wr.alloc o) N pos new k := by
  obtain ⟨hx, f, hr, hf⟩ := h
  exact ⟨hx.alloc o, f, ((Ext.refl wr).alloc o).row hr, hf⟩
theorem boxed_setOther {w : World} {B : Nat} {t : TypeId} {v : Value} (h : Boxed w B t v) {a : Addr} (hn : B ≠ a.block) (u : Value) : Boxed (w.setCell a u) B t v := (Below.heap_setCell _ _ _ _ hn).trans h
theorem CR.kl {Y : Nat → Prop} {w w' : World} {B : Nat} {C : Nat → Nat → Bool} (h : CR w B C) (k : KL Y w w') (hY : Y B) : CR w' B C := by
  obtain ⟨f, ⟨c, h1, h2, h3⟩, hf⟩ := h
  exact ⟨f, ⟨c, k.block _ _ hY h1, h2, h3⟩, hf⟩
theorem row_kept {W W' : World} {b : Nat} {t : TypeId} {n : Nat} {f : Nat → Value} {row : Option Nat} (h : W.rowIs b t n f) (hg : W.grownBy W' row) (hr : ∀ r, row = some r → ∃ o : Obj, W.heap[r]? = some o ∧ o.isCells = false) : W'.rowIs b t n f := by
  obtain ⟨c, h1, h2, h3⟩ := h
  exact ⟨c, (hg.block b (lt_of_block h1) (fun e => by obtain ⟨o, ho, hc⟩ := hr b e.symm; rw [h1] at ho; cases ho; cases hc)).trans h1, h2, h3⟩

set_option maxRecDepth 100000 in
set_option maxHeartbeats 4000000 in
theorem join_calls (m : Nat) (hm : 5 ≤ m) (v1 v2 : Value) (c1 c2 : Nat) (xs ys : List Int) (w : World) (h : IS .u8 w v1 c1 xs) (h' : IS .u8 w v2 c2 ys) (h8 : xs.length ≤ 8) (hl : ys.length = xs.length) :
    Calls Try.prog 41 #[v1, v2] w (RetI .u8 w xs.length (joinL xs ys)) := by
  obtain ⟨_, _, ao, rfl, _⟩ := h.open
  obtain ⟨_, _, bo, rfl, _⟩ := h'.open
  have h1m : 1 ≤ m := by omega
  have h1m' : 1 ≤ m - 1 - 1 := by omega
  refine (callsIn_wide (n := m)).1 ?_
  refine callsIn_of_wp_marks Try.func41 rfl trivial ?_ rfl
  simp only [Try.ntmps41, List.size_toArray, List.length_cons, List.length_nil, Nat.reduceAdd, Nat.reduceSub, Array.replicate_succ, Array.replicate_zero, List.push_toArray, List.append_toArray, List.nil_append, List.cons_append]
  have HIS := Lib.hid h
  have HIS' := Lib.hid h'
  have HL := Lib.hid hl
  clear h h' hl
  obtain ⟨L2, hL2⟩ : ∃ L2, L2 = ys.length := ⟨_, rfl⟩
  rw [← hL2] at HIS' HL ⊢
  have HL2 := Lib.hid hL2
  clear hL2
  have hz76 : ∀ w, (zeroValue 76).run Try.prog w = .ok (.agg (Array.replicate 81 (.bool false))) w := zero76
  have hcr := CR.start w
  obtain ⟨Z, hZ⟩ : ∃ Z, Z = Array.replicate 81 (Value.bool false) := ⟨_, rfl⟩
  rw [← hZ] at hcr
  simp only [← hZ] at hz76
  have HCR := Lib.hid hcr
  clear hZ hcr
  gi_wp2_with first
    | (refine ⟨trivial, ?_⟩; gi_at_call 36; refine (callsIn_wide.2 (crossing_calls _ _ _ _)).mono ?_; rintro e w2 ⟨rfl, rfl⟩)
    | (refine ⟨trivial, ?_⟩; gi_at_call 35; refine (callsIn_wide.2 (pairs_calls _ _ _ _)).mono ?_; rintro e w3 ⟨rfl, rfl⟩)
  have hcr := HCR.out
  have z0 : w.heap.size = w.heap.size := rfl
  have z1 : (w.alloc (.cells Z 76)).heap.size = w.heap.size + 1 := by rw [World.size_alloc, z0]
  have z2 : ((w.alloc (.cells Z 76)).alloc (.cells #[.slice ao xs.length c1] 22)).heap.size = w.heap.size + 1 + 1 := by rw [World.size_alloc, z1]
  have z3 : (((w.alloc (.cells Z 76)).alloc (.cells #[.slice ao xs.length c1] 22)).alloc (.cells #[.slice bo L2 c2] 22)).heap.size = w.heap.size + 1 + 1 + 1 := by rw [World.size_alloc, z2]
  have z4 : ((((w.alloc (.cells Z 76)).alloc (.cells #[.slice ao xs.length c1] 22)).alloc (.cells #[.slice bo L2 c2] 22)).alloc (.cells #[.func (.func 48) #[] #[.pointer (some ⟨w.heap.size + 1, 0, none⟩)]] 59)).heap.size = w.heap.size + 1 + 1 + 1 + 1 := by rw [World.size_alloc, z3]
  have z5 : (((((w.alloc (.cells Z 76)).alloc (.cells #[.slice ao xs.length c1] 22)).alloc (.cells #[.slice bo L2 c2] 22)).alloc (.cells #[.func (.func 48) #[] #[.pointer (some ⟨w.heap.size + 1, 0, none⟩)]] 59)).alloc (.cells #[.func (.func 48) #[] #[.pointer (some ⟨w.heap.size + 1 + 1, 0, none⟩)]] 59)).heap.size = w.heap.size + 1 + 1 + 1 + 1 + 1 := by rw [World.size_alloc, z4]
  have z6 : ((((((w.alloc (.cells Z 76)).alloc (.cells #[.slice ao xs.length c1] 22)).alloc (.cells #[.slice bo L2 c2] 22)).alloc (.cells #[.func (.func 48) #[] #[.pointer (some ⟨w.heap.size + 1, 0, none⟩)]] 59)).alloc (.cells #[.func (.func 48) #[] #[.pointer (some ⟨w.heap.size + 1 + 1, 0, none⟩)]] 59)).alloc (.cells #[.int .i64 (xs.length : Int)] 3)).heap.size = w.heap.size + 1 + 1 + 1 + 1 + 1 + 1 := by rw [World.size_alloc, z5]
  have z7 : (((((((w.alloc (.cells Z 76)).alloc (.cells #[.slice ao xs.length c1] 22)).alloc (.cells #[.slice bo L2 c2] 22)).alloc (.cells #[.func (.func 48) #[] #[.pointer (some ⟨w.heap.size + 1, 0, none⟩)]] 59)).alloc (.cells #[.func (.func 48) #[] #[.pointer (some ⟨w.heap.size + 1 + 1, 0, none⟩)]] 59)).alloc (.cells #[.int .i64 (xs.length : Int)] 3)).alloc (.cells #[.func (.func 50) #[] #[.pointer (some ⟨w.heap.size + 1 + 1 + 1, 0, none⟩), .pointer (some ⟨w.heap.size + 1 + 1 + 1 + 1, 0, none⟩)]] 59)).heap.size = w.heap.size + 1 + 1 + 1 + 1 + 1 + 1 + 1 := by rw [World.size_alloc, z6]
  have f1 : Boxed ((w.alloc (.cells Z 76)).alloc (.cells #[.slice ao xs.length c1] 22)) (w.heap.size + 1) 22 (.slice ao xs.length c1) := by have hh := Boxed.new (w.alloc (.cells Z 76)) 22 (.slice ao xs.length c1); rw [z1] at hh; exact hh
  replace f1 := f1.alloc (.cells #[.slice bo L2 c2] 22)
  replace f1 := f1.alloc (.cells #[.func (.func 48) #[] #[.pointer (some ⟨w.heap.size + 1, 0, none⟩)]] 59)
  replace f1 := f1.alloc (.cells #[.func (.func 48) #[] #[.pointer (some ⟨w.heap.size + 1 + 1, 0, none⟩)]] 59)
  replace f1 := f1.alloc (.cells #[.int .i64 (xs.length : Int)] 3)
  replace f1 := f1.alloc (.cells #[.func (.func 50) #[] #[.pointer (some ⟨w.heap.size + 1 + 1 + 1, 0, none⟩), .pointer (some ⟨w.heap.size + 1 + 1 + 1 + 1, 0, none⟩)]] 59)
  have f2 : Boxed (((w.alloc (.cells Z 76)).alloc (.cells #[.slice ao xs.length c1] 22)).alloc (.cells #[.slice bo L2 c2] 22)) (w.heap.size + 1 + 1) 22 (.slice bo L2 c2) := by have hh := Boxed.new ((w.alloc (.cells Z 76)).alloc (.cells #[.slice ao xs.length c1] 22)) 22 (.slice bo L2 c2); rw [z2] at hh; exact hh
  replace f2 := f2.alloc (.cells #[.func (.func 48) #[] #[.pointer (some ⟨w.heap.size + 1, 0, none⟩)]] 59)
  replace f2 := f2.alloc (.cells #[.func (.func 48) #[] #[.pointer (some ⟨w.heap.size + 1 + 1, 0, none⟩)]] 59)
  replace f2 := f2.alloc (.cells #[.int .i64 (xs.length : Int)] 3)
  replace f2 := f2.alloc (.cells #[.func (.func 50) #[] #[.pointer (some ⟨w.heap.size + 1 + 1 + 1, 0, none⟩), .pointer (some ⟨w.heap.size + 1 + 1 + 1 + 1, 0, none⟩)]] 59)
  have f3 : Boxed ((((w.alloc (.cells Z 76)).alloc (.cells #[.slice ao xs.length c1] 22)).alloc (.cells #[.slice bo L2 c2] 22)).alloc (.cells #[.func (.func 48) #[] #[.pointer (some ⟨w.heap.size + 1, 0, none⟩)]] 59)) (w.heap.size + 1 + 1 + 1) 59 (.func (.func 48) #[] #[.pointer (some ⟨w.heap.size + 1, 0, none⟩)]) := by have hh := Boxed.new (((w.alloc (.cells Z 76)).alloc (.cells #[.slice ao xs.length c1] 22)).alloc (.cells #[.slice bo L2 c2] 22)) 59 (.func (.func 48) #[] #[.pointer (some ⟨w.heap.size + 1, 0, none⟩)]); rw [z3] at hh; exact hh
  replace f3 := f3.alloc (.cells #[.func (.func 48) #[] #[.pointer (some ⟨w.heap.size + 1 + 1, 0, none⟩)]] 59)
  replace f3 := f3.alloc (.cells #[.int .i64 (xs.length : Int)] 3)
  replace f3 := f3.alloc (.cells #[.func (.func 50) #[] #[.pointer (some ⟨w.heap.size + 1 + 1 + 1, 0, none⟩), .pointer (some ⟨w.heap.size + 1 + 1 + 1 + 1, 0, none⟩)]] 59)
  have f4 : Boxed (((((w.alloc (.cells Z 76)).alloc (.cells #[.slice ao xs.length c1] 22)).alloc (.cells #[.slice bo L2 c2] 22)).alloc (.cells #[.func (.func 48) #[] #[.pointer (some ⟨w.heap.size + 1, 0, none⟩)]] 59)).alloc (.cells #[.func (.func 48) #[] #[.pointer (some ⟨w.heap.size + 1 + 1, 0, none⟩)]] 59)) (w.heap.size + 1 + 1 + 1 + 1) 59 (.func (.func 48) #[] #[.pointer (some ⟨w.heap.size + 1 + 1, 0, none⟩)]) := by have hh := Boxed.new ((((w.alloc (.cells Z 76)).alloc (.cells #[.slice ao xs.length c1] 22)).alloc (.cells #[.slice bo L2 c2] 22)).alloc (.cells #[.func (.func 48) #[] #[.pointer (some ⟨w.heap.size + 1, 0, none⟩)]] 59)) 59 (.func (.func 48) #[] #[.pointer (some ⟨w.heap.size + 1 + 1, 0, none⟩)]); rw [z4] at hh; exact hh
  replace f4 := f4.alloc (.cells #[.int .i64 (xs.length : Int)] 3)
  replace f4 := f4.alloc (.cells #[.func (.func 50) #[] #[.pointer (some ⟨w.heap.size + 1 + 1 + 1, 0, none⟩), .pointer (some ⟨w.heap.size + 1 + 1 + 1 + 1, 0, none⟩)]] 59)
  have f5 : Boxed ((((((w.alloc (.cells Z 76)).alloc (.cells #[.slice ao xs.length c1] 22)).alloc (.cells #[.slice bo L2 c2] 22)).alloc (.cells #[.func (.func 48) #[] #[.pointer (some ⟨w.heap.size + 1, 0, none⟩)]] 59)).alloc (.cells #[.func (.func 48) #[] #[.pointer (some ⟨w.heap.size + 1 + 1, 0, none⟩)]] 59)).alloc (.cells #[.int .i64 (xs.length : Int)] 3)) (w.heap.size + 1 + 1 + 1 + 1 + 1) 3 (.int .i64 (xs.length : Int)) := by have hh := Boxed.new (((((w.alloc (.cells Z 76)).alloc (.cells #[.slice ao xs.length c1] 22)).alloc (.cells #[.slice bo L2 c2] 22)).alloc (.cells #[.func (.func 48) #[] #[.pointer (some ⟨w.heap.size + 1, 0, none⟩)]] 59)).alloc (.cells #[.func (.func 48) #[] #[.pointer (some ⟨w.heap.size + 1 + 1, 0, none⟩)]] 59)) 3 (.int .i64 (xs.length : Int)); rw [z5] at hh; exact hh
  replace f5 := f5.alloc (.cells #[.func (.func 50) #[] #[.pointer (some ⟨w.heap.size + 1 + 1 + 1, 0, none⟩), .pointer (some ⟨w.heap.size + 1 + 1 + 1 + 1, 0, none⟩)]] 59)
  have f6 : Boxed (((((((w.alloc (.cells Z 76)).alloc (.cells #[.slice ao xs.length c1] 22)).alloc (.cells #[.slice bo L2 c2] 22)).alloc (.cells #[.func (.func 48) #[] #[.pointer (some ⟨w.heap.size + 1, 0, none⟩)]] 59)).alloc (.cells #[.func (.func 48) #[] #[.pointer (some ⟨w.heap.size + 1 + 1, 0, none⟩)]] 59)).alloc (.cells #[.int .i64 (xs.length : Int)] 3)).alloc (.cells #[.func (.func 50) #[] #[.pointer (some ⟨w.heap.size + 1 + 1 + 1, 0, none⟩), .pointer (some ⟨w.heap.size + 1 + 1 + 1 + 1, 0, none⟩)]] 59)) (w.heap.size + 1 + 1 + 1 + 1 + 1 + 1) 59 (.func (.func 50) #[] #[.pointer (some ⟨w.heap.size + 1 + 1 + 1, 0, none⟩), .pointer (some ⟨w.heap.size + 1 + 1 + 1 + 1, 0, none⟩)]) := by have hh := Boxed.new ((((((w.alloc (.cells Z 76)).alloc (.cells #[.slice ao xs.length c1] 22)).alloc (.cells #[.slice bo L2 c2] 22)).alloc (.cells #[.func (.func 48) #[] #[.pointer (some ⟨w.heap.size + 1, 0, none⟩)]] 59)).alloc (.cells #[.func (.func 48) #[] #[.pointer (some ⟨w.heap.size + 1 + 1, 0, none⟩)]] 59)).alloc (.cells #[.int .i64 (xs.length : Int)] 3)) 59 (.func (.func 50) #[] #[.pointer (some ⟨w.heap.size + 1 + 1 + 1, 0, none⟩), .pointer (some ⟨w.heap.size + 1 + 1 + 1 + 1, 0, none⟩)]); rw [z6] at hh; exact hh
  have hx0 : Ext w (((((((w.alloc (.cells Z 76)).alloc (.cells #[.slice ao xs.length c1] 22)).alloc (.cells #[.slice bo L2 c2] 22)).alloc (.cells #[.func (.func 48) #[] #[.pointer (some ⟨w.heap.size + 1, 0, none⟩)]] 59)).alloc (.cells #[.func (.func 48) #[] #[.pointer (some ⟨w.heap.size + 1 + 1, 0, none⟩)]] 59)).alloc (.cells #[.int .i64 (xs.length : Int)] 3)).alloc (.cells #[.func (.func 50) #[] #[.pointer (some ⟨w.heap.size + 1 + 1 + 1, 0, none⟩), .pointer (some ⟨w.heap.size + 1 + 1 + 1 + 1, 0, none⟩)]] 59)) := (((((((Ext.refl _).alloc _).alloc _).alloc _).alloc _).alloc _).alloc _).alloc _
  have hx1 : Ext (w.alloc (.cells Z 76)) (((((((w.alloc (.cells Z 76)).alloc (.cells #[.slice ao xs.length c1] 22)).alloc (.cells #[.slice bo L2 c2] 22)).alloc (.cells #[.func (.func 48) #[] #[.pointer (some ⟨w.heap.size + 1, 0, none⟩)]] 59)).alloc (.cells #[.func (.func 48) #[] #[.pointer (some ⟨w.heap.size + 1 + 1, 0, none⟩)]] 59)).alloc (.cells #[.int .i64 (xs.length : Int)] 3)).alloc (.cells #[.func (.func 50) #[] #[.pointer (some ⟨w.heap.size + 1 + 1 + 1, 0, none⟩), .pointer (some ⟨w.heap.size + 1 + 1 + 1 + 1, 0, none⟩)]] 59)) := ((((((Ext.refl _).alloc _).alloc _).alloc _).alloc _).alloc _).alloc _
  replace hcr := hcr.ext hx1
  clear hx1
  have hsz : (((((((w.alloc (.cells Z 76)).alloc (.cells #[.slice ao xs.length c1] 22)).alloc (.cells #[.slice bo L2 c2] 22)).alloc (.cells #[.func (.func 48) #[] #[.pointer (some ⟨w.heap.size + 1, 0, none⟩)]] 59)).alloc (.cells #[.func (.func 48) #[] #[.pointer (some ⟨w.heap.size + 1 + 1, 0, none⟩)]] 59)).alloc (.cells #[.int .i64 (xs.length : Int)] 3)).alloc (.cells #[.func (.func 50) #[] #[.pointer (some ⟨w.heap.size + 1 + 1 + 1, 0, none⟩), .pointer (some ⟨w.heap.size + 1 + 1 + 1 + 1, 0, none⟩)]] 59)).heap.size = w.heap.size + 7 := by rw [z7]
  clear z0 z1 z2 z3 z4 z5 z6 z7
  obtain ⟨W0, hW0⟩ : ∃ W0, (((((((w.alloc (.cells Z 76)).alloc (.cells #[.slice ao xs.length c1] 22)).alloc (.cells #[.slice bo L2 c2] 22)).alloc (.cells #[.func (.func 48) #[] #[.pointer (some ⟨w.heap.size + 1, 0, none⟩)]] 59)).alloc (.cells #[.func (.func 48) #[] #[.pointer (some ⟨w.heap.size + 1 + 1, 0, none⟩)]] 59)).alloc (.cells #[.int .i64 (xs.length : Int)] 3)).alloc (.cells #[.func (.func 50) #[] #[.pointer (some ⟨w.heap.size + 1 + 1 + 1, 0, none⟩), .pointer (some ⟨w.heap.size + 1 + 1 + 1 + 1, 0, none⟩)]] 59)) = W0 := ⟨_, rfl⟩
  rw [hW0] at f1 f2 f3 f4 f5 f6 hx0 hsz hcr ⊢
  clear hW0
  have hsz9 : ∀ w, (sizeOf 65).run Try.prog w = .ok 9 w := fun w => by kernel_rfl
  have hmx : Try.prog.follows .mixedOrders = true := by kernel_rfl
  refine wpIn_rangeFunc_ownH rfl h1m (gf := 47) (lb := #[.pointer (some ⟨w.heap.size + 1 + 1 + 1 + 1 + 1, 0, none⟩), .pointer (some ⟨w.heap.size + 1 + 1 + 1 + 1 + 1 + 1, 0, none⟩)]) rfl trivial (enters_of Try.func47 (by kernel_rfl) rfl)
    (pairs_j1_stops (m - 1) (by omega) (w.heap.size + 1 + 1 + 1 + 1 + 1) (w.heap.size + 1 + 1 + 1 + 1 + 1 + 1) (w.heap.size + 1 + 1 + 1) (w.heap.size + 1 + 1 + 1 + 1) xs.length h8 (fun a b => crossB xs a b || crossB ys a b) (fun b => b < w.heap.size ∨ w.heap.size + 1 ≤ b ∧ b < w.heap.size + 7) W0
      (fun W' hk => ⟨hk.cell (a := ⟨w.heap.size + 1 + 1 + 1 + 1 + 1, 0, none⟩) (by simp only; omega) f5.cell, hk.cell (a := ⟨w.heap.size + 1 + 1 + 1 + 1 + 1 + 1, 0, none⟩) (by simp only; omega) f6.cell, fun x => join1_calls (w.heap.size + 1) (w.heap.size + 1 + 1) (w.heap.size + 1 + 1 + 1) (w.heap.size + 1 + 1 + 1 + 1) xs.length _ _ c1 c2 xs ys rfl (by rw [← HL.out, HL2.out]) h8 x W'
        (hk.cell (a := ⟨w.heap.size + 1 + 1 + 1, 0, none⟩) (by simp only; omega) f3.cell) (hk.cell (a := ⟨w.heap.size + 1 + 1 + 1 + 1, 0, none⟩) (by simp only; omega) f4.cell) (hk.cell (a := ⟨w.heap.size + 1, 0, none⟩) (by simp only; omega) f1.cell) (hk.cell (a := ⟨w.heap.size + 1 + 1, 0, none⟩) (by simp only; omega) f2.cell)
        (HIS.out.ext (KL.toExt hx0 hk (fun b hb => .inl hb))) (HIS'.out.ext (KL.toExt hx0 hk (fun b hb => .inl hb)))⟩))
    KL.trans (KL.putObj (fun b hb => by omega)) (Below.refl _ _) (fun _ => rfl)
    (fun pre W => CR W w.heap.size (cfold pre) ∧ Below w.heap.size w W)
    (fun c pre W => False)
    (OwnFrom.and (fun pre X Y row hs hg hr => CR.kept hs hg (fun r e => (hr r e).2)) (ownFrom_below (Nat.le_refl _) (by omega)))
    (fun _ _ _ _ _ hs _ _ => hs)
    ⟨hcr.congr (fun _ _ => rfl), hx0⟩
    (fun x a' W => ∃ Bx, w.heap.size < Bx ∧ B2 W Bx (.int .u8 (x.1.1 : Int)) (.int .u8 (x.1.2 : Int)) 36 ∧ a' = { tmps := #[.slice ao xs.length c1, .slice bo L2 c2, undef, undef, .slice none 0 0, .int .i64 (xs.length : Int), .pointer (some ⟨w.heap.size, 0, none⟩), .pointer (some ⟨w.heap.size + 1 + 1 + 1, 0, none⟩), .pointer (some ⟨w.heap.size + 1 + 1 + 1 + 1, 0, none⟩), .pointer (some ⟨Bx, 0, none⟩), undef, undef, undef, undef, undef, undef, .slice ao xs.length c1, .int .i64 (xs.length : Int), .slice ao xs.length c1, .func (.func 48) #[] #[.pointer (some ⟨w.heap.size + 1, 0, none⟩)], .slice bo L2 c2, .func (.func 48) #[] #[.pointer (some ⟨w.heap.size + 1 + 1, 0, none⟩)], .int .i64 (xs.length : Int), .func (.func 50) #[] #[.pointer (some ⟨w.heap.size + 1 + 1 + 1, 0, none⟩), .pointer (some ⟨w.heap.size + 1 + 1 + 1 + 1, 0, none⟩)], .func (.func 47) #[] #[.pointer (some ⟨w.heap.size + 1 + 1 + 1 + 1 + 1, 0, none⟩), .pointer (some ⟨w.heap.size + 1 + 1 + 1 + 1 + 1 + 1, 0, none⟩)], x.val, undef, undef, undef, undef, undef, undef, undef, undef, undef, undef, undef, undef, undef, undef, undef, undef, undef, undef, undef, undef, undef, undef, undef, undef, undef, undef, undef, undef, undef, undef, undef, undef, undef, undef, undef, undef, undef, undef, undef, undef, undef, undef, undef, undef, undef, undef, undef, undef, undef, undef, undef, undef, undef, undef, undef, undef, undef, undef, undef, undef, undef, undef, undef, undef, undef, undef, undef, undef, undef, undef, undef, undef, undef, undef], defers := [] })
    (fun x a' _ X Y row hs hg hr => by obtain ⟨Bx, h1, h2, h3⟩ := hs; exact ⟨Bx, h1, b2_kept h2 hg (fun r e => (hr r e).2), h3⟩)
    ?assign ?body ?done ?stop
  case assign =>
    rintro l pre x W K ⟨i1, i5⟩ hK
    obtain ⟨⟨a, b⟩, p1, p2, p3⟩ := x
    unfold Pr.val at hK ⊢
    simp only at hK ⊢
    have b2 := B2.new W (.int .u8 (a : Int)) (.int .u8 (b : Int)) 36
    have HB2 := Lib.hid b2
    have HI := Lib.hid i1
    have HKK := Lib.hid hK
    have hlt : w.heap.size < W.heap.size := World.block_lt_of_cell? W _ (i1.cell (i := 0) (j := 0) (by omega) (by omega))
    have HB := Lib.hid i5
    clear b2 i1 i5 hK
    gi_wp2
    exact HKK.out _ _ ((KeepsOthers.alloc _ _).from _) ((KL.refl _ _).alloc _) ⟨HI.out.ext ((Ext.refl _).alloc _), Ext.alloc HB.out _⟩ ⟨W.heap.size, hlt, HB2.out, rfl⟩
  case body =>
    rintro l pre x a' W hl ⟨r, hr⟩ ⟨i1, i5⟩ ⟨Bx, hBx, bX, rfl⟩ hlt
    obtain ⟨⟨a, b⟩, p1, p2, p3⟩ := x
    unfold Pr.val
    simp only at bX p1 p2 p3 ⊢
    have r0 : W.cell? ⟨Bx, 0, none⟩ = some (.int .u8 (a : Int)) := bX.c0
    have r1 : W.cell? ⟨Bx, 1, none⟩ = some (.int .u8 (b : Int)) := bX.c1
    have q0 := i1.cell (i := a) (j := b) (by omega) (by omega)
    have q0f := i1.frozen (a * 9 + b)
    have HI := Lib.hid i1
    have HB := Lib.hid i5
    clear i1 i5 bX hr
    gi_wp2
    gi_region_with_o (fail)
    all_goals (try gi_wp2)
    all_goals exact ⟨(((KeepsOthers.setCell _ _ _).trans (KeepsOthers.drew _)).from _), (((KL.refl _ W).setCell (by simp only; omega) _).ext ((Ext.refl _).drew)),
      ((HI.out.set (a := a) (b := b) (by omega) (by omega)).ext ((Ext.refl _).drew)).congr (fun i j => cfold_snoc pre ⟨(a, b), p1, p2, p3⟩ i j), (Below.setCell (p := ⟨w.heap.size, a * 9 + b, none⟩) HB.out (Nat.le_refl _) _).drew⟩
  case done =>
    rintro D zs W hD rfl ⟨i1, i5⟩ hK
    have HI := Lib.hid i1
    have HB := Lib.hid i5
    clear i1 i5
    have hdn : D ≠ w.heap.size := by omega
    have hcz := HI.out.congr (fun i j => cfold_jE xs ys rfl i j)
    have HS := Lib.hid (jE_sup xs.length xs ys)
    have HC0 := Lib.hid hcz
    have HD0 := Lib.hid hK
    have hLn : (0 : Int) ≤ (xs.length : Int) := by omega
    have hWW := Ext.refl W
    have HW := Lib.hid hWW
    clear hcz hK hWW hcr hx0 f1 f2 f5 hz76 HCR
    gi_wp2
    gi_loopw [10] (fun i wr => ∃ b : Nat, 2 ≤ b ∧ (b : Int) ≤ max 2 (xs.length : Int) ∧ i = .int .i64 b ∧ Hid (CR wr w.heap.size (wsh (jE xs.length xs ys) b) ∧ OnlyB w.heap.size W wr)) (fun i _ => xs.length - (intOf i).toNat)
    case atStart => exact ⟨2, by omega, by omega, rfl, Lib.hid ⟨HC0.out.congr (fun i j => (wsh_two (jE_sup xs.length xs ys) i j)), OnlyB.refl _ _⟩⟩
    case round =>
      obtain ⟨b, hb2, hbm, rfl, HJ⟩ := hrel
      by_cases hlt : b < xs.length
      · gi_wp2
        obtain ⟨wo, rfl⟩ : ∃ wo : World, wo = wr := ⟨_, rfl⟩
        gi_loopw [11] (fun i wr => ∃ a : Nat, 1 ≤ a ∧ a ≤ b ∧ i = .int .i64 a ∧ Hid (CR wr w.heap.size (wmid (wsh (jE xs.length xs ys) b) b a 0) ∧ OnlyB w.heap.size W wr)) (fun i _ => b - (intOf i).toNat)
        case atStart => exact ⟨1, by omega, by omega, rfl, Lib.hid ⟨HJ.out.1.congr (fun i j => wmid_start (wsh_sup (jE_sup xs.length xs ys) b) b i j), HJ.out.2⟩⟩
        case round =>
          obtain ⟨a, ha1, hab, rfl, HK⟩ := hrel
          by_cases hla : a < b
          · gi_wp2
            obtain ⟨wp, rfl⟩ : ∃ wp : World, wp = wr := ⟨_, rfl⟩
            gi_loopw [12] (fun i wr => ∃ c : Nat, b < c ∧ c ≤ xs.length + 1 ∧ i = .int .i64 c ∧ Hid (CR wr w.heap.size (wmid (wsh (jE xs.length xs ys) b) b a c) ∧ OnlyB w.heap.size W wr)) (fun i _ => xs.length + 1 - (intOf i).toNat)
            case atStart => exact ⟨b + 1, by omega, by omega, by go_num, Lib.hid ⟨HK.out.1.congr (fun i j => wmid_inner _ _ _ i j), HK.out.2⟩⟩
            case round =>
              obtain ⟨c, hbc, hc, rfl, HL⟩ := hrel
              by_cases hlc : c ≤ xs.length
              · have q1 := HL.out.1.cell (i := a) (j := b) (by omega) (by omega)
                have q2 := HL.out.1.cell (i := b) (j := c) (by omega) (by omega)
                have q3 := HL.out.1.cell (i := a) (j := c) (by omega) (by omega)
                have q3f := HL.out.1.frozen (a * 9 + c)
                rw [wmid_left] at q1
                rw [wmid_right] at q2
                obtain ⟨v3, hv3⟩ : ∃ v, v = wmid (wsh (jE xs.length xs ys) b) b a c a c := ⟨_, rfl⟩
                rw [← hv3] at q3
                clear hv3
                cases e1 : wsh (jE xs.length xs ys) b a b with
                | false =>
                  rw [e1] at q1
                  have E1 := Lib.hid e1; clear e1 q2 q3 q3f
                  gi_wp2
                  go_roundw
                  case rel => exact ⟨c + 1, by omega, by omega, by go_num, Lib.hid ⟨HL.out.1.congr (fun i j => wmid_no (.inl E1.out) i j), HL.out.2⟩⟩
                  case measure => simp [intOf]; omega
                | true =>
                  rw [e1] at q1
                  have E1 := Lib.hid e1; clear e1
                  cases e2 : wsh (jE xs.length xs ys) b b c with
                  | false =>
                    rw [e2] at q2
                    have E2 := Lib.hid e2; clear e2 q3 q3f
                    gi_wp2
                    go_roundw
                    case rel => exact ⟨c + 1, by omega, by omega, by go_num, Lib.hid ⟨HL.out.1.congr (fun i j => wmid_no (.inr E2.out) i j), HL.out.2⟩⟩
                    case measure => simp [intOf]; omega
                  | true =>
                    rw [e2] at q2
                    have E2 := Lib.hid e2; clear e2
                    gi_wp2
                    go_roundw
                    case rel => exact ⟨c + 1, by omega, by omega, by go_num, Lib.hid ⟨(HL.out.1.set (a := a) (b := c) (by omega) (by omega)).congr (fun i j => wmid_yes hla hbc E1.out E2.out i j), HL.out.2.set _ _⟩⟩
                    case measure => simp [intOf]; omega
              · gi_wp2
                go_roundw
                case rel => exact ⟨a + 1, by omega, by omega, by go_num, Lib.hid ⟨(by have := HL.out.1.congr (fun i j => (show wmid _ b a c i j = wmid _ b a (xs.length + 1) i j by rw [show c = xs.length + 1 by omega])); exact this.congr (fun i j => wmid_end (wsh_sup (jE_sup xs.length xs ys) b) b a i j)), HL.out.2⟩⟩
                case measure => simp [intOf]; omega
          · gi_wp2
            go_roundw
            case rel => exact ⟨b + 1, by omega, by omega, by go_num, Lib.hid ⟨(by have := HK.out.1; rw [show a = b by omega] at this; exact this.congr (fun i j => wmid_round _ b i j)), HK.out.2⟩⟩
            case measure => simp [intOf]; omega
      · have HJ2 : Hid (CR wr w.heap.size (jC xs.length xs ys) ∧ OnlyB w.heap.size W wr) := Lib.hid ⟨(by have := HJ.out.1; rw [show b = max 2 xs.length by omega] at this; exact this), HJ.out.2⟩
        clear HJ
        obtain ⟨w3, rfl⟩ : ∃ w3 : World, w3 = wr := ⟨_, rfl⟩
        have hD3 : w3.heap[D]? = some (.deferred (some [])) := by
          rw [HJ2.out.2.block D (lt_of_block HD0.out) (fun e => hdn (by simpa using e))]; exact HD0.out
        have hD3l : D < w3.heap.size := lt_of_block hD3
        have hwD : w.heap.size < D := by omega
        have hB3 : Below w.heap.size w w3 := HB.out.grown HJ2.out.2 HB.out.size (fun k e => by cases e; exact Nat.le_refl _)
        have HD3 := Lib.hid hD3
        have HB3 := Lib.hid hB3
        clear hD3 hB3
        have hmk := run_make_row' (P := Try.prog) 22 5 (.int .u8 0) 1 Try.underlying22 (by kernel_rfl) rfl .i64 .i64 xs.length (by omega) (by omega)
        have bx := Boxed.new (w3.alloc (.cells (madeCells #[.int .u8 0] xs.length) 5)) 22 (.slice (some ⟨w3.heap.size, 0, none⟩) xs.length xs.length)
        rw [World.size_alloc] at bx
        have HBX := Lib.hid bx
        clear bx
        gi_wp2
        gi_loopw [69] (fun i wr => ∃ k : Nat, k ≤ xs.length ∧ i = .int .i64 k ∧ Hid (URow w3 wr xs.length (fun k => k) (fun k => (k : Int) + 1) k ∧ Boxed wr (w3.heap.size + 1) 22 (.slice (some ⟨w3.heap.size, 0, none⟩) xs.length xs.length))) (fun i _ => xs.length - (intOf i).toNat)
        case atStart => exact ⟨0, Nat.zero_le _, rfl, Lib.hid ⟨(URow.start w3 xs.length _ _).alloc _, HBX.out⟩⟩
        case round =>
          obtain ⟨k, hk, rfl, H⟩ := hrel
          have q0 := H.out.2.cell
          by_cases hlk : k < xs.length
          · have hnx := H.out.1.next
            obtain ⟨_, f, hrow, hf⟩ := H.out.1
            have hst := hrow.cell (i := k) hlk
            have hfz := hrow.frozen k
            rw [hf k] at hst
            have HNX := Lib.hid (And.intro hnx (boxed_setOther H.out.2 (a := ⟨w3.heap.size, k, none⟩) (by simp only; omega) (.int .u8 ((k : Int) + 1))))
            clear hnx hrow hf
            gi_wp2
            go_roundw
            case rel => exact ⟨k + 1, by omega, by go_num, HNX.out⟩
            case measure => simp [intOf]; omega
          · obtain rfl : k = xs.length := by omega
            obtain ⟨w4, rfl⟩ : ∃ w4 : World, w4 = wr := ⟨_, rfl⟩
            clear HBX HI HC0 HB HD0 HW
            gi_wp2_with (refine ⟨trivial, ?_⟩; gi_at_call 35; refine (callsIn_wide.2 (pairs_calls _ _ _ _)).mono ?_; rintro e w5 ⟨rfl, rfl⟩)
            have hrw : ∃ f, w4.rowIs w3.heap.size 5 xs.length f ∧ ∀ j, j < xs.length → f j = .int .u8 (rkw ([] : List (Pr xs.length)) j) := by
              obtain ⟨_, f, hrow, hf⟩ := H.out.1
              exact ⟨f, hrow, fun j hj => by rw [hf j, upd_id _ _ _ hj, rkw_nil (by omega)]⟩
            have hx4 : Ext w3 w4 := H.out.1.1
            have hs4 := hx4.size
            have hcr4 : CR w4 w.heap.size (jC xs.length xs ys) := HJ2.out.1.ext hx4
            have hb4 : Below w.heap.size w w4 := Below.trans HB3.out (Below.mono hx4 (by omega))
            have hd4 : w4.heap[D]? = some (.deferred (some [])) := hx4.block HD3.out
            have hbx4 := H.out.2
            have hl4 := hbx4.lt
            have j1 := Boxed.new w4 3 (.int .i64 (xs.length : Int))
            replace j1 := j1.alloc (.cells #[.func (.func 51) #[] #[.pointer (some ⟨w.heap.size, 0, none⟩)]] 59)
            have j2 := Boxed.new (w4.alloc (.cells #[.int .i64 (xs.length : Int)] 3)) 59 (.func (.func 51) #[] #[.pointer (some ⟨w.heap.size, 0, none⟩)])
            rw [World.size_alloc] at j2
            have hx5 : Ext w4 ((w4.alloc (.cells #[.int .i64 (xs.length : Int)] 3)).alloc (.cells #[.func (.func 51) #[] #[.pointer (some ⟨w.heap.size, 0, none⟩)]] 59)) := ((Ext.refl w4).alloc _).alloc _
            have hs5 : ((w4.alloc (.cells #[.int .i64 (xs.length : Int)] 3)).alloc (.cells #[.func (.func 51) #[] #[.pointer (some ⟨w.heap.size, 0, none⟩)]] 59)).heap.size = w4.heap.size + 2 := by simp
            obtain ⟨W5, hW5⟩ : ∃ W5, ((w4.alloc (.cells #[.int .i64 (xs.length : Int)] 3)).alloc (.cells #[.func (.func 51) #[] #[.pointer (some ⟨w.heap.size, 0, none⟩)]] 59)) = W5 := ⟨_, rfl⟩
            rw [hW5] at j1 j2 hx5 hs5 ⊢
            clear hW5 H HJ2 HD3 HB3 hx4
            have hcr5 := hcr4.ext hx5
            have hmx2 : Try.prog.follows .mixedOrders = true := by kernel_rfl
            refine wpIn_rangeFunc_ownH rfl h1m (gf := 47) (lb := #[.pointer (some ⟨w4.heap.size, 0, none⟩), .pointer (some ⟨w4.heap.size + 1, 0, none⟩)]) rfl trivial (enters_of Try.func47 (by kernel_rfl) rfl)
              (pairs_j2_stops (m - 1) (by omega) w4.heap.size (w4.heap.size + 1) w.heap.size xs.length h8 (jC xs.length xs ys) (fun b => b < w4.heap.size + 2 ∧ b ≠ w3.heap.size) W5
                (fun W' hk => ⟨hk.cell (a := ⟨w4.heap.size, 0, none⟩) (by simp only; omega) j1.cell, hk.cell (a := ⟨w4.heap.size + 1, 0, none⟩) (by simp only; omega) j2.cell, fun x => join2_calls w.heap.size xs.length (jC xs.length xs ys) h8 x W' (hcr5.kl hk (by omega))⟩))
              KL.trans (KL.putObj (fun b hb => by omega)) (Below.refl _ _) (fun _ => rfl)
              (fun pre W => ((∃ f, W.rowIs w3.heap.size 5 xs.length f ∧ ∀ j, j < xs.length → f j = .int .u8 (rkw pre j)) ∧ Boxed W (w3.heap.size + 1) 22 (.slice (some ⟨w3.heap.size, 0, none⟩) xs.length xs.length)) ∧ Below w.heap.size w W ∧ W.heap[D]? = some (.deferred (some [])))
              (fun c pre W => False)
              (OwnFrom.and (OwnFrom.and (fun pre X Y row hs hg hr => by obtain ⟨f, h1, h2⟩ := hs; exact ⟨f, row_kept h1 hg (fun r e => (hr r e).2), h2⟩) (Own.from (boxed_own _ _ _) _)) (OwnFrom.and (ownFrom_below (Nat.le_refl _) (by omega)) (fun pre X Y row hs hg hr => (hg.block D (lt_of_block hs) (fun e => by have := (hr D e.symm).1; omega)).trans hs)))
              (fun _ _ _ _ _ hs _ _ => hs)
              ⟨⟨by obtain ⟨f, h1, h2⟩ := hrw; exact ⟨f, hx5.row h1, h2⟩, boxed_ext hbx4 hx5⟩, Below.trans hb4 (Below.mono hx5 (by omega)), hx5.block hd4⟩
              (fun x a' W => ∃ Bx, w3.heap.size + 1 < Bx ∧ B2 W Bx (.int .u8 (x.1.1 : Int)) (.int .u8 (x.1.2 : Int)) 36 ∧ a' = { tmps := #[.slice ao xs.length c1, .slice bo L2 c2, undef, undef, .slice none 0 0, .int .i64 (xs.length : Int), .pointer (some ⟨w.heap.size, 0, none⟩), .pointer (some ⟨w.heap.size + 1 + 1 + 1, 0, none⟩), .pointer (some ⟨w.heap.size + 1 + 1 + 1 + 1, 0, none⟩), undef, .int .i64 (b : Int), u11, u12, .pointer (some ⟨w3.heap.size + 1, 0, none⟩), u14, .pointer (some ⟨Bx, 0, none⟩), .slice ao xs.length c1, .int .i64 (xs.length : Int), .slice ao xs.length c1, .func (.func 48) #[] #[.pointer (some ⟨w.heap.size + 1, 0, none⟩)], .slice bo L2 c2, .func (.func 48) #[] #[.pointer (some ⟨w.heap.size + 1 + 1, 0, none⟩)], .int .i64 (xs.length : Int), .func (.func 50) #[] #[.pointer (some ⟨w.heap.size + 1 + 1 + 1, 0, none⟩), .pointer (some ⟨w.heap.size + 1 + 1 + 1 + 1, 0, none⟩)], .func (.func 47) #[] #[.pointer (some ⟨w.heap.size + 1 + 1 + 1 + 1 + 1, 0, none⟩), .pointer (some ⟨w.heap.size + 1 + 1 + 1 + 1 + 1 + 1, 0, none⟩)], undef, undef, undef, undef, undef, undef, undef, .int .i64 (b : Int), .int .i64 (xs.length : Int), .bool false, u35, u36, u37, u38, u39, u40, u41, u42, u43, u44, u45, u46, u47, u48, u49, u50, u51, u52, u53, u54, u55, u56, u57, u58, u59, u60, u61, u62, u63, u64, .int .i64 (xs.length : Int), .slice (some ⟨w3.heap.size, 0, none⟩) xs.length xs.length, .slice (some ⟨w3.heap.size, 0, none⟩) xs.length xs.length, .int .i64 (xs.length : Int), .int .i64 (xs.length : Int), .bool false, u71, u72, u73, u74, u75, u76, u77, u78, .int .i64 (xs.length : Int), .func (.func 51) #[] #[.pointer (some ⟨w.heap.size, 0, none⟩)], .func (.func 47) #[] #[.pointer (some ⟨w4.heap.size, 0, none⟩), .pointer (some ⟨w4.heap.size + 1, 0, none⟩)], x.val, undef, undef, undef, undef, undef, undef, undef, undef, undef, undef, undef, undef, undef, undef, undef, undef, undef], defers := [] })
              (fun x a' _ X Y row hs hg hr => by obtain ⟨Bx, h1, h2, h3⟩ := hs; exact ⟨Bx, h1, b2_kept h2 hg (fun r e => (hr r e).2), h3⟩)
              ?assign2 ?body2 ?done2 ?stop2
            case assign2 =>
              rintro l pre x W K ⟨⟨i1, i2⟩, i3, i4⟩ hK
              obtain ⟨⟨a, b⟩, p1, p2, p3⟩ := x
              unfold Pr.val at hK ⊢
              simp only at hK ⊢
              have b2 := B2.new W (.int .u8 (a : Int)) (.int .u8 (b : Int)) 36
              have hlt2 := i2.lt
              have HB2 := Lib.hid b2
              have HI := Lib.hid (And.intro (And.intro i1 i2) (And.intro i3 i4))
              have HKK := Lib.hid hK
              clear b2 i1 i2 i3 i4 hK
              gi_wp2
              refine HKK.out _ _ ((KeepsOthers.alloc _ _).from _) ((KL.refl _ _).alloc _) ⟨⟨?_, HI.out.1.2.alloc _⟩, Below.alloc HI.out.2.1 HI.out.2.1.size _, ((Ext.refl W).alloc _).block HI.out.2.2⟩ ⟨W.heap.size, hlt2, HB2.out, rfl⟩
              obtain ⟨f, h1, h2⟩ := HI.out.1.1
              exact ⟨f, ((Ext.refl W).alloc _).row h1, h2⟩
            case body2 =>
              rintro l pre x a' W hl ⟨r, hr⟩ ⟨⟨⟨f, i1, hf⟩, i2⟩, i3, i4⟩ ⟨Bx, hBx, bX, rfl⟩ hlt
              have hra := rkw_a pre x
              have hrb := rkw_b pre x
              have hro := fun j => rkw_other pre x (j := j)
              have HX := Lib.hid (And.intro hra (And.intro hrb hro))
              obtain ⟨⟨a, b⟩, p1, p2, p3⟩ := x
              unfold Pr.val
              simp only at bX p1 p2 p3 hra hrb ⊢
              obtain ⟨a', rfl⟩ : ∃ a', a = a' + 1 := ⟨a - 1, by omega⟩
              obtain ⟨b', rfl⟩ : ∃ b', b = b' + 1 := ⟨b - 1, by omega⟩
              rw [Nat.add_sub_cancel] at hra hrb
              simp only [Int.natCast_add, Int.cast_ofNat_Int] at bX
              have r0 : W.cell? ⟨Bx, 0, none⟩ = some (.int .u8 ((a' : Int) + 1)) := bX.c0
              have q0 := i2.cell
              have qa := i1.cell (i := a') (by omega)
              have qaf := i1.frozen a'
              rw [hf a' (by omega)] at qa
              have hva := rkw_bd pre a'
              have hvb := rkw_bd pre b'
              obtain ⟨va, hva'⟩ : ∃ v, v = rkw pre a' := ⟨_, rfl⟩
              obtain ⟨vb, hvb'⟩ : ∃ v, v = rkw pre b' := ⟨_, rfl⟩
              obtain ⟨ua, hua⟩ : ∃ v, v = rkw (pre ++ [⟨(a' + 1, b' + 1), p1, p2, p3⟩]) a' := ⟨_, rfl⟩
              obtain ⟨ub, hub⟩ : ∃ v, v = rkw (pre ++ [⟨(a' + 1, b' + 1), p1, p2, p3⟩]) b' := ⟨_, rfl⟩
              rw [← hva'] at qa hra hva
              rw [← hvb'] at hrb hvb
              rw [← hua] at hra
              rw [← hub] at hrb
              have s1 : (W.setCell ⟨w3.heap.size, a', none⟩ (.int .u8 ua)).cell? ⟨Bx, 1, none⟩ = some (.int .u8 ((b' : Int) + 1)) := (bX.setOther (a := ⟨w3.heap.size, a', none⟩) (by simp only; omega)).c1
              have s0 : (W.setCell ⟨w3.heap.size, a', none⟩ (.int .u8 ua)).cell? ⟨w3.heap.size + 1, 0, none⟩ = some (.slice (some ⟨w3.heap.size, 0, none⟩) xs.length xs.length) := (boxed_setOther i2 (a := ⟨w3.heap.size, a', none⟩) (by simp only; omega) _).cell
              have hset := i1.set a' (.int .u8 ua)
              have sb := hset.cell (i := b') (by omega)
              have sbf := hset.frozen b'
              simp only [show ¬ b' = a' by omega, if_false] at sb
              rw [hf b' (by omega), ← hvb'] at sb
              have HF := Lib.hid (And.intro hf (And.intro hva' (And.intro hvb' (And.intro hua hub))))
              have HI := Lib.hid (And.intro (And.intro i1 i2) (And.intro i3 i4))
              clear hset i1 i2 i3 i4 bX hr hf hva' hvb' hua hub hro
              gi_wp2
              obtain ⟨⟨i1, i2⟩, i3, i4⟩ := HI.out
              refine ⟨((KeepsOthers.setCell _ _ _).trans (KeepsOthers.setCell _ _ _)).from _, ((KL.refl _ W).setCell (fun h => h.2 rfl) _).setCell (fun h => h.2 rfl) _, ⟨⟨_, (i1.set a' _).set b' _, fun j hj => ?_⟩, boxed_setOther (boxed_setOther i2 (a := ⟨w3.heap.size, a', none⟩) (by simp only; omega) _) (a := ⟨w3.heap.size, b', none⟩) (by simp only; omega) _⟩,
                Below.setCell (p := ⟨w3.heap.size, b', none⟩) (Below.setCell (p := ⟨w3.heap.size, a', none⟩) i3 (by simp only; omega) _) (by simp only; omega) _, (Below.heap_setCell _ _ _ _ (by simp only; omega)).trans ((Below.heap_setCell _ _ _ _ (by simp only; omega)).trans i4)⟩
              obtain ⟨hf, e1, e2, e3, e4⟩ := HF.out
              by_cases jb : j = b'
              · subst jb; simp [e4]
              · rw [if_neg jb]
                by_cases ja : j = a'
                · subst ja; simp [e3]
                · rw [if_neg ja, hf j hj]
                  have := HX.out.2.2 j (by simpa using ja) (by simpa using jb)
                  rw [this]
            case done2 =>
              rintro D2 zs2 W2 hD2 rfl ⟨⟨⟨f, i1, hf⟩, i2⟩, i3, i4⟩ hK2
              have q0 := i2.cell
              have HF := Lib.hid hf
              have HI := Lib.hid (And.intro i1 (And.intro i2 (And.intro i3 i4)))
              clear i1 i2 i3 i4 hf
              gi_wp2
              refine ⟨by simp, .inl ⟨_, _, rfl, run_takeDeferred hK2, ?_⟩⟩
              obtain ⟨i1, i2, i3, i4⟩ := HI.out
              have hDD : D ≠ D2 := by omega
              have hK1 : (W2.putObj D2 (.deferred none)).heap[D]? = some (.deferred (some [])) := (World.putObj_heap_other hDD).trans i4
              refine ⟨by simp, .inl ⟨_, _, rfl, run_takeDeferred hK1, ?_⟩⟩
              have r1 := row_kept i1 (grownBy_putObj' _ D2 (.deferred none)) (fun r e => by cases e; exact ⟨_, hK2, rfl⟩)
              have r2 := row_kept r1 (grownBy_putObj' _ D (.deferred none)) (fun r e => by cases e; exact ⟨_, hK1, rfl⟩)
              refine ⟨.slice (some ⟨w3.heap.size, 0, none⟩) xs.length xs.length, by simp [results, Try.f41, go_sem], ⟨_, rfl, IS.of_row r2 (joinL_len xs ys).symm (by unfold maxLen; omega) (fun i hi => ?_), Below.trans (Below.trans i3 (belowK_b (w := w) (Nat.le_refl _) W2 D2 _ _ (by omega) hK2 rfl rfl)) (belowK_b (w := w) (Nat.le_refl _) _ D _ _ (by omega) hK1 rfl rfl), NN.mk⟩⟩
              rw [HF.out i hi, rkw_all h8 _ hi]
              rfl
            case stop2 =>
              intro D c pre W _ _ h _
              exact h.elim
  case stop =>
    intro D c pre W _ _ h _
    exact h.elim
end Go.Proofs.Ytpcbadagffeehaa
