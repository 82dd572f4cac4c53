/- More for walks: append to the call's own as a step of a region that draws its order; slices of pairs of bytes. -/
import Derived.Test.YtlhkehfplcclgaaDoorLibb
import Derived.Laws.OwnMore
namespace Go.Proofs.YtlhkehfplcclgaaDoor
set_option linter.unusedVariables false
set_option linter.unusedSimpArgs false
open Go Go.RowKit

/-- 'append(s, x...)', s the call's own, x any slice: at a step of a region that draws its order. -/
theorem step_app_own {P : Program} {t e : TypeId} {z : Value} {bytes : Nat} (ei : EI P t e z bytes) {w : World} {ops : Array Oper} {o : Oper} {a : Act} {K : Act → World → Prop} {Q : Exit → Act → World → Prop} {E : Prop}
    (hg : o.guard = none) (s x : Operand) (hop : o.op = Op.call { callee := Callee.builtin Builtin.append, args := #[s, x], argTypes := #[t, t] })
    (B : Nat) (v : Value) (n : Nat) (xs : List Value) (hs : a.eval s = v) (hown : w.ownsRow B e 1 v n xs)
    (y : Value) (c : Nat) (ys : List Value) (hx : a.eval x = y) (hy : VS w y c ys) (h1 : ∀ u ∈ ys, u.oneCell' = true)
    (hbytes : (n + ys.length) * bytes ≤ 140737488355328) (hlen : n + ys.length ≤ 140737488355328) (hB : B ≤ w.heap.size)
    (hK : ∀ v' w', w'.ownsRow B e 1 v' (n + ys.length) (xs ++ ys) → Below B w w' → K (a.put o.dst v') w') :
    if Region.wanted o (yielded ops a.tmps) = true then Oper.wp P o a w K Q else E := by
  have hw : Region.wanted o (yielded ops a.tmps) = true := by simp [Region.wanted, hg]
  rw [if_pos hw]
  obtain ⟨i, hi, hz0, hz1, hz2⟩ := info_parts ei.info
  obtain ⟨ao, rfl, hl, hm, hno, hc⟩ := hy
  have hzs : z.cells.size = 1 := by rw [ei.cell]; rfl
  cases ao with
  | none =>
    have := hno rfl
    obtain rfl : ys = [] := List.eq_nil_of_length_eq_zero (by omega)
    subst this
    have hrun := run_append_owned_none (P := P) (w := w) B t o.type e i 1 ei.und hi _ n xs hown
    unfold Oper.wp
    simp [execOp, hop, resolve, invoke, builtin, hs, hx, hrun, Result.andThen]
    exact hK _ w (by simpa using hown) (Below.refl _ _)
  | some ad =>
    obtain ⟨v', w', hrun, r1, r2, _⟩ := run_append_own (P := P) w B t o.type e i z 1 bytes ei.und hi hz0 hz1 hz2 hzs (by decide) v n xs hown ad ys.length c ys (by simp) (VS.cells hl hc ad rfl) h1 (by unfold maxLen; omega) hbytes hB
    unfold Oper.wp
    simp [execOp, hop, resolve, invoke, builtin, hs, hx, hrun, Result.andThen]
    exact hK _ w' r1 (below_of_grown hown hB r2)

/-- .. with all that is known of the new world. -/
theorem step_app_grown {P : Program} {t e : TypeId} {z : Value} {bytes : Nat} (ei : EI P t e z bytes) {w : World} {ops : Array Oper} {o : Oper} {a : Act} {K : Act → World → Prop} {Q : Exit → Act → World → Prop} {E : Prop}
    (hg : o.guard = none) (s x : Operand) (hop : o.op = Op.call { callee := Callee.builtin Builtin.append, args := #[s, x], argTypes := #[t, t] })
    (B : Nat) (v : Value) (n : Nat) (xs : List Value) (hs : a.eval s = v) (hown : w.ownsRow B e 1 v n xs)
    (y : Value) (c : Nat) (ys : List Value) (hx : a.eval x = y) (hy : VS w y c ys) (h1 : ∀ u ∈ ys, u.oneCell' = true)
    (hbytes : (n + ys.length) * bytes ≤ 140737488355328) (hlen : n + ys.length ≤ 140737488355328) (hB : B ≤ w.heap.size)
    (hK : ∀ v' w', w'.ownsRow B e 1 v' (n + ys.length) (xs ++ ys) → w.grownBy w' v.ownBlock → K (a.put o.dst v') w') :
    if Region.wanted o (yielded ops a.tmps) = true then Oper.wp P o a w K Q else E := by
  have hw : Region.wanted o (yielded ops a.tmps) = true := by simp [Region.wanted, hg]
  rw [if_pos hw]
  obtain ⟨i, hi, hz0, hz1, hz2⟩ := info_parts ei.info
  obtain ⟨ao, rfl, hl, hm, hno, hc⟩ := hy
  have hzs : z.cells.size = 1 := by rw [ei.cell]; rfl
  cases ao with
  | none =>
    have := hno rfl
    obtain rfl : ys = [] := List.eq_nil_of_length_eq_zero (by omega)
    subst this
    have hrun := run_append_owned_none (P := P) (w := w) B t o.type e i 1 ei.und hi _ n xs hown
    unfold Oper.wp
    simp [execOp, hop, resolve, invoke, builtin, hs, hx, hrun, Result.andThen]
    exact hK _ w (by simpa using hown) (World.grownBy.refl _ _)
  | some ad =>
    obtain ⟨v', w', hrun, r1, r2, _⟩ := run_append_own (P := P) w B t o.type e i z 1 bytes ei.und hi hz0 hz1 hz2 hzs (by decide) v n xs hown ad ys.length c ys (by simp) (VS.cells hl hc ad rfl) h1 (by unfold maxLen; omega) hbytes hB
    unfold Oper.wp
    simp [execOp, hop, resolve, invoke, builtin, hs, hx, hrun, Result.andThen]
    exact hK _ w' r1 r2

/-- An empty slice of the call's own. -/
theorem own0 {w : World} {B g : Nat} {e : TypeId} (hb : w.heap[g]? = some (.cells #[] e (0, 0))) (hB : B ≤ g) : w.ownsRow B e 1 (.slice (some ⟨g, 0, none⟩) 0 0) 0 [] :=
  ⟨rfl, .inr ⟨g, 0, #[], rfl, hB, hb, Nat.le_refl _, by unfold maxLen; omega, rfl, rfl⟩⟩
theorem blk_at {w : World} {o : Obj} {g : Nat} (h : g = w.heap.size) : (w.alloc o).heap[g]? = some o := by rw [h]; exact Deep.blk_alloc_new _ _
theorem blk_old {w : World} {o o' : Obj} {g : Nat} (h : w.heap[g]? = some o) : (w.alloc o').heap[g]? = some o := ((Ext.refl w).alloc o').block h
theorem blk_drew {w : World} {o : Obj} {g : Nat} (h : w.heap[g]? = some o) : w.drew.heap[g]? = some o := h
theorem blk_drewN {w : World} {o : Obj} {g n : Nat} (h : w.heap[g]? = some o) : (w.drewN n).heap[g]? = some o := h
/-- A world with some blocks more. -/
theorem Ext.of_push {w W : World} (os : Array Obj) (h1 : W.os = w.os) (h2 : W.tape = w.tape) (h3 : W.output = w.output) (h4 : W.heap = w.heap ++ os) : Ext w W :=
  ⟨h1, h2, h3, by rw [h4]; simp, fun j hj => by rw [h4, Array.getElem?_append_left hj]⟩
/-- Two numbers in a block of the call's own. -/
theorem two_is {w : World} {g : Nat} {e : TypeId} {x y : Int} (hb : w.heap[g]? = some (.cells #[.int .i64 x, .int .i64 y] e (0, 0))) : IS .i64 w (.slice (some ⟨g, 0, none⟩) 2 2) 2 [x, y] :=
  IS.mk rfl (Nat.le_refl _) (by unfold maxLen; omega) fun i hi => by
    rw [Nat.zero_add]
    have : i = 0 ∨ i = 1 := by omega
    rcases this with rfl | rfl <;> simp [World.cell?, hb, gi]

theorem IS.upto {k : IntKind} {w : World} {a : Option Addr} {n c c' : Nat} {xs : List Int} (h : IS k w (.slice a n c) c' xs) {m : Nat} (hm : m ≤ n) : IS k w (.slice a m c) c' (xs.take m) := by
  obtain ⟨rfl, rfl, hc⟩ := h.len
  obtain ⟨ao, hv, h1, h2, h3, h4⟩ := h
  simp only [Value.slice.injEq] at hv
  obtain ⟨rfl, _, _⟩ := hv
  refine ⟨a, by simp [Nat.min_eq_left hm], by simp; omega, h2, h3, fun b hb => ⟨(h4 b hb).1, fun j u hj => (h4 b hb).2 j u ?_⟩⟩
  rw [List.map_take, List.getElem?_take] at hj
  split at hj
  · exact hj
  · cases hj

theorem IS.empty {k : IntKind} {w : World} (a : Option Addr) : IS k w (.slice a 0 0) 0 [] :=
  ⟨a, rfl, Nat.le_refl _, by unfold maxLen; omega, fun _ => rfl, fun b hb => ⟨fun h => absurd h (by omega), fun j u hj => by simp at hj⟩⟩
/-- The part of a slice from i on. -/
theorem IS.from {k : IntKind} {w : World} {a : Option Addr} {n c c' : Nat} {xs : List Int} (h : IS k w (.slice a n c) c' xs) (i : Nat) (hi : i ≤ n) :
    (∃ b o, a = some ⟨b, o, none⟩ ∧ IS k w (.slice (if c = i then some ⟨b, o, none⟩ else some ⟨b, o + i, none⟩) (n - i) (c - i)) (c - i) (xs.drop i)) ∨ (c = 0 ∧ n = 0 ∧ i = 0 ∧ xs = []) := by
  obtain ⟨h1, h2, ao, hv, hao⟩ := h.open
  simp only [Value.slice.injEq] at hv
  obtain ⟨rfl, rfl, rfl⟩ := hv
  rcases hao with ⟨_, h0, h9⟩ | ⟨b, o, rfl, hc⟩
  · exact .inr ⟨h9, h0, by omega, List.eq_nil_of_length_eq_zero h0⟩
  · refine .inl ⟨b, o, rfl, ?_⟩
    split
    · exact IS.mk (by simp) (by omega) (by omega) fun j hj => by omega
    · exact IS.mk (by simp) (by omega) (by omega) fun j hj => by rw [gi_drop, Nat.add_assoc]; exact hc (i + j) (by omega)

/-- 'append(s, x...)' within the capacity, with all that is known of the new world. -/
theorem app_fits_g {P : Program} {t e : TypeId} {z : Value} {bytes : Nat} (ei : EI P t e z bytes) {w : World} {ops : Array Oper} {rest : List Oper} {o : Oper} {a : Act} {Q : Exit → Act → World → Prop}
    (hg : o.guard = none) (s x : Operand) (hop : o.op = Op.call { callee := Callee.builtin Builtin.append, args := #[s, x], argTypes := #[t, t] })
    (B g n cap : Nat) (xs : List Value) (hs : a.eval s = .slice (some ⟨g, 0, none⟩) n cap) (hown : w.ownsRow B e 1 (.slice (some ⟨g, 0, none⟩) n cap) n xs)
    (y : Value) (c : Nat) (ys : List Value) (hx : a.eval x = y) (hy : VS w y c ys) (h1 : ∀ u ∈ ys, u.oneCell' = true) (hfit : n + ys.length ≤ cap)
    (hK : ∀ w', w'.ownsRow B e 1 (.slice (some ⟨g, 0, none⟩) (n + ys.length) cap) (n + ys.length) (xs ++ ys) → w.grownBy w' (some g) → wpList P ops Q rest (a.put o.dst (.slice (some ⟨g, 0, none⟩) (n + ys.length) cap)) w') :
    wpList P ops Q (o :: rest) a w := by
  obtain ⟨i, hi, hz0, hz1, hz2⟩ := info_parts ei.info
  obtain ⟨ao, rfl, hl, hm, hno, hc⟩ := hy
  refine wpList_append_fits_any w hg s x t hop B e i 1 ei.und hi hz1 g n cap xs hs hown ao ys.length c ys hx (by simp) (fun h => ?_) (VS.cells hl hc) h1 hfit ?_
  · have := hno h; omega
  · intro w' h2 h3
    exact hK w' h2 h3

theorem own_of_row {w : World} {g m n : Nat} {e : TypeId} {f : Nat → Value} (h : w.rowIs g e n f) (hm : m ≤ n) (hn : n ≤ maxLen) : w.ownsRow g e 1 (.slice (some ⟨g, 0, none⟩) m n) m ((List.range m).map f) := by
  obtain ⟨cur, h1, h2, h3⟩ := h
  refine ⟨by simp, .inr ⟨g, n, cur, rfl, Nat.le_refl _, h1, hm, hn, by omega, ?_⟩⟩
  apply List.ext_getElem?
  intro i
  simp only [Nat.mul_one]
  by_cases hi : i < m
  · rw [List.getElem?_take, if_pos hi, Array.getElem?_toList, h3 i (by omega)]; simp [hi]
  · rw [List.getElem?_eq_none (by simp; omega), List.getElem?_eq_none (by simp; omega)]

/-- A slice of pairs of bytes: nothing, or an address and the cells. -/
def PS (w : World) (v : Value) (c : Nat) (ms : List (Int × Int)) : Prop :=
  ∃ ao : Option Addr, v = .slice ao ms.length c ∧ ms.length ≤ c ∧ c ≤ maxLen ∧ (ms = [] ∨ ∃ b o, ao = some ⟨b, o, none⟩ ∧
    ∀ i, i < ms.length → w.cell? ⟨b, o + i * 2, none⟩ = some (.int .u8 (ms.getD i (0, 0)).1) ∧ w.cell? ⟨b, o + i * 2 + 1, none⟩ = some (.int .u8 (ms.getD i (0, 0)).2))
theorem PS.ext {w w' : World} {v : Value} {c : Nat} {ms : List (Int × Int)} (h : PS w v c ms) (e : Ext w w') : PS w' v c ms := by
  obtain ⟨ao, h1, h2, h3, h4⟩ := h
  refine ⟨ao, h1, h2, h3, ?_⟩
  rcases h4 with h4 | ⟨b, o, h5, h6⟩
  · exact .inl h4
  · exact .inr ⟨b, o, h5, fun i hi => ⟨e.cell (h6 i hi).1, e.cell (h6 i hi).2⟩⟩
def pi (ms : List (Int × Int)) (i : Nat) : Int × Int := ms.getD i (0, 0)
theorem pi_take {ms : List (Int × Int)} {k : Nat} (h : k < ms.length) : ms.take (k + 1) = ms.take k ++ [pi ms k] := by
  rw [List.take_succ_eq_append_getElem h]; unfold pi; simp [List.getD, h]
theorem PS.open {w : World} {v : Value} {c : Nat} {ms : List (Int × Int)} (h : PS w v c ms) : ∃ ao n, v = .slice ao n c ∧ n = ms.length ∧ n ≤ c ∧ c ≤ maxLen ∧ ∀ i, i < n → ∃ b o, ao = some ⟨b, o, none⟩ ∧ w.cell? ⟨b, o + i * 2, none⟩ = some (.int .u8 (pi ms i).1) ∧ w.cell? ⟨b, o + i * 2 + 1, none⟩ = some (.int .u8 (pi ms i).2) := by
  obtain ⟨ao, h1, h2, h3, h4⟩ := h
  refine ⟨ao, _, h1, rfl, h2, h3, fun i hi => ?_⟩
  rcases h4 with h4 | ⟨b, o, h5, h6⟩
  · rw [h4] at hi; simp at hi
  · exact ⟨b, o, h5, h6 i hi⟩
end Go.Proofs.YtlhkehfplcclgaaDoor
