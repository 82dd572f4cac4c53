/- Texts of this claim in one file: libraries and walks. -/
import Derived.Laws.OwnMore
import Derived.Test.YtinijapkipeamaaDoorMOf0
import Derived.Test.YtinijapkipeamaaDoorMOf2
/- More for walks: append to the call's own as a step of a region that draws its order; slices of pairs of bytes. -/
namespace Go.Proofs.YtinijapkipeamaaDoor
set_option linter.unusedVariables false
set_option linter.unusedSimpArgs false
open Go Go.RowKit

/-- 'append(s, x...)', s the call's own, x any slice: at a step of a region that draws its order. -/
theorem step_app_own {P : Program} {t e : TypeId} {z : Value} {bytes : Nat} (ei : EI P t e z bytes) {w : World} {ops : Array Oper} {o : Oper} {a : Act} {K : Act → World → Prop} {Q : Exit → Act → World → Prop} {E : Prop}
    (hg : o.guard = none) (s x : Operand) (hop : o.op = Op.call { callee := Callee.builtin Builtin.append, args := #[s, x], argTypes := #[t, t] })
    (B : Nat) (v : Value) (n : Nat) (xs : List Value) (hs : a.eval s = v) (hown : w.ownsRow B e 1 v n xs)
    (y : Value) (c : Nat) (ys : List Value) (hx : a.eval x = y) (hy : VS w y c ys) (h1 : ∀ u ∈ ys, u.oneCell' = true)
    (hbytes : (n + ys.length) * bytes ≤ 140737488355328) (hlen : n + ys.length ≤ 140737488355328) (hB : B ≤ w.heap.size)
    (hK : ∀ v' w', w'.ownsRow B e 1 v' (n + ys.length) (xs ++ ys) → Below B w w' → K (a.put o.dst v') w') :
    if Region.wanted o (yielded ops a.tmps) = true then Oper.wp P o a w K Q else E := by
  have hw : Region.wanted o (yielded ops a.tmps) = true := by simp [Region.wanted, hg]
  rw [if_pos hw]
  obtain ⟨i, hi, hz0, hz1, hz2⟩ := info_parts ei.info
  obtain ⟨ao, rfl, hl, hm, hno, hc⟩ := hy
  have hzs : z.cells.size = 1 := by rw [ei.cell]; rfl
  cases ao with
  | none =>
    have := hno rfl
    obtain rfl : ys = [] := List.eq_nil_of_length_eq_zero (by omega)
    subst this
    have hrun := run_append_owned_none (P := P) (w := w) B t o.type e i 1 ei.und hi _ n xs hown
    unfold Oper.wp
    simp [execOp, hop, resolve, invoke, builtin, hs, hx, hrun, Result.andThen]
    exact hK _ w (by simpa using hown) (Below.refl _ _)
  | some ad =>
    obtain ⟨v', w', hrun, r1, r2, _⟩ := run_append_own (P := P) w B t o.type e i z 1 bytes ei.und hi hz0 hz1 hz2 hzs (by decide) v n xs hown ad ys.length c ys (by simp) (VS.cells hl hc ad rfl) h1 (by unfold maxLen; omega) hbytes hB
    unfold Oper.wp
    simp [execOp, hop, resolve, invoke, builtin, hs, hx, hrun, Result.andThen]
    exact hK _ w' r1 (below_of_grown hown hB r2)

/-- .. with all that is known of the new world. -/
theorem step_app_grown {P : Program} {t e : TypeId} {z : Value} {bytes : Nat} (ei : EI P t e z bytes) {w : World} {ops : Array Oper} {o : Oper} {a : Act} {K : Act → World → Prop} {Q : Exit → Act → World → Prop} {E : Prop}
    (hg : o.guard = none) (s x : Operand) (hop : o.op = Op.call { callee := Callee.builtin Builtin.append, args := #[s, x], argTypes := #[t, t] })
    (B : Nat) (v : Value) (n : Nat) (xs : List Value) (hs : a.eval s = v) (hown : w.ownsRow B e 1 v n xs)
    (y : Value) (c : Nat) (ys : List Value) (hx : a.eval x = y) (hy : VS w y c ys) (h1 : ∀ u ∈ ys, u.oneCell' = true)
    (hbytes : (n + ys.length) * bytes ≤ 140737488355328) (hlen : n + ys.length ≤ 140737488355328) (hB : B ≤ w.heap.size)
    (hK : ∀ v' w', w'.ownsRow B e 1 v' (n + ys.length) (xs ++ ys) → w.grownBy w' v.ownBlock → K (a.put o.dst v') w') :
    if Region.wanted o (yielded ops a.tmps) = true then Oper.wp P o a w K Q else E := by
  have hw : Region.wanted o (yielded ops a.tmps) = true := by simp [Region.wanted, hg]
  rw [if_pos hw]
  obtain ⟨i, hi, hz0, hz1, hz2⟩ := info_parts ei.info
  obtain ⟨ao, rfl, hl, hm, hno, hc⟩ := hy
  have hzs : z.cells.size = 1 := by rw [ei.cell]; rfl
  cases ao with
  | none =>
    have := hno rfl
    obtain rfl : ys = [] := List.eq_nil_of_length_eq_zero (by omega)
    subst this
    have hrun := run_append_owned_none (P := P) (w := w) B t o.type e i 1 ei.und hi _ n xs hown
    unfold Oper.wp
    simp [execOp, hop, resolve, invoke, builtin, hs, hx, hrun, Result.andThen]
    exact hK _ w (by simpa using hown) (World.grownBy.refl _ _)
  | some ad =>
    obtain ⟨v', w', hrun, r1, r2, _⟩ := run_append_own (P := P) w B t o.type e i z 1 bytes ei.und hi hz0 hz1 hz2 hzs (by decide) v n xs hown ad ys.length c ys (by simp) (VS.cells hl hc ad rfl) h1 (by unfold maxLen; omega) hbytes hB
    unfold Oper.wp
    simp [execOp, hop, resolve, invoke, builtin, hs, hx, hrun, Result.andThen]
    exact hK _ w' r1 r2

/-- An empty slice of the call's own. -/
theorem own0 {w : World} {B g : Nat} {e : TypeId} (hb : w.heap[g]? = some (.cells #[] e (0, 0))) (hB : B ≤ g) : w.ownsRow B e 1 (.slice (some ⟨g, 0, none⟩) 0 0) 0 [] :=
  ⟨rfl, .inr ⟨g, 0, #[], rfl, hB, hb, Nat.le_refl _, by unfold maxLen; omega, rfl, rfl⟩⟩
theorem blk_at {w : World} {o : Obj} {g : Nat} (h : g = w.heap.size) : (w.alloc o).heap[g]? = some o := by rw [h]; exact Deep.blk_alloc_new _ _
theorem blk_old {w : World} {o o' : Obj} {g : Nat} (h : w.heap[g]? = some o) : (w.alloc o').heap[g]? = some o := ((Ext.refl w).alloc o').block h
theorem blk_drew {w : World} {o : Obj} {g : Nat} (h : w.heap[g]? = some o) : w.drew.heap[g]? = some o := h
theorem blk_drewN {w : World} {o : Obj} {g n : Nat} (h : w.heap[g]? = some o) : (w.drewN n).heap[g]? = some o := h
/-- A world with some blocks more. -/
theorem Ext.of_push {w W : World} (os : Array Obj) (h1 : W.os = w.os) (h2 : W.tape = w.tape) (h3 : W.output = w.output) (h4 : W.heap = w.heap ++ os) : Ext w W :=
  ⟨h1, h2, h3, by rw [h4]; simp, fun j hj => by rw [h4, Array.getElem?_append_left hj]⟩
/-- Two numbers in a block of the call's own. -/
theorem two_is {w : World} {g : Nat} {e : TypeId} {x y : Int} (hb : w.heap[g]? = some (.cells #[.int .i64 x, .int .i64 y] e (0, 0))) : IS .i64 w (.slice (some ⟨g, 0, none⟩) 2 2) 2 [x, y] :=
  IS.mk rfl (Nat.le_refl _) (by unfold maxLen; omega) fun i hi => by
    rw [Nat.zero_add]
    have : i = 0 ∨ i = 1 := by omega
    rcases this with rfl | rfl <;> simp [World.cell?, hb, gi]

theorem IS.upto {k : IntKind} {w : World} {a : Option Addr} {n c c' : Nat} {xs : List Int} (h : IS k w (.slice a n c) c' xs) {m : Nat} (hm : m ≤ n) : IS k w (.slice a m c) c' (xs.take m) := by
  obtain ⟨rfl, rfl, hc⟩ := h.len
  obtain ⟨ao, hv, h1, h2, h3, h4⟩ := h
  simp only [Value.slice.injEq] at hv
  obtain ⟨rfl, _, _⟩ := hv
  refine ⟨a, by simp [Nat.min_eq_left hm], by simp; omega, h2, h3, fun b hb => ⟨(h4 b hb).1, fun j u hj => (h4 b hb).2 j u ?_⟩⟩
  rw [List.map_take, List.getElem?_take] at hj
  split at hj
  · exact hj
  · cases hj

theorem IS.empty {k : IntKind} {w : World} (a : Option Addr) : IS k w (.slice a 0 0) 0 [] :=
  ⟨a, rfl, Nat.le_refl _, by unfold maxLen; omega, fun _ => rfl, fun b hb => ⟨fun h => absurd h (by omega), fun j u hj => by simp at hj⟩⟩
/-- The part of a slice from i on. -/
theorem IS.from {k : IntKind} {w : World} {a : Option Addr} {n c c' : Nat} {xs : List Int} (h : IS k w (.slice a n c) c' xs) (i : Nat) (hi : i ≤ n) :
    (∃ b o, a = some ⟨b, o, none⟩ ∧ IS k w (.slice (if c = i then some ⟨b, o, none⟩ else some ⟨b, o + i, none⟩) (n - i) (c - i)) (c - i) (xs.drop i)) ∨ (c = 0 ∧ n = 0 ∧ i = 0 ∧ xs = []) := by
  obtain ⟨h1, h2, ao, hv, hao⟩ := h.open
  simp only [Value.slice.injEq] at hv
  obtain ⟨rfl, rfl, rfl⟩ := hv
  rcases hao with ⟨_, h0, h9⟩ | ⟨b, o, rfl, hc⟩
  · exact .inr ⟨h9, h0, by omega, List.eq_nil_of_length_eq_zero h0⟩
  · refine .inl ⟨b, o, rfl, ?_⟩
    split
    · exact IS.mk (by simp) (by omega) (by omega) fun j hj => by omega
    · exact IS.mk (by simp) (by omega) (by omega) fun j hj => by rw [gi_drop, Nat.add_assoc]; exact hc (i + j) (by omega)

/-- 'append(s, x...)' within the capacity, with all that is known of the new world. -/
theorem app_fits_g {P : Program} {t e : TypeId} {z : Value} {bytes : Nat} (ei : EI P t e z bytes) {w : World} {ops : Array Oper} {rest : List Oper} {o : Oper} {a : Act} {Q : Exit → Act → World → Prop}
    (hg : o.guard = none) (s x : Operand) (hop : o.op = Op.call { callee := Callee.builtin Builtin.append, args := #[s, x], argTypes := #[t, t] })
    (B g n cap : Nat) (xs : List Value) (hs : a.eval s = .slice (some ⟨g, 0, none⟩) n cap) (hown : w.ownsRow B e 1 (.slice (some ⟨g, 0, none⟩) n cap) n xs)
    (y : Value) (c : Nat) (ys : List Value) (hx : a.eval x = y) (hy : VS w y c ys) (h1 : ∀ u ∈ ys, u.oneCell' = true) (hfit : n + ys.length ≤ cap)
    (hK : ∀ w', w'.ownsRow B e 1 (.slice (some ⟨g, 0, none⟩) (n + ys.length) cap) (n + ys.length) (xs ++ ys) → w.grownBy w' (some g) → wpList P ops Q rest (a.put o.dst (.slice (some ⟨g, 0, none⟩) (n + ys.length) cap)) w') :
    wpList P ops Q (o :: rest) a w := by
  obtain ⟨i, hi, hz0, hz1, hz2⟩ := info_parts ei.info
  obtain ⟨ao, rfl, hl, hm, hno, hc⟩ := hy
  refine wpList_append_fits_any w hg s x t hop B e i 1 ei.und hi hz1 g n cap xs hs hown ao ys.length c ys hx (by simp) (fun h => ?_) (VS.cells hl hc) h1 hfit ?_
  · have := hno h; omega
  · intro w' h2 h3
    exact hK w' h2 h3

theorem own_of_row {w : World} {g m n : Nat} {e : TypeId} {f : Nat → Value} (h : w.rowIs g e n f) (hm : m ≤ n) (hn : n ≤ maxLen) : w.ownsRow g e 1 (.slice (some ⟨g, 0, none⟩) m n) m ((List.range m).map f) := by
  obtain ⟨cur, h1, h2, h3⟩ := h
  refine ⟨by simp, .inr ⟨g, n, cur, rfl, Nat.le_refl _, h1, hm, hn, by omega, ?_⟩⟩
  apply List.ext_getElem?
  intro i
  simp only [Nat.mul_one]
  by_cases hi : i < m
  · rw [List.getElem?_take, if_pos hi, Array.getElem?_toList, h3 i (by omega)]; simp [hi]
  · rw [List.getElem?_eq_none (by simp; omega), List.getElem?_eq_none (by simp; omega)]

/-- A slice of pairs of bytes: nothing, or an address and the cells. -/
def PS (w : World) (v : Value) (c : Nat) (ms : List (Int × Int)) : Prop :=
  ∃ ao : Option Addr, v = .slice ao ms.length c ∧ ms.length ≤ c ∧ c ≤ maxLen ∧ (ms = [] ∨ ∃ b o, ao = some ⟨b, o, none⟩ ∧
    ∀ i, i < ms.length → w.cell? ⟨b, o + i * 2, none⟩ = some (.int .u8 (ms.getD i (0, 0)).1) ∧ w.cell? ⟨b, o + i * 2 + 1, none⟩ = some (.int .u8 (ms.getD i (0, 0)).2))
theorem PS.ext {w w' : World} {v : Value} {c : Nat} {ms : List (Int × Int)} (h : PS w v c ms) (e : Ext w w') : PS w' v c ms := by
  obtain ⟨ao, h1, h2, h3, h4⟩ := h
  refine ⟨ao, h1, h2, h3, ?_⟩
  rcases h4 with h4 | ⟨b, o, h5, h6⟩
  · exact .inl h4
  · exact .inr ⟨b, o, h5, fun i hi => ⟨e.cell (h6 i hi).1, e.cell (h6 i hi).2⟩⟩
def pi (ms : List (Int × Int)) (i : Nat) : Int × Int := ms.getD i (0, 0)
theorem pi_take {ms : List (Int × Int)} {k : Nat} (h : k < ms.length) : ms.take (k + 1) = ms.take k ++ [pi ms k] := by
  rw [List.take_succ_eq_append_getElem h]; unfold pi; simp [List.getD, h]
theorem PS.open {w : World} {v : Value} {c : Nat} {ms : List (Int × Int)} (h : PS w v c ms) : ∃ ao n, v = .slice ao n c ∧ n = ms.length ∧ n ≤ c ∧ c ≤ maxLen ∧ ∀ i, i < n → ∃ b o, ao = some ⟨b, o, none⟩ ∧ w.cell? ⟨b, o + i * 2, none⟩ = some (.int .u8 (pi ms i).1) ∧ w.cell? ⟨b, o + i * 2 + 1, none⟩ = some (.int .u8 (pi ms i).2) := by
  obtain ⟨ao, h1, h2, h3, h4⟩ := h
  refine ⟨ao, _, h1, rfl, h2, h3, fun i hi => ?_⟩
  rcases h4 with h4 | ⟨b, o, h5, h6⟩
  · rw [h4] at hi; simp at hi
  · exact ⟨b, o, h5, h6 i hi⟩
end Go.Proofs.YtinijapkipeamaaDoor
/- What charts.Loads computes, in plain Lean, and the list of rows that it builds in memory. -/
namespace Go.Proofs.YtinijapkipeamaaDoor
set_option linter.unusedVariables false
set_option linter.unusedSimpArgs false
open Go Go.RowKit

/-- A row's stitches on the slots before it: the error, and the slots behind it. -/
def ldRow : List St → List Int → List Int → Int × List Int
  | [], _, acc => (0, acc)
  | s :: r, bf, acc => if s.lerr (bf.take s.need.toNat) ≠ 0 then (s.lerr (bf.take s.need.toNat), []) else ldRow r (bf.drop s.need.toNat) (acc ++ s.lmade (bf.take s.need.toNat))
def ldRows : List (List St) → List Int → List (List Int) → Int × List (List Int)
  | [], _, acc => (0, acc)
  | r :: rs, bf, acc => if (ldRow r bf []).1 ≠ 0 then ((ldRow r bf []).1, []) else ldRows rs (ldRow r bf []).2 (acc ++ [(ldRow r bf []).2])
def first (rows : List (List St)) : List Int := List.replicate (rneed (sw rows 0)).toNat 1
/-- The error of a chart, and the numbers of loops of its slots. -/
def cloads (rows : List (List St)) : Int × List (List Int) := if cerr rows ≠ 0 then (cerr rows, []) else ldRows rows (first rows) [first rows]

theorem drop_si {r : List St} {k : Nat} (h : k < r.length) : r.drop k = si r k :: r.drop (k + 1) := by rw [si_of_lt h]; exact List.drop_eq_getElem_cons h
theorem drop_sw {r : List (List St)} {k : Nat} (h : k < r.length) : r.drop k = sw r k :: r.drop (k + 1) := by rw [sw_of_lt h]; exact List.drop_eq_getElem_cons h
theorem ldRow_bad {r : List St} {k : Nat} (h : k < r.length) {bf acc : List Int} (hb : (si r k).lerr (bf.take (si r k).need.toNat) ≠ 0) : ldRow (r.drop k) bf acc = ((si r k).lerr (bf.take (si r k).need.toNat), []) := by
  rw [drop_si h, ldRow, if_pos hb]
theorem ldRow_next {r : List St} {k : Nat} (h : k < r.length) {bf acc : List Int} (hb : (si r k).lerr (bf.take (si r k).need.toNat) = 0) : ldRow (r.drop k) bf acc = ldRow (r.drop (k + 1)) (bf.drop (si r k).need.toNat) (acc ++ (si r k).lmade (bf.take (si r k).need.toNat)) := by
  rw [drop_si h, ldRow, if_neg (by omega)]
theorem ldRow_end {r : List St} {k : Nat} (h : r.length ≤ k) {bf acc : List Int} : ldRow (r.drop k) bf acc = (0, acc) := by rw [List.drop_eq_nil_of_le h]; rfl
theorem ldRows_bad {r : List (List St)} {k : Nat} (h : k < r.length) {bf : List Int} {acc : List (List Int)} (hb : (ldRow (sw r k) bf []).1 ≠ 0) : ldRows (r.drop k) bf acc = ((ldRow (sw r k) bf []).1, []) := by
  rw [drop_sw h, ldRows, if_pos hb]
theorem ldRows_next {r : List (List St)} {k : Nat} (h : k < r.length) {bf : List Int} {acc : List (List Int)} (hb : (ldRow (sw r k) bf []).1 = 0) : ldRows (r.drop k) bf acc = ldRows (r.drop (k + 1)) (ldRow (sw r k) bf []).2 (acc ++ [(ldRow (sw r k) bf []).2]) := by
  rw [drop_sw h, ldRows, if_neg (by omega)]
theorem ldRows_end {r : List (List St)} {k : Nat} (h : r.length ≤ k) {bf : List Int} {acc : List (List Int)} : ldRows (r.drop k) bf acc = (0, acc) := by rw [List.drop_eq_nil_of_le h]; rfl
theorem rneed_drop {r : List St} {k : Nat} (h : k < r.length) : rneed (r.drop k) = (si r k).need + rneed (r.drop (k + 1)) := by rw [drop_si h, rneed_cons]
theorem rmake_drop {r : List St} {k : Nat} (h : k < r.length) : rmake (r.drop k) = (si r k).make + rmake (r.drop (k + 1)) := by rw [drop_si h, rmake_cons]
theorem lmade_len {s : St} {xs : List Int} (h : s.lerr xs = 0) : (s.lmade xs).length = s.make.toNat := by
  have hc : s.chk = 0 := by
    rcases St.chk_cases s with e | e
    · exact e
    · rw [lerr_chk (by omega)] at h; omega
  have hm : s.make = if s.k = 8 then s.a + s.b else 1 := by unfold St.make; rw [if_neg (by omega)]
  unfold St.lmade
  rw [if_neg (by omega)]
  by_cases h6 : s.k = 6
  · rw [if_pos h6, hm, if_neg (by omega)]; rfl
  · rw [if_neg h6]
    by_cases h7 : s.k = 7
    · rw [if_pos h7, hm, if_neg (by omega)]; rfl
    · rw [if_neg h7]; simp

/-! ### The list of rows in memory -/
/-- Block g holds the slices of the rows laid so far; each row lies in a block of its own. -/
structure LS (eI eR : TypeId) (w wr : World) (g n : Nat) (rows : List (List Int)) (q : Nat → Nat) : Prop where
  ext : Ext w wr
  own : wr.ownsRow g eR 1 (.slice (some ⟨g, 0, none⟩) rows.length n) rows.length ((List.range rows.length).map fun j => .slice (some ⟨q j, 0, none⟩) (ri rows j).length (ri rows j).length)
  cells : ∀ j, j < rows.length → q j ≠ g ∧ (ri rows j).length ≤ maxLen ∧ wr.rowIs (q j) eI (ri rows j).length (fun i => .int .i64 (gi (ri rows j) i))
theorem LS.later {eI eR : TypeId} {w wr wr' : World} {g n : Nat} {rows : List (List Int)} {q : Nat → Nat} (h : LS eI eR w wr g n rows q) (x : Ext wr wr') : LS eI eR w wr' g n rows q :=
  ⟨h.ext.trans x, own_ext h.own x, fun j hj => ⟨(h.cells j hj).1, (h.cells j hj).2.1, x.row (h.cells j hj).2.2⟩⟩
theorem LS.is {eI eR : TypeId} {w wr : World} {g n : Nat} {rows : List (List Int)} {q : Nat → Nat} (h : LS eI eR w wr g n rows q) {j : Nat} (hj : j < rows.length) : IS .i64 wr (.slice (some ⟨q j, 0, none⟩) (ri rows j).length (ri rows j).length) (ri rows j).length (ri rows j) :=
  IS.of_row (h.cells j hj).2.2 rfl (h.cells j hj).2.1 (fun i hi => rfl)
theorem LS.at {eI eR : TypeId} {w wr : World} {g n : Nat} {rows : List (List Int)} {q : Nat → Nat} (h : LS eI eR w wr g n rows q) {j : Nat} (hj : j < rows.length) : wr.cell? ⟨g, j, none⟩ = some (.slice (some ⟨q j, 0, none⟩) (ri rows j).length (ri rows j).length) := by
  obtain ⟨g', cap, f, hv, _, _, hnc, _, hrow, hf⟩ := own_open h.own (by omega)
  simp only [Value.slice.injEq, Option.some.injEq, Addr.mk.injEq, and_true, true_and] at hv
  obtain ⟨rfl, rfl⟩ := hv
  rw [hrow.cell (by omega), hf j (.slice (some ⟨q j, 0, none⟩) (ri rows j).length (ri rows j).length) (by simp [hj])]
theorem LS.lt {eI eR : TypeId} {w wr : World} {g n : Nat} {rows : List (List Int)} {q : Nat → Nat} (h : LS eI eR w wr g n rows q) (h0 : 0 < rows.length) : g < wr.heap.size ∧ rows.length ≤ n ∧ n ≤ maxLen := by
  obtain ⟨g', cap, f, hv, _, hlt, hnc, hcm, _, _⟩ := own_open h.own h0
  simp only [Value.slice.injEq, Option.some.injEq, Addr.mk.injEq, and_true, true_and] at hv
  obtain ⟨rfl, rfl⟩ := hv
  exact ⟨hlt, hnc, hcm⟩
theorem ri_app (a : List (List Int)) (x : List Int) {j : Nat} (h : j < a.length) : ri (a ++ [x]) j = ri a j := by unfold ri; simp [List.getD, List.getElem?_append_left h]
theorem ri_new (a : List (List Int)) (x : List Int) : ri (a ++ [x]) a.length = x := by unfold ri; simp [List.getD]
theorem LS.push {eI eR : TypeId} {w wr w' : World} {g n p : Nat} {rows : List (List Int)} {q : Nat → Nat} {new : List Int} (h : LS eI eR w wr g n rows q) (hg : w.heap.size ≤ g) (hp : p ≠ g) (hm : new.length ≤ maxLen)
    (hr : wr.rowIs p eI new.length (fun i => .int .i64 (gi new i)))
    (hown : w'.ownsRow g eR 1 (.slice (some ⟨g, 0, none⟩) (rows.length + 1) n) (rows.length + 1) (((List.range rows.length).map fun j => .slice (some ⟨q j, 0, none⟩) (ri rows j).length (ri rows j).length) ++ [.slice (some ⟨p, 0, none⟩) new.length new.length]))
    {o : Obj} (hgr : (wr.alloc o).grownBy w' (some g)) : LS eI eR w w' g n (rows ++ [new]) (fun j => if j = rows.length then p else q j) := by
  have keep : ∀ (b : Nat) (m : Nat) (f : Nat → Value), b ≠ g → wr.rowIs b eI m f → w'.rowIs b eI m f := fun b m f hb hr => by
    have h2 := ((Ext.refl wr).alloc o).row hr
    exact h2.of_block (hgr.block b h2.lt (fun e => hb (Option.some.inj e)))
  refine ⟨(h.ext.alloc o).grown hgr (fun k hk => by rw [← Option.some.inj hk]; exact hg), ?_, fun j hj => ?_⟩
  · rw [List.length_append, List.length_singleton]
    have e : ((List.range (rows.length + 1)).map fun j => Value.slice (some ⟨(if j = rows.length then p else q j), 0, none⟩) (ri (rows ++ [new]) j).length (ri (rows ++ [new]) j).length) = ((List.range rows.length).map fun j => .slice (some ⟨q j, 0, none⟩) (ri rows j).length (ri rows j).length) ++ [.slice (some ⟨p, 0, none⟩) new.length new.length] := by
      rw [List.range_succ, List.map_append]
      congr 1
      · refine List.map_congr_left fun j hj => ?_
        have hj := List.mem_range.1 hj
        rw [if_neg (by omega), ri_app _ _ hj]
      · simp [ri_new]
    rw [e]; exact hown
  · rw [List.length_append, List.length_singleton] at hj
    by_cases e : j = rows.length
    · subst e
      simp only [if_true, ri_new]
      exact ⟨hp, hm, keep _ _ _ hp hr⟩
    · simp only [if_neg e, ri_app rows new (show j < rows.length by omega)]
      have := h.cells j (by omega)
      exact ⟨this.1, this.2.1, keep _ _ _ this.1 this.2.2⟩
theorem LS.ret {eI eR : TypeId} {w wr : World} {g n : Nat} {rows : List (List Int)} {q : Nat → Nat} (h : LS eI eR w wr g n rows q) (hn : rows.length = n) (h0 : 0 < n) : ISX .i64 wr (.slice (some ⟨g, 0, none⟩) n n) n rows := by
  have hlt := h.lt (by omega)
  refine ⟨fun j => .slice (some ⟨q j, 0, none⟩) (ri rows j).length (ri rows j).length, ISV.mk' hn.symm (Nat.le_refl _) hlt.2.2 (fun j hj => ?_) (fun j hj => h.is (by omega))⟩
  rw [Nat.zero_add]; exact h.at (by omega)
end Go.Proofs.YtinijapkipeamaaDoor
